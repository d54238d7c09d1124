/- SectorAll: the walk. -/
import Derived.Test.YtkjhpaeminegoaaSe18
import Derived.Test.YtkjhpaeminegoaaED

namespace Go.Proofs.Ytkjhpaeminegoaa
open Go.Eng

theorem StepsAt.chg {po : Option Addr} {n b x : Nat} {f : Nat → SStep} {w w' : World} (h : StepsAt po n f b x w) (hc : Chg (fun _ _ => False) w w') : StepsAt po n f b x w' :=
  ⟨h.po, fun i hi j v hj => cell_of_chg hc (fun h => h) (h.row i hi j v hj), fun i hi h0 => by
    obtain ⟨b, y, h1, h2⟩ := h.by' i hi h0
    exact ⟨b, y, h1, fun j hj => cell_of_chg hc (fun h => h) (h2 j hj)⟩⟩

/-- the cells of a step -/
def SStep.svs (e : SStep) : List SV := [.int .i64 (.v e.kd), .int .i64 (.v e.i), .int .i64 (.v e.at'), .slv e.bp e.bn e.bc, .bool (.v e.torn), .int .u8 (.v e.by')]

theorem SStep.svs_at (e : SStep) (j : Nat) (c : SV) (h : e.svs[j]? = some c) : ∃ v, c.den [] = some v ∧ e.vals[j]? = some v := by
  match j, h with
  | 0, h | 1, h | 2, h | 3, h | 4, h | 5, h => simp only [SStep.svs, List.getElem?_cons_zero, List.getElem?_cons_succ, Option.some.injEq] at h; subst h; exact ⟨_, rfl, rfl⟩
  | j + 6, h => simp [SStep.svs] at h

/-- the bytes of a step, as they lie in what does not change -/
theorem StepsAt.bytes {po : Option Addr} {n b x : Nat} {f : Nat → SStep} {w w' : World} {im : Nat → Nat → Option Value} (h : StepsAt po n f b x w) (him : ∀ {k o v}, w.cell? ⟨k, o, none⟩ = some v → im k o = some v) (hi : ∀ k o v, im k o = some v → w'.cell? ⟨k, o, none⟩ = some v) {i : Nat} (hin : i < n) : BytesIn (f i).bp (f i).bn (f i).g w' := fun h0 => by
  obtain ⟨b, y, h1, h2⟩ := h.by' i hin h0
  exact ⟨b, y, h1, fun j hj => hi _ _ _ (him (h2 j hj))⟩

theorem StepsAt.low {po : Option Addr} {n b x : Nat} {f : Nat → SStep} {w : World} (h : StepsAt po n f b x w) {i : Nat} (hin : i < n) (h0 : 0 < (f i).bn) (k y : Nat) (e : (f i).bp = some ⟨k, y, none⟩) : k < w.heap.size := by
  obtain ⟨b, y', h1, h2⟩ := h.by' i hin h0
  rw [e] at h1
  cases h1
  have := World.block_lt_of_cell? _ _ (h2 0 h0)
  exact this

/-- where two disks are written side by side -/
structure AllG (B size count n cb cy db dy : Nat) where
  (i : Nat) (c d : Dk) (l : Wl)
  hi : i ≤ n
  hl : l.length ≤ i
  pc : Plain B size count (fun _ _ => 0) l c
  pd : Plain B size count (fun _ _ => 0) l d
  ap : Apart c d
  cb' : c.b = cb
  cy' : c.y = cy
  db' : d.b = db
  dy' : d.y = dy

theorem wlog_len {size count : Nat} {l : Wl} {i : Int} {n : Nat} {g : Nat → Int} : (wlog size count l i n g).length ≤ l.length + 1 := by
  unfold wlog; split <;> simp

section
open Go
variable {E : Ctx} {T : Tab} {all : Array Oper} {i : Nat} {rest : List Nat} {k : List It} {s : St} {o : Oper} {f : Fr}

/-- 'string(b)' of a region's bytes, under a name -/
theorem toStrU {src e dst : TypeId} {x : Operand} {r n : Nat} {kc : Option Nat} {G : Nat → Int} {g : Rg} (u : ByteArray) (hu : u = strG G n) (ho : nth all.toList i = some o) (hg : o.guard = none) (hop : o.op = .convert src dst x) (hx : ev s.fr x = some (.osl r 0 n 1 kc)) (hr : s.rg[r]? = some g) (hgc : g.cells = bytesL G n)
    (hs : E.P.underlying src = some (.slice e)) (he : E.P.underlying e = some (.int .u8)) (hd : E.P.underlying dst = some .string)
    (hp : putO E.n s.fr o.dst (.val (.raw (.string u))) = some f) (hk : X E (.ops all rest :: k) ⟨f, s.rg⟩) : X E (.ops all (i :: rest) :: k) s := by
  subst hu
  exact toStr ho hg hop hx hr hgc hs he hd hp hk
end

set_option maxHeartbeats 8000000 in
set_option maxRecDepth 100000 in
set_option cbv.maxSteps 100000000 in
theorem secAll_far (size count : Int) (po : Option Addr) (n cp b x : Nat) (f : Nat → SStep) (w : World) (hl : StepsAt po n f b x w) (hs : ¬ smallS size count n f) :
    Calls Try.prog 4 #[.int .i64 size, .int .i64 count, .slice po n cp] w fun e w' => e = .returned (.bool true) ∧ Chg (fun _ _ => False) w w' := by
  refine X.begin (rg := []) (N := []) (ss := [.int .i64 (.v size), .int .i64 (.v count), .slv po n cp]) Try.func4 rfl B4_ok rfl rfl Sat.std0 ?_
  refine X.go T4_ok 400 _ rfl Try.results4 ?_
  conv => arg 2; cbv
  refine X.call rfl rfl rfl rfl Try.call10 (fun N w1 args hN hS ha => ?_)
  obtain rfl : [Value.int .i64 size, .int .i64 count, .slice po n cp] = args := Option.some.inj ha
  refine (great12_ok size count po n cp b x f w1 (hl.chg (hS.chg.mono fun k o _ h => inR_nil h))).mono fun e w2 ⟨g, he, hg, hc⟩ => ⟨_, he, ?_⟩
  obtain rfl : g = true := by
    cases g with
    | true => rfl
    | false => exact absurd (hg rfl) hs
  refine Goes.same (r := .bool (.lit true)) hN hS hc rfl rfl ?_
  clear ha he hc hS hN
  refine X.go T4_ok 400 _ rfl Try.results4 ?_
  conv => arg 2; cbv
  refine X.call rfl rfl rfl rfl Try.call11 (fun N w1 args hN hS ha => ?_)
  obtain rfl : ([] : List Value) = args := Option.some.inj ha
  refine (awake12_ok w1).mono fun e w2 ⟨he, hc⟩ => ⟨_, he, Goes.same (r := .bool (.lit true)) hN hS hc rfl rfl ?_⟩
  refine X.go T4_ok 400 _ rfl Try.results4 ?_
  conv => arg 2; cbv
  refine X.done T4_ok rfl (fun N w' v hN hS hv => ?_)
  refine ⟨?_, hS.chg.mono fun k o _ h => inR_nil h⟩
  simp [resV, SV.den, SB.den] at hv
  rw [← hv]

set_option maxHeartbeats 8000000 in
set_option maxRecDepth 100000 in
set_option cbv.maxSteps 100000000 in
theorem secAll_in (size count : Nat) (po : Option Addr) (n cp b x : Nat) (f : Nat → SStep) (w : World) (hl : StepsAt po n f b x w) (hs : smallS size count n f) :
    Calls Try.prog 4 #[.int .i64 (size : Int), .int .i64 (count : Int), .slice po n cp] w fun e w' => e = .returned (.bool true) ∧ Chg (fun _ _ => False) w w' := by
  obtain ⟨Q, hQ⟩ : ∃ Q : Ending → World → Prop, Q = fun e w' => e = .returned (.bool true) ∧ Chg (fun _ _ => False) w w' := ⟨_, rfl⟩
  rw [← hQ]
  obtain ⟨z1, z2, z3, z4, hn60, hbn⟩ := hs
  have hsz : sizesOk size count := by unfold sizesOk; omega
  refine X.begin (rg := []) (N := []) (ss := [.int .i64 (.nat size), .int .i64 (.nat count), .slv po n cp]) Try.func4 rfl B4_ok rfl rfl Sat.std0 ?_
  obtain ⟨im, hime⟩ : ∃ im, im = elsewhere [] [] w := ⟨_, rfl⟩
  have him : ∀ {k o v}, w.cell? ⟨k, o, none⟩ = some v → im k o = some v := fun h => by rw [hime, elsewhere_not inR_nil]; exact h
  have himn : ∀ k o, w.heap.size ≤ k → im k o = none := fun k o h => by
    rw [hime]; unfold elsewhere
    rw [if_neg inR_nil]
    cases hc : w.cell? ⟨k, o, none⟩ with
    | none => rfl
    | some v => have := World.block_lt_of_cell? _ _ hc; simp only at this; omega
  show X (mkE Try.prog Try.f4 Q w (InR [] []) (elsewhere [] [] w) (fun _ _ => False) (fun _ => True) [] B4) _ _
  rw [← hime]
  refine X.go T4_ok 400 _ rfl Try.results4 ?_
  conv => arg 2; cbv
  refine X.call rfl rfl rfl rfl Try.call10 (fun N w1 args hN hS ha => ?_)
  obtain rfl : [Value.int .i64 (size : Int), .int .i64 (count : Int), .slice po n cp] = args := Option.some.inj ha
  refine (great12_ok size count po n cp b x f w1 (hl.chg (hS.chg.mono fun k o _ h => inR_nil h))).mono fun e w2 ⟨g, he, hg, hc⟩ => ⟨_, he, ?_⟩
  refine Goes.same (r := .bool (.v g)) hN hS hc rfl rfl ?_
  clear ha he hc hS hN
  refine X.go T4_ok 400 _ rfl Try.results4 ?_
  conv => arg 2; cbv
  refine X.cond rfl (fun _ => ?_) (fun _ => ?_)
  · refine X.go T4_ok 400 _ rfl Try.results4 ?_
    conv => arg 2; cbv
    refine X.call rfl rfl rfl rfl Try.call11 (fun N w1 args hN hS ha => ?_)
    obtain rfl : ([] : List Value) = args := Option.some.inj ha
    refine (awake12_ok w1).mono fun e w2 ⟨he, hc⟩ => ⟨_, he, Goes.same (r := .bool (.lit true)) hN hS hc rfl rfl ?_⟩
    refine X.go T4_ok 400 _ rfl Try.results4 ?_
    conv => arg 2; cbv
    refine X.done T4_ok rfl (fun N w' v hN hS hv => ?_)
    rw [hQ]
    refine ⟨?_, hS.chg.mono fun k o _ h => inR_nil h⟩
    simp [resV, SV.den, SB.den] at hv
    rw [← hv]
  refine X.go T4_ok 400 _ rfl Try.results4 ?_
  conv => arg 2; cbv
  refine X.call rfl rfl rfl rfl Try.call12 (fun N w1 args hN hS ha => ?_)
  obtain rfl : [Value.int .i64 (size : Int), .int .i64 (count : Int)] = args := Option.some.inj ha
  refine (new_good size count w1 hsz).mono fun e w2 ⟨cb, cy, m, he, hb, hm, hd, hc⟩ => ⟨_, he, ?_⟩
  have hws : w.heap.size ≤ w1.heap.size := hS.chg.size
  have pc := plain_new (B := w.heap.size) (b := cb) (y := cy) (m := m) (size := size) (count := count) (by omega) (by omega) (by omega) (by omega)
  obtain ⟨c, hce⟩ : ∃ c, c = newDk cb cy size count m := ⟨_, rfl⟩
  have hcb : c.b = cb := by rw [hce]; rfl
  have hcy : c.y = cy := by rw [hce]; rfl
  rw [← hce] at hd pc
  refine Goes.turn (r := .tup [.ext cb cy 0, .int .i64 (.lit 0)]) c.D (DiskAt c) hN hS (hc.mono fun _ _ _ h => h.elim) (fun _ _ h => h.elim) (fun _ _ h => h.elim) (fun g hg => by simp at hg) (fun k o hk => ⟨.inr ?_, hd.there hk⟩) DiskAt.loc hd rfl rfl ?_
  · rw [hce] at hk
    rcases newDk_D hk with rfl | rfl <;> assumption
  clear ha he hc hS hN hd hb hm hws hce
  show X (mkE Try.prog Try.f4 Q w (InR [] []) im c.D (DiskAt c) [] B4) _ _
  refine X.go T4_ok 400 _ rfl Try.results4 ?_
  conv => arg 2; cbv
  refine X.call rfl rfl rfl rfl Try.call12 (fun N w1 args hN hS ha => ?_)
  obtain rfl : [Value.int .i64 (size : Int), .int .i64 (count : Int)] = args := Option.some.inj ha
  refine (new_good size count w1 hsz).mono fun e w2 ⟨db, dy, m, he, hb, hm, hd, hc⟩ => ⟨_, he, ?_⟩
  have hws : w.heap.size ≤ w1.heap.size := hS.chg.size
  have pd := plain_new (B := w.heap.size) (b := db) (y := dy) (m := m) (size := size) (count := count) (by omega) (by omega) (by omega) (by omega)
  obtain ⟨d, hde⟩ : ∃ d, d = newDk db dy size count m := ⟨_, rfl⟩
  have hdb : d.b = db := by rw [hde]; rfl
  have hdy : d.y = dy := by rw [hde]; rfl
  rw [← hde] at hd pd
  have hfar : ∀ k o, d.D k o → w1.heap.size ≤ k := fun k o hk => by
    rw [hde] at hk
    rcases newDk_D hk with rfl | rfl <;> assumption
  have hP : PairAt c d w2 := ⟨hS.res.chk hc, hd⟩
  have hap : Apart c d := fun k o h1 h2 => by have := (hS.res.there h1).lt; have := hfar k o h2; omega
  refine Goes.turn (r := .tup [.ext db dy 0, .int .i64 (.lit 0)]) (pairD c d) (PairAt c d) hN hS (hc.mono fun _ _ _ h => h.elim) (fun k o h => .inl (pc.far k o h)) (fun k o h => himn k o (pc.far k o h)) (fun g hg => by simp at hg) (fun k o hk => ⟨hk.imp id (hfar k o), hP.there hk⟩) PairAt.loc hP rfl rfl ?_
  clear ha he hc hS hN hd hb hm hws hde hfar hP
  show X (mkE Try.prog Try.f4 Q w (InR [] []) im (pairD c d) (PairAt c d) [] B4) _ _
  refine X.go T4_ok 400 _ rfl Try.results4 ?_
  conv => arg 2; cbv
  refine X.loop (E := mkE Try.prog Try.f4 Q w (InR [] []) im (pairD c d) (PairAt c d) [] B4)
    (fun g : AllG w.heap.size size count n cb cy db dy => mkE Try.prog Try.f4 Q w (InR [] []) im (pairD g.c g.d) (PairAt g.c g.d) [] B4)
    (fun g => ⟨[(0, .val (.int .i64 (.nat size))), (1, .val (.int .i64 (.nat count))), (2, .val (.slv po n cp)), (7, .val (.ext cb cy 0)), (9, .val (.ext db dy 0)), (11, .val (.int .i64 (.nat g.i)))], []⟩) (fun g => n - g.i) (fun g => ⟨rfl, rfl, rfl, rfl⟩) (fun N a w' hN hf hS => ⟨⟨0, c, d, [], Nat.zero_le _, Nat.zero_le _, pc, pd, hap, hcb, hcy, hdb, hdy⟩, ?_⟩) (fun g q hq => ?_)
  · exact At.same hN hf hS (Nat.zero_le _) ⟨⟨_, rfl, .inl ⟨rfl, rfl⟩⟩, ⟨_, rfl, .inl ⟨rfl, rfl⟩⟩, ⟨_, rfl, .inl ⟨rfl, rfl⟩⟩, ⟨_, rfl, .inl ⟨rfl, rfl⟩⟩, ⟨_, rfl, .inl ⟨rfl, rfl⟩⟩, ⟨_, rfl, .inr ⟨_, rfl, rfl⟩⟩, trivial⟩ trivial
  clear pc pd hap hcb hcy hdb hdy
  clear c d
  obtain ⟨i, c, d, l, hi, hll, pc, pd, hap, rfl, rfl, rfl, rfl⟩ := g
  show X (mkE Try.prog Try.f4 Q w (InR [] []) im (pairD c d) (PairAt c d) [] B4) _ _
  have hO : ∀ k o, pairD c d k o → w.heap.size ≤ k := fun k o h => h.elim (pc.far k o) (pd.far k o)
  refine X.go T4_ok 400 _ rfl Try.results4 ?_
  conv => arg 2; cbv
  refine X.cond rfl (fun hlt => ?_) (fun hge => ?_)
  · simp only [SB.T, SI.den] at hlt
    have hlt : i < n := by omega
    refine X.go T4_ok 400 _ rfl Try.results4 ?_
    conv => arg 2; cbv
    obtain ⟨z, hz⟩ : ∃ z, z = x + i * 6 := ⟨_, rfl⟩
    obtain ⟨e, he⟩ : ∃ e, e = f i := ⟨_, rfl⟩
    have hb6 := hbn i hlt
    have hby := fun (w' : World) (hw : ∀ k o v, im k o = some v → w'.cell? ⟨k, o, none⟩ = some v) => hl.bytes him hw hlt
    have hlow := hl.low hlt
    have hrow := hl.row i hlt
    rw [← he] at hb6 hlow hrow
    simp only [← he] at hby
    obtain ⟨kd, ei, eat, bp, bn, bc, torn, eby, eg⟩ := e
    refine X.see b z (SStep.svs ⟨kd, ei, eat, bp, bn, bc, torn, eby, eg⟩) (fun j c hj => ?_) (by simp [SStep.svs]) (fun N0 hN0 hNl => ?_)
    · obtain ⟨v, h1, h2⟩ := SStep.svs_at _ j c hj
      exact ⟨v, h1, him (by rw [hz]; exact hrow j v h2)⟩
    obtain rfl : N0 = [] := List.eq_nil_of_length_eq_zero hNl
    have hpo := hl.po (by omega)
    have hr : ∀ N : Nums, Nums.le ([] ++ [⟨b, z, 0⟩]) N → (SV.own 0 0).den N = some (.pointer (some ⟨b, x + i * 6, none⟩)) := fun N hN => by
      have := hN 0 _ rfl
      simp only [SV.den, this, hz, Nat.add_zero]
    refine X.drawnI (fn := Try.f4) T4_ok noCall (idxG 122 [⟨3, 55, 56, 57, 22, i, .slv po n cp, .own 0 0⟩, ⟨8, 60, 61, 62, 22, i, .slv po n cp, .own 0 0⟩, ⟨15, 67, 68, 69, 22, i, .slv po n cp, .own 0 0⟩, ⟨20, 72, 73, 74, 22, i, .slv po n cp, .own 0 0⟩]) 11 [23, 24] [] 22 rfl (by kernel_rfl) rfl noCall_ok (idxG_ok _ (by kernel_rfl) (fun q hq => ?_)) 122 rfl ?_
    · simp only [List.mem_cons, List.not_mem_nil, or_false] at hq
      rcases hq with rfl | rfl | rfl | rfl <;> exact good_slv Try.underlying22 Try.sizeOf32 hpo hlt hr
    obtain ⟨wc, hwc⟩ : ∃ wc, wc = wcode size count ei bn := ⟨_, rfl⟩
    have hreg : ∀ j, j < 6 → ¬ pairD c d b (z + j) := fun j hj hd => by
      have h1 := hO _ _ hd
      have h2 : ∃ v, w.cell? ⟨b, z + j, none⟩ = some v := by
        obtain ⟨v, hv⟩ : ∃ v, (SStep.vals ⟨kd, ei, eat, bp, bn, bc, torn, eby, eg⟩)[j]? = some v := ⟨_, List.getElem?_eq_getElem (by simp [SStep.vals]; exact hj)⟩
        exact ⟨v, by rw [hz]; exact hrow j v hv⟩
      obtain ⟨v, hv⟩ := h2
      have := World.block_lt_of_cell? _ _ hv
      simp only at this
      omega
    generalize hfin : (fun s' => XI _ _ _ _ _ (mkE Try.prog Try.f4 Q w (InR [] []) im (pairD c d) (PairAt c d) ([] ++ [⟨b, z, 0⟩]) B4) s') = fin
    conv => cbv
    repeat (first | refine ⟨rfl, ?_⟩ | refine ⟨⟨_, _, rfl, rfl⟩, ?_⟩ | refine ⟨⟨rfl, _, _, rfl, rfl⟩, ?_⟩)
    subst hfin
    show XI _ _ _ _ _ (mkE Try.prog Try.f4 Q w (InR [] []) im (pairD c d) (PairAt c d) ([] ++ [⟨b, z, 0⟩]) B4) _
    refine XI.call rfl rfl rfl rfl Try.call13 (fun N w1 args hN hS ha => ?_)
    obtain rfl := args_eq (vs := [.pointer (some ⟨c.b, c.y, none⟩), .int .i64 ei, .slice bp bn bc]) rfl ha
    refine (p_write pc ei bp bn bc eg w1 hS.res.c (by omega) hS.chg.size (hby w1 hS.imm) hlow).mono fun e w2 ⟨he, c2, hto⟩ => ⟨_, he, ?_⟩
    rw [← hwc]
    obtain ⟨q1, q2, q3, q4⟩ := hto.fst hS.res hap
    have hp0 : N[0]? = some ⟨b, z, 0⟩ := hN 0 _ rfl
    refine GoesI.turn (r := .int .i64 (.v wc)) (pairD c2 d) (PairAt c2 d) hN hS q3 (fun k o h => .inl (hO k o h)) (fun k o h => himn k o (hO k o h)) (fun r g p hg hp => ?_) q4 PairAt.loc q1 rfl rfl (fun r g h _ => h) ?_
    · match r, hg with
      | 0, hg =>
        cases hg
        rw [hp0] at hp; cases hp
        exact .inr fun j hj => hreg j hj
      | r + 1, hg => cases hg
    show XI _ _ _ _ _ (mkE Try.prog Try.f4 Q w (InR [] []) im (pairD c2 d) (PairAt c2 d) ([] ++ [⟨b, z, 0⟩]) B4) _
    clear ha he q1 q3 q4 hS hN hp0
    have pc2 := hto.p
    have e1 := hto.b
    have e2 := hto.y
    clear hto
    have hO2 : ∀ k o, pairD c2 d k o → w.heap.size ≤ k := fun k o h => h.elim (pc2.far k o) (pd.far k o)
    have hreg2 : ∀ j, j < 6 → ¬ pairD c2 d b (z + j) := fun j hj hd => by
      have h1 := hO2 _ _ hd
      obtain ⟨v, hv⟩ : ∃ v, w.cell? ⟨b, z + j, none⟩ = some v := by
        obtain ⟨v, hv⟩ : ∃ v, (SStep.vals ⟨kd, ei, eat, bp, bn, bc, torn, eby, eg⟩)[j]? = some v := ⟨_, List.getElem?_eq_getElem (by simp [SStep.vals]; exact hj)⟩
        exact ⟨v, by rw [hz]; exact hrow j v hv⟩
      have := World.block_lt_of_cell? _ _ hv
      simp only at this
      omega
    refine XI.call rfl rfl rfl rfl Try.call13 (fun N w1 args hN hS ha => ?_)
    obtain rfl := args_eq (vs := [.pointer (some ⟨d.b, d.y, none⟩), .int .i64 ei, .slice bp bn bc]) rfl ha
    refine (p_write pd ei bp bn bc eg w1 hS.res.d (by omega) hS.chg.size (hby w1 hS.imm) hlow).mono fun e w2 ⟨he, d2, hto⟩ => ⟨_, he, ?_⟩
    rw [← hwc]
    obtain ⟨q1, q2, q3, q4⟩ := hto.snd hS.res q2
    have hp0 : N[0]? = some ⟨b, z, 0⟩ := hN 0 _ rfl
    refine GoesI.turn (r := .int .i64 (.v wc)) (pairD c2 d2) (PairAt c2 d2) hN hS q3 (fun k o h => .inl (hO2 k o h)) (fun k o h => himn k o (hO2 k o h)) (fun r g p hg hp => ?_) q4 PairAt.loc q1 rfl rfl (fun r g h _ => h) ?_
    · match r, hg with
      | 0, hg =>
        cases hg
        rw [hp0] at hp; cases hp
        exact .inr fun j hj => hreg2 j hj
      | r + 1, hg => cases hg
    show XI _ _ _ _ _ (mkE Try.prog Try.f4 Q w (InR [] []) im (pairD c2 d2) (PairAt c2 d2) ([] ++ [⟨b, z, 0⟩]) B4) _
    clear ha he q1 q3 q4 hS hN hp0
    have pd2 := hto.p
    have e3 := hto.b
    have e4 := hto.y
    clear hto
    refine XI.quiet (E := mkE Try.prog Try.f4 Q w (InR [] []) im (pairD c2 d2) (PairAt c2 d2) ([] ++ [⟨b, z, 0⟩]) B4) (zs := []) (T := T4) T4_ok (fun r g h _ => h) 122 (rfl : (Try.f4).ntmps = 122) ?_
    generalize hfin : (fun s' => XI _ _ _ _ _ (mkE Try.prog Try.f4 Q w (InR [] []) im (pairD c2 d2) (PairAt c2 d2) ([] ++ [⟨b, z, 0⟩]) B4) s') = fin
    conv => cbv
    subst hfin
    refine XI.done ?_
    refine X.go T4_ok 400 _ rfl Try.results4 ?_
    conv => arg 2; cbv
    refine X.cond rfl (fun hne => ?_) (fun _ => ?_)
    · exfalso
      simp only [SB.T, SI.den] at hne
      simp at hne
    refine X.go T4_ok 400 _ rfl Try.results4 ?_
    conv => arg 2; cbv
    have hwl := wlog_len (size := size) (count := count) (l := l) (i := ei) (n := bn) (g := eg)
    refine X.back (fun N a w' hN hf hS => hq ⟨i + 1, c2, d2, wlog size count l ei bn eg, by omega, by omega, pc2, pd2, q2, e1, e2, e3, e4⟩ a w' (by simp only; omega) ?_)
    show At (mkE Try.prog Try.f4 Q w (InR [] []) im (pairD c2 d2) (PairAt c2 d2) [] B4) _ a w'
    have hS' : Sat (mkE Try.prog Try.f4 Q w (InR [] []) im (pairD c2 d2) (PairAt c2 d2) [] B4).toEnv N _ w' := hS.env rfl rfl rfl rfl rfl
    refine At.mk (N0 := []) (fun r p h => by simp at h) hf hS' (Nat.zero_le _) ⟨⟨_, rfl, .inl ⟨rfl, rfl⟩⟩, ⟨_, rfl, .inl ⟨rfl, rfl⟩⟩, ⟨_, rfl, .inl ⟨rfl, rfl⟩⟩, ⟨_, rfl, .inl ⟨rfl, rfl⟩⟩, ⟨_, rfl, .inl ⟨rfl, rfl⟩⟩, ⟨_, rfl, .inr ⟨_, rfl, by simp [SV.den, SI.den, hwrap64s i (by omega)]⟩⟩, trivial⟩ trivial (fun _ _ _ h => h) hS.loc hS.res
  · simp only [SB.F, SI.den] at hge
    obtain rfl : i = n := by omega
    refine X.go T4_ok 400 _ rfl Try.results4 ?_
    conv => arg 2; cbv
    refine X.call rfl rfl rfl rfl Try.call14 (fun N w1 args hN hS ha => ?_)
    obtain rfl := args_eq (vs := [.pointer (some ⟨c.b, c.y, none⟩)]) rfl ha
    refine (p_sync pc w1 hS.res.c).mono fun e w2 ⟨he, c2, hto⟩ => ⟨_, he, ?_⟩
    obtain ⟨q1, q2, q3, q4⟩ := hto.fst hS.res hap
    refine Goes.turn (r := .int .i64 (.lit 0)) (pairD c2 d) (PairAt c2 d) hN hS q3 (fun k o h => .inl (hO k o h)) (fun k o h => himn k o (hO k o h)) (fun g hg => by simp at hg) q4 PairAt.loc q1 rfl rfl ?_
    show X (mkE Try.prog Try.f4 Q w (InR [] []) im (pairD c2 d) (PairAt c2 d) [] B4) _ _
    clear ha he q1 q3 q4 hS hN
    have pc2 := hto.p
    have e1 := hto.b
    have e2 := hto.y
    clear hto
    have hO2 : ∀ k o, pairD c2 d k o → w.heap.size ≤ k := fun k o h => h.elim (pc2.far k o) (pd.far k o)
    refine X.go T4_ok 400 _ rfl Try.results4 ?_
    conv => arg 2; cbv
    refine X.call rfl rfl rfl rfl Try.call16 (fun N w1 args hN hS ha => ?_)
    obtain rfl := args_eq (vs := [.pointer (some ⟨d.b, d.y, none⟩), .int .i64 (i : Int), .bool false]) rfl ha
    have hkp : l.length = keepN (i : Int) l.length := by unfold keepN; omega
    refine (p_back pd i false w1 hS.res.d l.length hkp (.inl rfl)).mono fun e w2 ⟨he, d2, hto⟩ => ⟨_, he, ?_⟩
    rw [List.take_length] at hto
    obtain ⟨q1, q2, q3, q4⟩ := hto.snd hS.res q2
    refine Goes.turn (r := .tup []) (pairD c2 d2) (PairAt c2 d2) hN hS q3 (fun k o h => .inl (hO2 k o h)) (fun k o h => himn k o (hO2 k o h)) (fun g hg => by simp at hg) q4 PairAt.loc q1 rfl rfl ?_
    show X (mkE Try.prog Try.f4 Q w (InR [] []) im (pairD c2 d2) (PairAt c2 d2) [] B4) _ _
    clear ha he q1 q3 q4 hS hN
    have pd2 := hto.p
    have e3 := hto.b
    have e4 := hto.y
    clear hto
    have hO3 : ∀ k o, pairD c2 d2 k o → w.heap.size ≤ k := fun k o h => h.elim (pc2.far k o) (pd2.far k o)
    refine X.go T4_ok 400 _ rfl Try.results4 ?_
    conv => arg 2; cbv
    refine X.loop1 (fun i : {i : Nat // i ≤ count} => ⟨[(0, .val (.int .i64 (.nat size))), (1, .val (.int .i64 (.nat count))), (7, .val (.ext c.b c.y 0)), (9, .val (.ext d.b d.y 0)), (12, .val (.int .i64 (.nat i.1)))], []⟩) (fun i => count - i.1) (fun N a w' hN hf hS => ⟨⟨0, Nat.zero_le _⟩, ?_⟩) (fun i q hq => ?_)
    · exact At.same hN hf hS (Nat.zero_le _) ⟨⟨_, rfl, .inl ⟨rfl, rfl⟩⟩, ⟨_, rfl, .inl ⟨rfl, rfl⟩⟩, ⟨_, rfl, .inl ⟨rfl, rfl⟩⟩, ⟨_, rfl, .inl ⟨rfl, rfl⟩⟩, ⟨_, rfl, .inr ⟨_, rfl, rfl⟩⟩, trivial⟩ trivial
    obtain ⟨i, hi⟩ := i
    refine X.go T4_ok 400 _ rfl Try.results4 ?_
    conv => arg 2; cbv
    refine X.cond rfl (fun hlt => ?_) (fun hge => ?_)
    · simp only [SB.T, SI.den] at hlt
      refine X.go T4_ok 400 _ rfl Try.results4 ?_
      conv => arg 2; cbv
      have hrng : 0 ≤ (i : Int) ∧ (i : Int) < count := by omega
      refine X.call rfl rfl rfl rfl Try.call15 (fun N w1 args hN hS ha => ?_)
      obtain rfl := args_eq (vs := [.pointer (some ⟨c2.b, c2.y, none⟩), .int .i64 (i : Int)]) (by rw [e1, e2]; rfl) ha
      refine (p_read pc2 i hrng w1 hS.res.c).mono fun e w2 hr => ?_
      refine Goes.read (by omega) hN hS hr rfl ?_
      clear hr ha hS hN
      obtain ⟨cs, hcs⟩ : ∃ cs, cs = bytesL (foldW (foldW (fun _ _ => 0) l) [] i) size := ⟨_, rfl⟩
      rw [← hcs]
      show X (mkE Try.prog Try.f4 Q w (InR [] []) im (pairD c2 d2) (PairAt c2 d2) [] B4) _ _
      refine X.go T4_ok 400 _ rfl Try.results4 ?_
      conv => arg 2; cbv
      refine X.call rfl rfl rfl rfl Try.call15 (fun N w1 args hN hS ha => ?_)
      obtain rfl := args_eq (vs := [.pointer (some ⟨d2.b, d2.y, none⟩), .int .i64 (i : Int)]) (by rw [e3, e4]; rfl) ha
      refine (p_read pd2 i hrng w1 hS.res.d).mono fun e w2 hr => ?_
      refine Goes.read (by omega) hN hS hr rfl ?_
      clear hr ha hS hN
      obtain ⟨cs2, hcs2⟩ : ∃ cs, cs = bytesL (foldW (foldW (fun _ _ => 0) l) [] i) size := ⟨_, rfl⟩
      rw [← hcs2]
      show X (mkE Try.prog Try.f4 Q w (InR [] []) im (pairD c2 d2) (PairAt c2 d2) [] B4) _ _
      refine X.go T4_ok 400 _ rfl Try.results4 ?_
      conv => arg 2; cbv
      refine X.bare rfl rfl ?_
      obtain ⟨u, hu⟩ : ∃ u, u = strG (foldW (foldW (fun _ _ => 0) l) [] i) size := ⟨_, rfl⟩
      refine toStrU u hu rfl rfl rfl rfl rfl hcs Try.underlying30 Try.underlying5 Try.underlying9 rfl ?_
      refine X.go T4_ok 400 _ rfl Try.results4 ?_
      conv => arg 2; cbv
      refine X.bare rfl rfl ?_
      refine toStrU u hu rfl rfl rfl rfl rfl hcs2 Try.underlying30 Try.underlying5 Try.underlying9 rfl ?_
      refine X.go T4_ok 400 _ rfl Try.results4 ?_
      conv => arg 2; cbv
      refine X.bare rfl rfl ?_
      refine neStr rfl rfl rfl rfl rfl rfl rfl ?_
      refine X.go T4_ok 400 _ rfl Try.results4 ?_
      conv => arg 2; cbv
      refine X.cond rfl (fun hne => ?_) (fun _ => ?_)
      · exfalso
        simp only [SB.T, SI.den] at hne
        simp at hne
      refine X.go T4_ok 400 _ rfl Try.results4 ?_
      conv => arg 2; cbv
      refine X.back (fun N a w' hN hf hS => hq ⟨i + 1, by omega⟩ a w' (by simp only; omega) ?_)
      exact At.same hN hf hS (Nat.zero_le _) ⟨⟨_, rfl, .inl ⟨rfl, rfl⟩⟩, ⟨_, rfl, .inl ⟨rfl, rfl⟩⟩, ⟨_, rfl, .inl ⟨rfl, rfl⟩⟩, ⟨_, rfl, .inl ⟨rfl, rfl⟩⟩, ⟨_, rfl, .inr ⟨_, rfl, by simp [SV.den, SI.den, hwrap64s i (by omega)]⟩⟩, trivial⟩ trivial
    · simp only [SB.F, SI.den] at hge
      obtain rfl : i = count := by omega
      refine X.go T4_ok 400 _ rfl Try.results4 ?_
      conv => arg 2; cbv
      refine X.call rfl rfl rfl rfl Try.call11 (fun N w1 args hN hS ha => ?_)
      obtain rfl : ([] : List Value) = args := Option.some.inj ha
      refine (awake12_ok w1).mono fun e w2 ⟨he, hc⟩ => ⟨_, he, Goes.same (r := .bool (.lit true)) hN hS hc rfl rfl ?_⟩
      refine X.go T4_ok 400 _ rfl Try.results4 ?_
      conv => arg 2; cbv
      refine X.done T4_ok rfl (fun N w' v hN hS hv => ?_)
      rw [hQ]
      refine ⟨?_, hS.chg.mono fun k o _ h => inR_nil h⟩
      simp [resV, SV.den, SB.den] at hv
      rw [← hv]

end Go.Proofs.Ytkjhpaeminegoaa
