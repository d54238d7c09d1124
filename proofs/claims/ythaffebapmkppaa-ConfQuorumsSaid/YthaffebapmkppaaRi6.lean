/- The ring: rules of the executor that Keepers needs; the search. -/
import Derived.Test.YthaffebapmkppaaRi5
import Derived.Shelf.SlSorted.Search

namespace Go.Proofs.Ythaffebapmkppaa
open Go Go.Eng Go.Sort

/-! ### values told -/
theorem vk_arr {E : Env} {N0 : Nums} {rg : List Rg} {f : Fr} {g : GK} {t e : TypeId} {x ix : Operand} {n z q r o c : Nat} {kd : IntKind} {s : SI} (hx : evK f g x = some (.own r o)) (hix : evK f g ix = some (.int kd s)) (hz : g.T → s.den = (z : Int)) (hu : E.P.underlying t = some (.array n e)) (hq : ∀ w, (sizeOf e).run E.P w = .ok q w)
    (hlt : z < n) (hc : c = o + z * q) (hr : r < rg.length) : ValOk E N0 rg f g (.indexAddr t x ix) (.own r c) := by
  intro ht N ρ op w hN0 hop hρ hV
  have h1 := hρ _ _ hx
  have h2 := hρ _ _ hix
  obtain ⟨p, hp⟩ : ∃ p, N[r]? = some p := ⟨_, List.getElem?_eq_getElem (by have := hV.1.len; omega)⟩
  simp only [SV.den, hp, hz ht, Option.some.injEq] at h1 h2
  refine ⟨.pointer (some ⟨p.b, p.o + c, none⟩), by simp only [SV.den, hp], fun w' _ => ?_⟩
  simp only [execOp, hop, ← h1, ← h2, Sem.run_bind, Result.andThen, Sem.run_pure]
  have hz' : (z : Int) < n := by omega
  simp [Instr.indexAt, asIntOf, run_underlying hu, Instr.sureAddr, Result.andThen, hlt, hq, addr_add, hc, Nat.add_assoc]

theorem vk_load1 {E : Env} {N0 : Nums} {rg : List Rg} {f : Fr} {g : GK} {t : TypeId} {x : Operand} {r c : Nat} {gg : Rg} {rs : SV} (hx : evK f g x = some (.own r c)) (ha : ∀ w, (isAgg t).run E.P w = .ok false w) (hr : rg[r]? = some gg) (hc : gg.cells[c]? = some rs) : ValOk E N0 rg f g (.load t x) rs := by
  intro _ N ρ o w hN0 hop hρ hV
  have h1 := hρ _ _ hx
  obtain ⟨p, hp⟩ : ∃ p, N[r]? = some p := ⟨_, List.getElem?_eq_getElem (Nat.lt_of_lt_of_le (List.getElem?_eq_some_iff.1 hr).1 hV.1.len)⟩
  simp only [SV.den, hp, Option.some.injEq] at h1
  obtain ⟨v, hv, _⟩ := hV.1.cell r gg p hr hp c rs hc
  refine ⟨v, hv, fun w' hV' => ?_⟩
  obtain ⟨v', hv', hc'⟩ := hV'.1.cell r gg p hr hp c rs hc
  rw [hv] at hv'; cases hv'
  simp only [execOp, hop, ← h1, Instr.loadAt, Instr.sureAddr, loadVar, Sem.run_bind, Sem.run_pure, Result.andThen, ha, Bool.false_eq_true, if_false]
  simp [hc']

theorem vk_rem {E : Env} {N0 : Nums} {rg : List Rg} {f : Fr} {g : GK} {t ty : TypeId} {x y : Operand} {kd : IntKind} {s1 s2 r : SI} (hx : evK f g x = some (.int kd s1)) (hy : evK f g y = some (.int kd s2)) (hz : g.T → s2.den ≠ 0 ∧ r.den = s1.den.tmod s2.den) : ValOk E N0 rg f g (.binOp .rem t x y ty) (.int kd r) := by
  intro ht N ρ o w hN0 hop hρ hV
  have h1 := hρ _ _ hx
  have h2 := hρ _ _ hy
  simp only [SV.den, Option.some.injEq] at h1 h2
  obtain ⟨hne, hr⟩ := hz ht
  refine ⟨.int kd r.den, rfl, fun w' _ => ?_⟩
  have h3 : (do eqGuard .rem t x y (ρ x) (ρ y); binOp .rem t (ρ x) (ρ y) : Sem Value).run E.P w' = .ok (.int kd r.den) w' := by
    rw [← h1, ← h2]
    simp only [Sem.run_bind]
    rw [eqGuard_none _ _ _ _ (by simp) (by simp)]
    simp [Result.andThen, binOp, Op.intDiv, hne, hr]
  simp only [execOp, hop]
  rw [Sem.run_bind, h3]
  rfl

theorem oe_store {T : Tab} {n : Nat} {all : Array Oper} {i : Nat} {s : St} {o : Oper} {t : TypeId} {x y : Operand} {r c : Nat} {v : SV} {ti : TI} {g : Rg} {cs' : List SV} (ho : nth all.toList i = some o) (hsu : sure all s.fr o = true) (hop : o.op = .store t x y) (hd : o.dst = none) (hx : ev s.fr x = some (.own r c)) (hy : ev s.fr y = some v) (ht : lookT T t = some ti)
    (hg : nth s.rg r = some g) (hown : g.own = true) (hl : Nat.beq v.cells.length ti.size = true) (hle : c + ti.size ≤ g.cells.length) (h1 : v.cells.all SV.one = true) (hcs : setRow g.cells c v.cells = cs') : OpEq T n all i s ⟨s.fr, s.rg.set r { g with cells := cs' }⟩ := by
  refine ⟨?_⟩
  have hble : Nat.ble (c + ti.size) g.cells.length = true := Nat.ble_eq_true_of_le hle
  simp only [opE, ho, hsu, cond_true, hop, stepE, hx, hy, ht, hg, hown, hl, hble, h1, Bool.and_self, hcs, hd, putO]

/-! ### a region is dropped from among the others -/
def past (k r : Nat) : Nat := if r < k then r else r + 1
theorem past_get {α : Type} {A B : List α} {x v : α} {r : Nat} (h : (A ++ B)[r]? = some v) : (A ++ x :: B)[past A.length r]? = some v := by
  unfold past
  by_cases hr : r < A.length
  · rw [if_pos hr, List.getElem?_append_left hr]
    rwa [List.getElem?_append_left hr] at h
  · rw [if_neg hr, List.getElem?_append_right (by omega)]
    rw [List.getElem?_append_right (by omega)] at h
    rw [show r + 1 - A.length = (r - A.length) + 1 by omega, List.getElem?_cons_succ]
    exact h
theorem past_inj {k r r' : Nat} (h : r ≠ r') : past k r ≠ past k r' := by unfold past; split <;> split <;> omega

theorem Sat.dropAt {E : Env} {A B : Nums} {x : Num} {rA rB : List Rg} {g0 : Rg} {w : World} (hl : A.length = rA.length) (h : Sat E (A ++ x :: B) (rA ++ g0 :: rB) w) (hc : ∀ g ∈ rA ++ rB, ∀ c ∈ g.cells, ∀ v, c.den (A ++ x :: B) = some v → c.den (A ++ B) = some v) (hob : ∀ g ∈ rA ++ rB, g.ob = none) : Sat E (A ++ B) (rA ++ rB) w := by
  have gs : ∀ {r : Nat} {g : Rg}, (rA ++ rB)[r]? = some g → (rA ++ g0 :: rB)[past A.length r]? = some g := fun h => by rw [hl]; exact past_get h
  have ns : ∀ {r : Nat} {p : Num}, (A ++ B)[r]? = some p → (A ++ x :: B)[past A.length r]? = some p := fun h => past_get h
  refine ⟨by have := h.len; simp at this ⊢; omega, fun r p hp => h.lt _ p (ns hp), fun r g p hg hp j c hj => ?_, fun r g p hg hp => h.ext _ g p (gs hg) (ns hp), fun r g p hg hp => h.room _ g p (gs hg) (ns hp),
    fun r r' g g' p p' hg hp hg' hp' ho hne => h.disj _ _ g g' p p' (gs hg) (ns hp) (gs hg') (ns hp') ho (past_inj hne), fun r g p ob hg hp ho => ?_, fun r r' g g' p p' hg hp hg' hp' ho _ _ => ?_, h.imm, fun r g p hg hp => h.imd _ g p (gs hg) (ns hp), fun r g p hg hp => h.dd _ g p (gs hg) (ns hp), h.dlt, h.loc, h.res, h.chg, fun r g p hg hp => h.foot _ g p (gs hg) (ns hp)⟩
  · obtain ⟨v, h1, h2⟩ := h.cell _ g p (gs hg) (ns hp) j c hj
    exact ⟨v, hc g (List.mem_of_getElem? hg) c (List.mem_of_getElem? hj) v h1, h2⟩
  · rw [hob g (List.mem_of_getElem? hg)] at ho; cases ho
  · rw [hob g (List.mem_of_getElem? hg)] at ho; cases ho

theorem X.dropAt {E : Ctx} {k : List It} (h0 : E.N0 = []) {f : Fr} (f' : Fr) (rA : List Rg) {g0 : Rg} {rB : List Rg} (hs : ∀ (A : Nums) x B, A.length = rA.length → Sh (A ++ x :: B) (A ++ B) f f') (hc : ∀ g ∈ rA ++ rB, ∀ c ∈ g.cells, ∀ (N N' : Nums) (v : Value), c.den N = some v → c.den N' = some v) (hob : ∀ g ∈ rA ++ rB, g.ob = none) (h : X E k ⟨f', rA ++ rB⟩) : X E k ⟨f, rA ++ g0 :: rB⟩ := by
  refine X.conv fun N a w hN hf hS => ?_
  have hlen := hS.len
  obtain ⟨A, R, rfl, hA⟩ : ∃ A R, N = A ++ R ∧ A.length = rA.length := ⟨N.take rA.length, N.drop rA.length, (List.take_append_drop _ _).symm, by simp at hlen ⊢; omega⟩
  cases R with
  | nil => simp at hlen; omega
  | cons x B => exact ⟨E, ⟨f', rA ++ rB⟩, rfl, rfl, rfl, rfl, ⟨A ++ B, by rw [h0]; exact fun r p h => by simp at h, hf.sh (hs A x B hA), Sat.dropAt hA hS (fun g hg c hc' v => hc g hg c hc' _ _ v) hob⟩, h⟩

theorem len3 {α : Type} {l : List α} (h : l.length = 3) : ∃ a b c, l = [a, b, c] := by
  match l, h with
  | [a, b, c], _ => exact ⟨a, b, c, rfl⟩

/-! ### points that lie there -/
/-- such points can be read there -/
def PtIn (b o : Nat) (L : List (Int × Int)) (w : World) : Prop := ∀ j, j < L.length → w.cell? ⟨b, o + j * 2, none⟩ = some (.int .u64 L[j]!.1) ∧ w.cell? ⟨b, o + j * 2 + 1, none⟩ = some (.int .u8 L[j]!.2)
theorem PtIn.of {b o : Nat} {L : List (Int × Int)} {w : World} (h : HoldsK ptC 2 w b o L.toArray) : PtIn b o L w := fun j hj => by
  have h1 := (h (j * 2) (by rw [size_flatK]; simp; omega)).1
  have h2 := (h (j * 2 + 1) (by rw [size_flatK]; simp; omega)).1
  rw [get_flatK _ _ _ _ (by simp; omega)] at h1 h2
  rw [show j * 2 / 2 = j by omega, show j * 2 % 2 = 0 by omega] at h1
  rw [show (j * 2 + 1) / 2 = j by omega, show (j * 2 + 1) % 2 = 1 by omega] at h2
  have e : L.toArray[j]! = L[j]! := by simp
  rw [e] at h1 h2
  exact ⟨h1, h2⟩
theorem PtIn.stays {b o : Nat} {L : List (Int × Int)} {w w' : World} (h : PtIn b o L w) (hc : Chg (fun _ _ => False) w w') : PtIn b o L w' := fun j hj => ⟨cell_of_chg hc (fun h => h) (h j hj).1, cell_of_chg hc (fun h => h) (h j hj).2⟩

set_option maxHeartbeats 4000000 in
set_option maxRecDepth 100000 in
set_option cbv.maxSteps 100000000 in
theorem keep1_ok (b o m c i b3 o3 b7 o7 : Nat) (p : Option Addr) (kh : Int) (L : List (Int × Int)) (w : World) (hp : p = some ⟨b, o, none⟩) (hm : L.length = m) (hi : i < m) (hbig : m < 4611686018427387904) (hL : PtIn b o L w)
    (h3 : w.cell? ⟨b3, o3, none⟩ = some (.slice p m c)) (h7 : w.cell? ⟨b7, o7, none⟩ = some (.int .u64 kh)) :
    Calls Try.prog 43 #[.int .i64 i, .pointer (some ⟨b3, o3, none⟩), .pointer (some ⟨b7, o7, none⟩)] w fun e w' => e = .returned (.bool (decide (kh ≤ L[i]!.1))) ∧ Chg (fun _ _ => False) w w' := by
  obtain ⟨h, hh⟩ : ∃ h, h = L[i]!.1 := ⟨_, rfl⟩
  rw [← hh]
  refine X.begin (rg := []) (N := []) (ss := [.int .i64 (.nat i), .ext b3 o3 0, .ext b7 o7 0]) Try.func43 rfl B43_ok rfl rfl Sat.std0 ?_
  obtain ⟨oi, hoi⟩ : ∃ q, q = o + i * 2 := ⟨_, rfl⟩
  have e3 : elsewhere [] [] w b3 (o3 + 0) = some (.slice p m c) := by rw [els_old]; exact h3
  have e7 : elsewhere [] [] w b7 (o7 + 0) = some (.int .u64 kh) := by rw [els_old]; exact h7
  have ei : elsewhere [] [] w b (oi + 0) = some (.int .u64 h) := by rw [els_old, hoi, hh]; exact (hL i (by omega)).1
  refine X.goP ([(5, .slv p m c), (7, .ext b oi 0), (9, .int .u64 (.v h)), (10, .int .u64 (.v kh))]) T43_ok 400 _ rfl Try.results43 (fun pr fin hpr hfin => ?_)
  conv => cbv
  refine ⟨hpr _ (ValOk.im1 rfl Try.isAgg33 (fun _ => rfl) fun _ => e7), hpr _ (ValOk.im1 rfl Try.isAgg33 (fun _ => rfl) fun _ => ei), hpr _ (ValOk.at (z := i) rfl rfl (fun _ => rfl) Try.underlying27 Try.sizeOf52 (fun _ => hi) hp hoi), hpr _ (ValOk.im1 rfl Try.isAgg27 (fun _ => rfl) fun _ => e3), hfin _ _ ?_⟩
  refine X.done T43_ok rfl (fun N w' v hN hS hv => ⟨fin_bool hv ?_, hS.chg.mono fun k o _ h => inR_nil h⟩)
  simp only [SB.den, SI.den]
  exact decide_eq_decide.2 Iff.rfl

/-- how many points lie below a place -/
def atP (L : List (Int × Int)) (kh : Int) : Nat := (List.range L.length).countP fun i => !decide (kh ≤ L[i]!.1)
theorem atP_le (L : List (Int × Int)) (kh : Int) : atP L kh ≤ L.length := by
  have := List.countP_le_length (p := fun i => !decide (kh ≤ L[i]!.1)) (l := List.range L.length)
  simpa [atP] using this
def Rise (L : List (Int × Int)) : Prop := ∀ a b, a ≤ b → b < L.length → L[a]!.1 ≤ L[b]!.1

theorem search_ok (b o m c b3 o3 b7 o7 : Nat) (p : Option Addr) (kh : Int) (L : List (Int × Int)) (w : World) (hp : 0 < m → p = some ⟨b, o, none⟩) (hm : L.length = m) (hbig : m < 4611686018427387904) (hL : PtIn b o L w) (hR : Rise L)
    (h3 : w.cell? ⟨b3, o3, none⟩ = some (.slice p m c)) (h7 : w.cell? ⟨b7, o7, none⟩ = some (.int .u64 kh)) :
    Calls Try.prog 42 #[.int .i64 m, .func (.func 43) #[] #[.pointer (some ⟨b3, o3, none⟩), .pointer (some ⟨b7, o7, none⟩)]] w fun e w' => e = .returned (.int .i64 (atP L kh)) ∧ Chg (fun _ _ => False) w w' := by
  have key := Any.sort_Search Try.searchL 43 #[.pointer (some ⟨b3, o3, none⟩), .pointer (some ⟨b7, o7, none⟩)] m (fun i => decide (kh ≤ L[i]!.1)) w (enters_of Try.func43 (by kernel_rfl) rfl) hbig (fun q os i hi => by
    have hc : Chg (fun _ _ => False) w (Go.Sort.grow (w.drewN q) os) := (Chg.drewN q).trans (chg_grow _ os) fun _ _ _ h => h
    exact (keep1_ok b o m c i b3 o3 b7 o7 p kh L _ (hp (by omega)) hm hi hbig (hL.stays hc) (cell_of_chg hc (fun h => h) h3) (cell_of_chg hc (fun h => h) h7)).mono fun _ _ ⟨h1, h2⟩ => ⟨h1, h2.grown⟩) (fun a b hab hb ha => by
    have := hR a b hab (by omega)
    have ha : kh ≤ L[a]!.1 := of_decide_eq_true ha
    exact decide_eq_true (by omega))
  refine Calls.mono key fun e w' ⟨he, q, os, hw⟩ => ⟨?_, ?_⟩
  · rw [he, atP, hm]
  · rw [hw]
    exact (Chg.drewN q).trans (chg_grow _ os) fun _ _ _ h => h

end Go.Proofs.Ythaffebapmkppaa
