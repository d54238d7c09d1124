import Derived.Test.YtkjhpaeminegoaaRsE
import Derived.Lib.ConvBytes
import Derived.Laws.AppendOwn

namespace Go.Proofs.Ytkjhpaeminegoaa
open Go Go.Eng
structure RDC (M : Mem) (r : RD) (d : DC) : Prop where
  e : d.size = r.size ∧ d.count = r.count ∧ d.kn = r.kept.length ∧ d.wn = r.ws.length ∧ d.off = r.off ∧ d.falls = r.falls ∧ d.fuse = r.fuse
  kp : SlR M d.kp d.kc 1 (r.kept.map strD)
  wp : SlR M d.wp d.wc 2 (r.ws.map wD)
theorem RDC.mono {M M' : Mem} {r : RD} {d : DC} (h : RDC M r d) (hM : ∀ k o v, M k o = some v → M' k o = some v) : RDC M' r d := ⟨h.e, h.kp.mono hM, h.wp.mono hM⟩
def RetD (r : RD) (Mo : Mem) (w : World) : Ending → World → Prop := fun e w' =>
  (∃ d : DC, e = .returned (.agg d.vals.toArray) ∧ ∀ M : Mem, (∀ k o v, Mo k o = some v → M k o = some v) → (∀ k o v, w.heap.size ≤ k → w'.cell? ⟨k, o, none⟩ = some v → M k o = some v) → RDC M r d) ∧ Chg (fun _ _ => False) w w'
def RetCD (c : Int) (r : RD) (Mo : Mem) (w : World) : Ending → World → Prop := fun e w' =>
  (∃ d : DC, e = .returned (.tuple #[.int .i64 c, .agg d.vals.toArray]) ∧ ∀ M : Mem, (∀ k o v, Mo k o = some v → M k o = some v) → (∀ k o v, w.heap.size ≤ k → w'.cell? ⟨k, o, none⟩ = some v → M k o = some v) → RDC M r d) ∧ Chg (fun _ _ => False) w w'
theorem str_row {M : Mem} {p : Option Addr} {c : Nat} {l : List ByteArray} (h : SlR M p c 1 (l.map strD)) (h0 : 0 < l.length) : l.length ≤ c ∧ ∃ b y, p = some ⟨b, y, none⟩ ∧ ∀ (j : Nat) (s : ByteArray), l[j]? = some s → M b (y + j) = some (.string s) := by
  obtain ⟨⟨h1, _⟩, h2 | ⟨b, y, hp, h3⟩⟩ := h
  · have := congrArg List.length h2
    simp only [List.length_map, List.length_nil] at this
    omega
  · refine ⟨by simpa using h1, b, y, hp, fun j s hj => ?_⟩
    obtain ⟨vs, h4, h5⟩ := h3 j (strD s) (by rw [List.getElem?_map, hj]; rfl)
    rw [strD.open h4] at h5
    have := h5 0 _ rfl
    rwa [Nat.mul_one, Nat.add_zero] at this
def strL (l : List ByteArray) : List SV := rawL (l.map Value.string)
theorem strL_len (l : List ByteArray) : (strL l).length = l.length := by simp [strL, rawL]
theorem strL_get {l : List ByteArray} {j : Nat} {x : SV} (h : (strL l)[j]? = some x) : ∃ s, l[j]? = some s ∧ x = .raw (.string s) := by
  simp only [strL, rawL, List.getElem?_map, Option.map_eq_some_iff] at h
  obtain ⟨v, ⟨s, hs, rfl⟩, rfl⟩ := h
  exact ⟨s, hs, rfl⟩
theorem strL_one (l : List ByteArray) : (strL l).all SV.one = true := by
  refine List.all_eq_true.2 fun x hx => ?_
  obtain ⟨j, hj, rfl⟩ := List.getElem_of_mem hx
  obtain ⟨s, _, e⟩ := strL_get (List.getElem?_eq_getElem hj)
  rw [e]; rfl
theorem strL_set (l : List ByteArray) (z : Nat) (s : ByteArray) : strL (l.set z s) = (strL l).set z (.raw (.string s)) := by
  simp [strL, rawL, List.map_set]
theorem settle_len : ∀ (ws : List (Int × ByteArray)) (k : List ByteArray), (settleL k ws).length = k.length
  | [], _ => rfl
  | x :: ws, k => by
    show (settleL (k.set x.1.toNat x.2) ws).length = _
    rw [settle_len ws, List.length_set]
theorem settle_snoc (k : List ByteArray) (ws : List (Int × ByteArray)) (x : Int × ByteArray) : settleL k (ws ++ [x]) = (settleL k ws).set x.1.toNat x.2 := by
  simp [settleL, List.foldl_append]
theorem own_strs {P : Program} {fn : Func} {Q : Ending → World → Prop} {w w' : World} {im : Mem} {D : Nat → Nat → Prop} {Rr : World → Prop} {N0 N : Nums} {B : SchT} {rg : List Rg} {r n : Nat} {q : Num} {l : List ByteArray} {M : Mem}
    (hS : Sat (mkE P fn Q w (InR [] []) im D Rr N0 B).toEnv N rg w') (hr : rg[r]? = some ⟨true, strL l, none⟩) (hq : N[r]? = some q) (hn : n = l.length) (h0 : 0 < n) (hle : n ≤ maxLen) (hM : ∀ k o v, w.heap.size ≤ k → w'.cell? ⟨k, o, none⟩ = some v → M k o = some v) : SlR M (some ⟨q.b, q.o, none⟩) (q.x / 1) 1 (l.map strD) := by
  have hfl : (l.map fun s => [Value.string s]).flatten = l.map Value.string := by
    clear hr hn
    induction l with
    | nil => rfl
    | cons a l ih => simp [ih]
  have h := cloned (f := strD) (l := l) (n := n) (K := 1) (vss := l.map fun s => [Value.string s]) (p := some ⟨q.b, q.o, none⟩) (M := M) hS (by rw [hr, hfl, decide_eq_true (by omega)]; rfl) hq Nat.one_pos hn hle (by simp) (fun v hv => by obtain ⟨s, _, rfl⟩ := List.mem_map.1 hv; rfl) (fun h => by cases h)
    (fun i x hx => ⟨[.string x], by rw [List.getElem?_map, hx]; rfl, by simp [strD, RepL, RepC]⟩) (fun j v hk hc _ => hM _ _ _ hk hc)
  exact h
section
variable {E : Ctx} {T : Tab} {all : Array Oper} {i : Nat} {rest : List Nat} {k : List It} {s : St} {o : Oper} {f : Fr}
theorem toStrV {src e dst : TypeId} {x : Operand} {r n : Nat} {kc : Option Nat} {G : Nat → Int} {g : Rg} (u : ByteArray) (hu : u = strG G n) (ho : nth all.toList i = some o) (hg : o.guard = none) (hop : o.op = .convert src dst x) (hx : ev s.fr x = some (.osl r 0 n 1 kc)) (hr : s.rg[r]? = some g) (hgc : g.cells = bytesL G n)
    (hs : E.P.underlying src = some (.slice e)) (he : E.P.underlying e = some (.int .u8)) (hd : E.P.underlying dst = some .string)
    (hp : putO E.n s.fr o.dst (.val (.raw (.string u))) = some f) (hk : X E (.ops all rest :: k) ⟨f, s.rg⟩) : X E (.ops all (i :: rest) :: k) s := by
  subst hu
  exact toStr ho hg hop hx hr hgc hs he hd hp hk
end
set_option maxHeartbeats 4000000 in
set_option maxRecDepth 100000 in
set_option cbv.maxSteps 100000000 in
theorem zeros_ok (n : Nat) (w : World) (h0 : 0 < n) (hn : n ≤ 1000) : Calls Try.prog 44 #[.int .i64 n] w fun e w' => e = .returned (.string (strG (fun _ => 0) n)) ∧ Chg (fun _ _ => False) w w' := by
  refine X.begin (rg := []) (N := []) (ss := [.int .i64 (.nat n)]) Try.func44 rfl B44_ok rfl rfl Sat.std0 ?_
  refine X.go T44_ok 400 _ rfl Try.results44 ?_
  conv => arg 2; cbv
  refine X.makeN T44_ok (m := n) (te := ti5) rfl rfl rfl rfl rfl (by simp [SI.den]) (by simp [SI.den]) rfl rfl rfl (by decide) rfl (by omega) (by show 1 * n ≤ _; omega) rfl ?_
  obtain ⟨cs, hcs⟩ : ∃ cs, cs = Eng.rep n (ti5).zero := ⟨_, rfl⟩
  rw [← hcs]
  obtain ⟨c2, hc2⟩ : ∃ c, c = bytesL (fun _ => 0) n := ⟨_, rfl⟩
  have hcs' : cs = Eng.rep n [.int .u8 (.lit 0)] := hcs
  refine X.recell 0 ⟨true, cs, none⟩ c2 rfl (by rw [hc2, bytesL_len]; show n = cs.length; rw [hcs', Eng.rep_len]; simp) (fun N _ j x x' h1 h2 v hv => ?_) ?_
  · rw [hcs'] at h1
    rw [hc2] at h2
    obtain ⟨_, rfl⟩ := bytesL_get _ _ _ _ h2
    rw [rep_get _ _ _ _ h1] at hv
    simpa [SV.den, SI.den] using hv
  obtain ⟨u, hu⟩ : ∃ u, u = strG (fun _ => 0) n := ⟨_, rfl⟩
  rw [← hu]
  refine toStrV u hu rfl rfl rfl rfl rfl hc2 Try.underlying30 Try.underlying5 Try.underlying9 rfl ?_
  refine X.go T44_ok 400 _ rfl Try.results44 ?_
  conv => arg 2; cbv
  refine X.done T44_ok rfl (fun N w' v hN hS hv => ⟨?_, hS.chg.none⟩)
  simp only [resV, SV.den, one?, if_true, Option.some.injEq] at hv
  rw [← hv]
end Go.Proofs.Ytkjhpaeminegoaa

namespace Go.Proofs.Ytkjhpaeminegoaa
open Go Go.Eng
set_option maxHeartbeats 8000000 in
set_option maxRecDepth 100000 in
set_option cbv.maxSteps 100000000 in
theorem settled_ok (r : RD) (d : DC) (ws : List (Int × ByteArray)) (p : Option Addr) (n c : Nat) (Mo Mw : Mem) (w : World) (hMo : ∀ k o v, Mo k o = some v → w.cell? ⟨k, o, none⟩ = some v) (hMw : ∀ k o v, Mw k o = some v → w.cell? ⟨k, o, none⟩ = some v) (hd : RDC Mo r d) (hs : SlR Mw p c 2 (ws.map wD)) (hn : n = ws.length) (hle : ws.length ≤ 1000) (hk0 : 0 < r.kept.length) (hk1 : r.kept.length ≤ 1000) (hwi : ∀ x ∈ ws, 0 ≤ x.1 ∧ x.1 < r.kept.length) :
    Calls Try.prog 50 #[.agg d.vals.toArray, .slice p n c] w (RetD (r.settle ws) Mo w) := by
  obtain ⟨Q, hQ⟩ : ∃ Q : Ending → World → Prop, Q = RetD (r.settle ws) Mo w := ⟨_, rfl⟩
  rw [← hQ]
  have hkn : d.kn = r.kept.length := hd.e.2.2.1
  obtain ⟨hkc, b0, y0, hp0, hm0⟩ := str_row hd.kp hk0
  obtain ⟨kept, hkept⟩ : ∃ k, k = r.kept := ⟨_, rfl⟩
  rw [← hkept] at hkn hkc hm0 hk0 hk1 hwi
  obtain ⟨d1, d2, kp, kn, kc, wp, wn, wc, off, fl, fu⟩ := d
  simp only at hkn hkc hp0
  subst hp0
  refine X.begin (rg := []) (N := []) (ss := [.agg (DC.svs ⟨d1, d2, some ⟨b0, y0, none⟩, kn, kc, wp, wn, wc, off, fl, fu⟩), .slv p n c]) Try.func50 rfl B50_ok rfl rfl Sat.std0 ?_
  obtain ⟨im, hime⟩ : ∃ im, im = elsewhere [] [] w := ⟨_, rfl⟩
  have hMi : ∀ k o v, Mo k o = some v → im k o = some v := fun k o v h => by rw [hime]; exact his (hMo _ _ _ h)
  have hMi2 : ∀ k o v, Mw k o = some v → im k o = some v := fun k o v h => by rw [hime]; exact his (hMw _ _ _ h)
  show X (mkE Try.prog Try.f50 Q w (InR [] []) (elsewhere [] [] w) (fun _ _ => False) (fun _ => True) [] B50) _ _
  rw [← hime]
  obtain ⟨cs, hcs⟩ : ∃ cs, cs = strL kept := ⟨_, rfl⟩
  have hcl : cs.length = kn := by rw [hcs, strL_len, hkn]
  refine X.see b0 y0 cs (fun j x hj => ?_) (by omega) (fun N1 hN1 hNl1 => ?_)
  · rw [hcs] at hj
    obtain ⟨s, h1, rfl⟩ := strL_get hj
    exact ⟨.string s, rfl, hMi _ _ _ (hm0 j s h1)⟩
  obtain rfl : N1 = [] := List.eq_nil_of_length_eq_zero hNl1
  refine X.goX ([(9, .osl 0 0 kn 1 (some kc))]) ([(10, ⟨fun rg => .osl rg.length 0 kn 1 none, [], [⟨true, cs, none⟩]⟩)]) T50_ok 400 _ rfl Try.results50 (fun pr pe fin hpr hpe hfin => ?_)
  conv => cbv
  refine ⟨hpr _ ((vk_load1 (gg := ⟨true, DC.svs ⟨d1, d2, some ⟨b0, y0, none⟩, kn, kc, wp, wn, wc, off, fl, fu⟩, none⟩) rfl Try.isAgg40 rfl rfl).convN fun N hN v h => ?_), hpe _ _ _ _ _ ?_, hfin _ _ ?_⟩
  · have := hN 0 _ rfl
    simp only [SV.den, Option.some.injEq] at h
    simp [SV.den, this, Num.cap, ← h]
  · refine EffOk.step T50_ok (stepE_append (te := ti9) (new := cs) (m := kn) rfl rfl rfl rfl rfl (appSrc_row (g := ⟨false, cs, none⟩) rfl rfl rfl (by show cs.length = kn * 1; omega)) (appV_new (te := ti9) rfl (by omega) (appOk_ok (by decide) rfl (by show cs.length = kn * 1; omega) (by rw [hcs]; exact strL_one _) (by show (2 * (0 + kn) + 256) * 16 ≤ _; omega) (by omega))))
  clear hpr hpe hfin
  refine X.noNames ?_
  obtain ⟨t, ht⟩ : ∃ t : Nat → List SV, t = fun i => strL (settleL kept (ws.take i)) := ⟨_, rfl⟩
  have ht0 : t 0 = cs := by rw [ht, hcs]; rfl
  have htl : ∀ i, (t i).length = kn := fun i => by rw [ht]; simp only; rw [strL_len, settle_len, hkn]
  have htb : ∀ i m, (t i).all (bd m) = true := fun i m => by rw [ht]; exact rawL_bd
  have ht1 : ∀ i x, ws[i]? = some x → t (i + 1) = (t i).set x.1.toNat (.raw (.string x.2)) := fun i x hx => by
    rw [ht]
    simp only
    rw [List.take_add_one, hx]
    show strL (settleL kept (ws.take i ++ [x])) = _
    rw [settle_snoc, strL_set]
  rw [← ht0]
  refine X.loop1 (fun i : {i : Nat // i ≤ n} => ⟨[(1, .val (.slv p n c)), (2, .val (.own 1 0)), (4, .val (.own 2 0)), (5, .val (.osl 4 0 kn 1 none)), (12, .val (.int .i64 (.nat n))), (13, .val (.int .i64 (.nat i.1)))], [⟨false, t 0, none⟩, ⟨true, DC.svs ⟨d1, d2, some ⟨b0, y0, none⟩, kn, kc, wp, wn, wc, off, fl, fu⟩, none⟩, ⟨true, [.int .i64 (.lit 0), .int .i64 (.lit 0), .raw (.slice none 0 0), .raw (.slice none 0 0), .bool (.lit false), .int .u64 (.lit 0), .int .i64 (.lit 0)], none⟩, ⟨true, [], none⟩, ⟨true, t i.1, none⟩]⟩) (fun i => n - i.1) (fun N a w' hN hf hS => ⟨⟨0, Nat.zero_le _⟩, ?_⟩) (fun i q' hq' => ?_)
  · exact At.again hf hS (by repeat first | exact trivial | refine ⟨⟨_, rfl, .inl ⟨rfl, rfl⟩⟩, ?_⟩ | refine ⟨⟨_, rfl, .inr ⟨_, rfl, rfl⟩⟩, ?_⟩ | refine ⟨⟨_, rfl, .inr ⟨_, rfl, by simp (disch := omega) [SV.den, SI.den, wrapU, wrapD] <;> omega⟩⟩, ?_⟩) ⟨fun h => h, SubC.refl (htb _ _), rfl, fun h => h, SubC.refl rfl, rfl, fun h => h, SubC.refl rfl, rfl, fun h => h, SubC.refl rfl, rfl, fun h => h, SubC.refl (htb _ _), rfl, trivial⟩
  obtain ⟨i, hi⟩ := i
  obtain ⟨ti, hti⟩ : ∃ x, x = t i := ⟨_, rfl⟩
  show X (mkE Try.prog Try.f50 Q w (InR [] []) im (fun _ _ => False) (fun _ => True) [] B50) _ ⟨[(1, .val (.slv p n c)), (2, .val (.own 1 0)), (4, .val (.own 2 0)), (5, .val (.osl 4 0 kn 1 none)), (12, .val (.int .i64 (.nat n))), (13, .val (.int .i64 (.nat i)))], [⟨false, t 0, none⟩, ⟨true, DC.svs ⟨d1, d2, some ⟨b0, y0, none⟩, kn, kc, wp, wn, wc, off, fl, fu⟩, none⟩, ⟨true, [.int .i64 (.lit 0), .int .i64 (.lit 0), .raw (.slice none 0 0), .raw (.slice none 0 0), .bool (.lit false), .int .u64 (.lit 0), .int .i64 (.lit 0)], none⟩, ⟨true, [], none⟩, ⟨true, t i, none⟩]⟩
  rw [← hti]
  have htil : ti.length = kn := by rw [hti]; exact htl i
  refine X.go T50_ok 400 _ rfl Try.results50 ?_
  conv => arg 2; cbv
  refine X.cond rfl (fun hlt => ?_) (fun hge => ?_)
  · simp only [SB.T, SI.den] at hlt
    have hlt : i < n := by omega
    obtain ⟨x, hx⟩ : ∃ x, ws[i]? = some x := ⟨_, List.getElem?_eq_getElem (by omega)⟩
    obtain ⟨b1, y1, _, hp1, hr1, hm1⟩ := hs.elem hx
    rw [wD.open hr1] at hm1
    have hxi := hwi x (List.mem_of_getElem? hx)
    have h1 := ht1 i x hx
    rw [← hti] at h1
    obtain ⟨xi, xs⟩ := x
    simp only at hxi h1
    obtain ⟨z, hz⟩ : ∃ z : Nat, xi = z := ⟨xi.toNat, by omega⟩
    have hzt : xi.toNat = z := by omega
    rw [hzt] at h1
    obtain ⟨dl, hdl⟩ : ∃ d, d = setRow ti z [.raw (.string xs)] := ⟨_, rfl⟩
    have hdt : dl = t (i + 1) := by
      rw [hdl, setRow_eq _ _ _ (by omega), h1, List.set_eq_take_append_cons_drop, if_pos (by omega)]
      simp
    refine X.go T50_ok 400 _ rfl Try.results50 ?_
    conv => arg 2; cbv
    refine X.see b1 (y1 + i * 2) [.int .i64 (.v xi), .raw (.string xs)] (see_of (fun j v hj => hMi2 _ _ _ (hm1 j v hj)) rfl) (by simp) (fun N1 hN1 hNl1 => ?_)
    have hg1 : (N1 ++ [(⟨b1, y1 + i * 2, 0⟩ : Num)])[5]? = some ⟨b1, y1 + i * 2, 0⟩ := num_last hNl1
    refine X.goX ([(19, .own 5 0), (24, .own 5 0), (27, .own 4 z)]) ([(1012, ⟨fun _ => .tup [], [(4, ⟨true, dl, none⟩)], []⟩)]) T50_ok 400 _ rfl Try.results50 (fun pr pe fin hpr hpe hfin => ?_)
    conv => cbv
    have row : ∀ {rg : List Rg} {f : Fr} {g : GK} {x ix : Operand}, evK f g x = some (.slv p n c) → evK f g ix = some (.int .i64 (.nat i)) → ValOk (mkE Try.prog Try.f50 Q w (InR [] []) im (fun _ _ => False) (fun _ => True) (N1 ++ [(⟨b1, y1 + i * 2, 0⟩ : Num)]) B50).toEnv (N1 ++ [(⟨b1, y1 + i * 2, 0⟩ : Num)]) rg f g (.indexAddr 41 x ix) (.own 5 0) := fun k1 k2 =>
      ValOk.row k1 k2 (fun _ => rfl) Try.underlying41 Try.sizeOf103 hlt hp1 hg1 rfl rfl
    refine ⟨hpr _ (row rfl rfl), hpr _ (row rfl rfl), hpr _ (vk_osl (z := z) rfl (.inr (.inr ⟨none, rfl⟩)) rfl (fun _ => hz) Try.underlying40 Try.sizeOf9 (fun _ => by omega) (Nat.mul_one _).symm (by simp)), hpe _ _ _ _ _ ?_, hfin _ _ ?_⟩
    · refine EffOk.step T50_ok ?_
      rw [stepE_store (v := .raw (.string xs)) (g := ⟨true, ti, none⟩) (ti := ti9) rfl rfl rfl rfl rfl rfl (by show z + 1 ≤ ti.length; omega) rfl]
      rw [hdl]
      rfl
    clear hpr hpe hfin
    rw [hdt]
    refine X.back (fun N a w' hN hf hS => hq' ⟨i + 1, by omega⟩ a w' (by simp only; omega) ?_)
    show At (mkE Try.prog Try.f50 Q w (InR [] []) im (fun _ _ => False) (fun _ => True) [] B50) ⟨[(1, .val (.slv p n c)), (2, .val (.own 1 0)), (4, .val (.own 2 0)), (5, .val (.osl 4 0 kn 1 none)), (12, .val (.int .i64 (.nat n))), (13, .val (.int .i64 (.nat (i + 1))))], [⟨false, t 0, none⟩, ⟨true, DC.svs ⟨d1, d2, some ⟨b0, y0, none⟩, kn, kc, wp, wn, wc, off, fl, fu⟩, none⟩, ⟨true, [.int .i64 (.lit 0), .int .i64 (.lit 0), .raw (.slice none 0 0), .raw (.slice none 0 0), .bool (.lit false), .int .u64 (.lit 0), .int .i64 (.lit 0)], none⟩, ⟨true, [], none⟩, ⟨true, t (i + 1), none⟩]⟩ a w'
    exact At.again hf hS (by repeat first | exact trivial | refine ⟨⟨_, rfl, .inl ⟨rfl, rfl⟩⟩, ?_⟩ | refine ⟨⟨_, rfl, .inr ⟨_, rfl, rfl⟩⟩, ?_⟩ | refine ⟨⟨_, rfl, .inr ⟨_, rfl, by simp (disch := omega) [SV.den, SI.den, wrapU, wrapD] <;> omega⟩⟩, ?_⟩) ⟨fun h => h, SubC.refl (htb _ _), rfl, fun h => h, SubC.refl rfl, rfl, fun h => h, SubC.refl rfl, rfl, fun h => h, SubC.refl rfl, rfl, fun h => h, SubC.refl (htb _ _), rfl, trivial⟩
  · simp only [SB.F, SI.den] at hge
    obtain rfl : i = n := by omega
    refine X.go T50_ok 400 _ rfl Try.results50 ?_
    conv => arg 2; cbv
    refine X.done T50_ok rfl (fun N w' v hN hS hv => ?_)
    obtain ⟨q, hq⟩ : ∃ p, N[4]? = some p := ⟨_, List.getElem?_eq_getElem (by rw [hS.len]; show 4 < 5; omega)⟩
    simp only [resV, SV.den, SV.denL, SI.den, SB.den, hq, Num.cap, Nat.add_zero, Nat.sub_zero, Option.some.injEq] at hv
    rw [hQ]
    refine ⟨⟨⟨d1, d2, some ⟨q.b, q.o, none⟩, kn, q.x / 1, wp, wn, wc, off, fl, fu⟩, congrArg Ending.returned hv.symm, fun M h1 h2 => ?_⟩, hS.chg.none⟩
    have htn : ti = strL (settleL kept ws) := by rw [hti, ht, hn]; simp
    have hkk : (r.settle ws).kept = settleL kept ws := by rw [hkept]; rfl
    have hM := own_strs (M := M) (l := settleL kept ws) (n := kn) hS (r := 4) (by rw [← htn]; rfl) hq (by rw [settle_len, hkn]) (by omega) (by have := maxLen_le; omega) h2
    obtain ⟨e1, e2, e3, e4, e5, e6, e7⟩ := hd.e
    refine ⟨⟨e1, e2, by rw [hkk, settle_len]; exact hkn, e4, e5, e6, e7⟩, ?_, (hd.wp.mono h1)⟩
    rw [hkk]
    exact hM
end Go.Proofs.Ytkjhpaeminegoaa

namespace Go.Proofs.Ytkjhpaeminegoaa
open Go Go.Eng
set_option maxHeartbeats 8000000 in
set_option maxRecDepth 100000 in
set_option cbv.maxSteps 100000000 in
theorem rnew_ok (size count : Nat) (Mo : Mem) (w : World) (hs : 0 < size ∧ size ≤ 1000) (hc : 0 < count ∧ count ≤ 1000) :
    Calls Try.prog 19 #[.int .i64 size, .int .i64 count] w (RetD ⟨size, count, List.replicate count (strG (fun _ => 0) size), [], false, 0, -1⟩ Mo w) := by
  obtain ⟨Q, hQ⟩ : ∃ Q : Ending → World → Prop, Q = RetD ⟨size, count, List.replicate count (strG (fun _ => 0) size), [], false, 0, -1⟩ Mo w := ⟨_, rfl⟩
  rw [← hQ]
  refine X.begin (rg := []) (N := []) (ss := [.int .i64 (.nat size), .int .i64 (.nat count)]) Try.func19 rfl B19_ok rfl rfl Sat.std0 ?_
  obtain ⟨z, hz⟩ : ∃ z, z = strG (fun _ => 0) size := ⟨_, rfl⟩
  refine X.goX ([(12, .raw (.string z))]) ([]) T19_ok 400 _ rfl Try.results19 (fun pr pe fin hpr hpe hfin => ?_)
  conv => cbv
  refine ⟨hpr _ (.of Try.call44 [.int .i64 size] (.string z) (fun _ => rfl) (fun _ => rfl) fun _ w1 _ => by rw [hz]; exact zeros_ok size w1 hs.1 hs.2), hfin _ _ ?_⟩
  clear hpr hpe hfin
  refine X.dummy (by simp) ?_
  obtain ⟨t, ht⟩ : ∃ t : Nat → List SV, t = fun i => strL (List.replicate i z) := ⟨_, rfl⟩
  have htl : ∀ i, (t i).length = i := fun i => by rw [ht]; simp only; rw [strL_len, List.length_replicate]
  have htb : ∀ i m, (t i).all (bd m) = true := fun i m => by rw [ht]; exact rawL_bd
  have ht0 : t 0 = [] := by rw [ht]; rfl
  have htd : ∀ i, ∀ x ∈ t i, ∀ (N N' : Nums) (v : Value), x.den N = some v → x.den N' = some v := fun i x hx N N' v h => by rw [ht] at hx; exact rawL_den hx h
  have ht1 : ∀ i, t (i + 1) = t i ++ [.raw (.string z)] := fun i => by
    rw [ht]
    simp [strL, rawL, List.replicate_succ']
  refine X.loop1 (fun i : {i : Nat // i ≤ count} => ⟨[(0, .val (.int .i64 (.nat size))), (1, .val (.int .i64 (.nat count))), (4, .val (.own 0 0)), (5, .val (.own 1 0)), (6, .val (.raw (.string z))), (7, .val (.int .i64 (.nat i.1)))], [⟨true, [.int .i64 (.lit 0), .int .i64 (.lit 0), .raw (.slice none 0 0), .raw (.slice none 0 0), .bool (.lit false), .int .u64 (.lit 0), .int .i64 (.lit 0)], none⟩, ⟨true, [.int .i64 (.nat size), .int .i64 (.nat count), gV 2 i.1 1, .raw (.slice none 0 0), .bool (.lit false), .int .u64 (.lit 0), .int .i64 (.lit (-1))], none⟩, ⟨decide (i.1 ≠ 0), t i.1, none⟩]⟩) (fun i => count - i.1) (fun N a w' hN hf hS => ⟨⟨0, Nat.zero_le _⟩, ?_⟩) (fun i q' hq' => ?_)
  · show At (mkE Try.prog Try.f19 Q w (InR [] []) (elsewhere [] [] w) (fun _ _ => False) (fun _ => True) [] B19) ⟨[(0, .val (.int .i64 (.nat size))), (1, .val (.int .i64 (.nat count))), (4, .val (.own 0 0)), (5, .val (.own 1 0)), (6, .val (.raw (.string z))), (7, .val (.int .i64 (.nat 0)))], [⟨true, [.int .i64 (.lit 0), .int .i64 (.lit 0), .raw (.slice none 0 0), .raw (.slice none 0 0), .bool (.lit false), .int .u64 (.lit 0), .int .i64 (.lit 0)], none⟩, ⟨true, [.int .i64 (.nat size), .int .i64 (.nat count), gV 2 0 1, .raw (.slice none 0 0), .bool (.lit false), .int .u64 (.lit 0), .int .i64 (.lit (-1))], none⟩, ⟨decide (0 ≠ 0), t 0, none⟩]⟩ a w'
    rw [ht0]
    exact At.again hf hS (by repeat first | exact trivial | refine ⟨⟨_, rfl, .inl ⟨rfl, rfl⟩⟩, ?_⟩ | refine ⟨⟨_, rfl, .inr ⟨_, rfl, rfl⟩⟩, ?_⟩ | refine ⟨⟨_, rfl, .inr ⟨_, rfl, by simp (disch := omega) [SV.den, SI.den, wrapU, wrapD] <;> omega⟩⟩, ?_⟩) ⟨fun h => h, SubC.refl rfl, rfl, fun h => h, SubC.refl rfl, rfl, fun h => (by cases h), SubC.refl rfl, rfl, trivial⟩
  obtain ⟨i, hi⟩ := i
  obtain ⟨ti, hti⟩ : ∃ x, x = t i := ⟨_, rfl⟩
  obtain ⟨g, hg⟩ : ∃ x, x = gV 2 i 1 := ⟨_, rfl⟩
  obtain ⟨ow, how⟩ : ∃ x, x = decide (i ≠ 0) := ⟨_, rfl⟩
  have hgb : SV.one g = true := by rw [hg]; unfold gV; cases Nat.beq i 0 <;> rfl
  show X (mkE Try.prog Try.f19 Q w (InR [] []) (elsewhere [] [] w) (fun _ _ => False) (fun _ => True) [] B19) _ ⟨[(0, .val (.int .i64 (.nat size))), (1, .val (.int .i64 (.nat count))), (4, .val (.own 0 0)), (5, .val (.own 1 0)), (6, .val (.raw (.string z))), (7, .val (.int .i64 (.nat i)))], [⟨true, [.int .i64 (.lit 0), .int .i64 (.lit 0), .raw (.slice none 0 0), .raw (.slice none 0 0), .bool (.lit false), .int .u64 (.lit 0), .int .i64 (.lit 0)], none⟩, ⟨true, [.int .i64 (.nat size), .int .i64 (.nat count), gV 2 i 1, .raw (.slice none 0 0), .bool (.lit false), .int .u64 (.lit 0), .int .i64 (.lit (-1))], none⟩, ⟨decide (i ≠ 0), t i, none⟩]⟩
  rw [← hti, ← hg, ← how]
  have htil : ti.length = i := by rw [hti]; exact htl i
  refine X.go T19_ok 400 _ rfl Try.results19 ?_
  conv => arg 2; cbv
  refine X.cond rfl (fun hlt => ?_) (fun hge => ?_)
  · simp only [SB.T, SI.den] at hlt
    have hlt : i < count := by omega
    obtain ⟨tn, htn⟩ : ∃ x, x = ti ++ [SV.raw (.string z)] := ⟨_, rfl⟩
    have heff : ∀ {f : Fr}, ev f (.tmp 19) = some g → ev f (.tmp 21) = some (.osl 3 0 1 1 (some 1)) → EffOk (mkE Try.prog Try.f19 Q w (InR [] []) (elsewhere [] [] w) (fun _ _ => False) (fun _ => True) [] B19).toEnv [] [⟨true, [.int .i64 (.lit 0), .int .i64 (.lit 0), .raw (.slice none 0 0), .raw (.slice none 0 0), .bool (.lit false), .int .u64 (.lit 0), .int .i64 (.lit 0)], none⟩, ⟨true, [.int .i64 (.nat size), .int .i64 (.nat count), g, .raw (.slice none 0 0), .bool (.lit false), .int .u64 (.lit 0), .int .i64 (.lit (-1))], none⟩, ⟨ow, ti, none⟩, ⟨true, [.raw (.string z)], none⟩] f (.call { callee := .builtin .append, args := #[.tmp 19, .tmp 21], argTypes := #[40, 40] }) (.osl 4 0 (i + 1) 1 none) [⟨true, [.int .i64 (.lit 0), .int .i64 (.lit 0), .raw (.slice none 0 0), .raw (.slice none 0 0), .bool (.lit false), .int .u64 (.lit 0), .int .i64 (.lit 0)], none⟩, ⟨true, [.int .i64 (.nat size), .int .i64 (.nat count), g, .raw (.slice none 0 0), .bool (.lit false), .int .u64 (.lit 0), .int .i64 (.lit (-1))], none⟩, ⟨false, [], none⟩, ⟨true, [.raw (.string z)], none⟩, ⟨true, tn, none⟩] := fun {f} h1 h2 => by
      rw [htn]
      have hok : appV.appOk ti9 [.raw (.string z)] i 1 = true := appOk_ok (by decide) rfl rfl rfl (by show (2 * (i + 1) + 256) * 16 ≤ _; omega) (by omega)
      refine EffOk.step T19_ok (stepE_append (te := ti9) (new := [.raw (.string z)]) (m := 1) h1 h2 rfl rfl rfl (appSrc_row (g := ⟨true, [.raw (.string z)], none⟩) rfl rfl rfl rfl) ?_)
      cases i with
      | zero =>
        have e1 : ti = [] := List.eq_nil_of_length_eq_zero htil
        subst hg how e1
        exact appV_nil (by decide) hok
      | succ j =>
        subst hg how
        exact appV_hid (te := ti9) (cs := ti) rfl (by show ti.length = (j + 1) * 1; omega) (by decide) hok
    refine X.goX ([]) ([(22, ⟨fun _ => .osl 4 0 (i + 1) 1 none, [(2, ⟨false, [], none⟩)], [⟨true, tn, none⟩]⟩)]) T19_ok 400 _ rfl Try.results19 (fun pr pe fin hpr hpe hfin => ?_)
    conv => cbv
    refine ⟨hpe _ _ _ _ _ (heff rfl rfl), hfin _ _ ?_⟩
    clear hpr hpe hfin
    refine X.back (fun N a w' hN hf hS => hq' ⟨i + 1, by omega⟩ a w' (by simp only; omega) ?_)
    show At (mkE Try.prog Try.f19 Q w (InR [] []) (elsewhere [] [] w) (fun _ _ => False) (fun _ => True) [] B19) ⟨[(0, .val (.int .i64 (.nat size))), (1, .val (.int .i64 (.nat count))), (4, .val (.own 0 0)), (5, .val (.own 1 0)), (6, .val (.raw (.string z))), (7, .val (.int .i64 (.nat (i + 1))))], [⟨true, [.int .i64 (.lit 0), .int .i64 (.lit 0), .raw (.slice none 0 0), .raw (.slice none 0 0), .bool (.lit false), .int .u64 (.lit 0), .int .i64 (.lit 0)], none⟩, ⟨true, [.int .i64 (.nat size), .int .i64 (.nat count), gV 2 (i + 1) 1, .raw (.slice none 0 0), .bool (.lit false), .int .u64 (.lit 0), .int .i64 (.lit (-1))], none⟩, ⟨decide ((i + 1) ≠ 0), t (i + 1), none⟩]⟩ a w'
    obtain ⟨n0, n1, n2, n3, n4, rfl⟩ : ∃ n0 n1 n2 n3 n4, N = [n0, n1, n2, n3, n4] := by
      have hl : N.length = 5 := hS.len
      match N, hl with
      | [a, b, c, d, e], _ => exact ⟨a, b, c, d, e, rfl⟩
    have hf2 : FrOk _ ([n0, n1, n2, n3, n4].take 2) [(0, .val (.int .i64 (.nat size))), (1, .val (.int .i64 (.nat count))), (4, .val (.own 0 0)), (5, .val (.own 1 0)), (6, .val (.raw (.string z))), (7, .val (.int .i64 (.nat (i + 1))))] a := hf.sub (by repeat first | exact trivial | refine ⟨⟨_, rfl, .inl ⟨rfl, rfl⟩⟩, ?_⟩ | refine ⟨⟨_, rfl, .inr ⟨_, rfl, rfl⟩⟩, ?_⟩ | refine ⟨⟨_, rfl, .inr ⟨_, rfl, by simp (disch := omega) [SV.den, SI.den, wrapU, wrapD] <;> omega⟩⟩, ?_⟩)
    refine ⟨[n0, n1, n4], nil_le _, hf2.mono (Nums.le_append [n0, n1] [n4]), ?_⟩
    rw [decide_eq_true (show i + 1 ≠ 0 by omega), ht1, ← hti, ← htn]
    refine hS.perm rfl (fun i => if i = 2 then 4 else if i = 4 then 2 else i) (fun i j h => by split at h <;> split at h <;> (try split at h) <;> (try split at h) <;> omega) fun r y p hy hp => ?_
    match r, hy, hp with
    | 0, hy, hp => cases hy; cases hp; exact ⟨_, rfl, rfl, rfl, rfl, rfl, fun j c hj => ⟨c, hj, fun v hv => by
        match j, hj with
        | 0, hj => cases hj; exact hv
        | 1, hj => cases hj; exact hv
        | 2, hj => cases hj; exact hv
        | 3, hj => cases hj; exact hv
        | 4, hj => cases hj; exact hv
        | 5, hj => cases hj; exact hv
        | 6, hj => cases hj; exact hv
        | j + 7, hj => simp at hj⟩⟩
    | 1, hy, hp => cases hy; cases hp; exact ⟨_, rfl, rfl, rfl, rfl, rfl, fun j c hj => by
        match j, hj with
        | 0, hj => cases hj; exact ⟨_, rfl, fun v hv => hv⟩
        | 1, hj => cases hj; exact ⟨_, rfl, fun v hv => hv⟩
        | 2, hj => cases hj; exact ⟨_, rfl, fun v hv => hv⟩
        | 3, hj => cases hj; exact ⟨_, rfl, fun v hv => hv⟩
        | 4, hj => cases hj; exact ⟨_, rfl, fun v hv => hv⟩
        | 5, hj => cases hj; exact ⟨_, rfl, fun v hv => hv⟩
        | 6, hj => cases hj; exact ⟨_, rfl, fun v hv => hv⟩
        | j + 7, hj => simp at hj⟩
    | 2, hy, hp => cases hy; cases hp; exact ⟨_, rfl, rfl, rfl, rfl, rfl, fun j c hj => ⟨c, hj, fun v hv => htd (i + 1) c (by rw [ht1, ← hti, ← htn]; exact List.mem_of_getElem? hj) _ _ v hv⟩⟩
    | r + 3, hy, hp => simp at hy
  · simp only [SB.F, SI.den] at hge
    obtain rfl : i = count := by omega
    obtain ⟨j, rfl⟩ : ∃ j, i = j + 1 := ⟨i - 1, by omega⟩
    subst hg
    refine X.go T19_ok 400 _ rfl Try.results19 ?_
    conv => arg 2; cbv
    refine X.done T19_ok rfl (fun N w' v hN hS hv => ?_)
    obtain ⟨q, hq⟩ : ∃ p, N[2]? = some p := ⟨_, List.getElem?_eq_getElem (by rw [hS.len]; show 2 < 3; omega)⟩
    have hv : (resV [.agg [.int .i64 (.nat size), .int .i64 (.nat (j + 1)), .osl 2 0 (j + 1) 1 none, .raw (.slice none 0 0), .bool (.lit false), .int .u64 (.lit 0), .int .i64 (.lit (-1))]]).den N = some v := hv
    simp only [resV, SV.den, SV.denL, SI.den, SB.den, one?, if_true, hq, Num.cap, Nat.add_zero, Nat.sub_zero, Option.some.injEq] at hv
    rw [hQ]
    refine ⟨⟨⟨size, (j + 1 : Nat), some ⟨q.b, q.o, none⟩, j + 1, q.x / 1, none, 0, 0, false, 0, -1⟩, congrArg Ending.returned hv.symm, fun M h1 h2 => ?_⟩, hS.chg.none⟩
    have hM := own_strs (M := M) (l := List.replicate (j + 1) z) (n := j + 1) hS (r := 2) (by show some (Rg.mk ow ti none) = _; rw [how, hti, ht]; rfl) hq (by simp) (by omega) (by have := maxLen_le; omega) h2
    rw [hz] at hM
    exact ⟨⟨rfl, rfl, by simp, rfl, rfl, rfl, rfl⟩, hM, ⟨by simp, by simp⟩, .inl rfl⟩
end Go.Proofs.Ytkjhpaeminegoaa

namespace Go.Proofs.Ytkjhpaeminegoaa
open Go Go.Eng
def wL (l : List (Int × ByteArray)) : List SV := rawL (l.map fun x => [Value.int .i64 x.1, .string x.2]).flatten
theorem wL_two (l : List (Int × ByteArray)) : ∀ v ∈ l.map fun x => [Value.int .i64 x.1, Value.string x.2], v.length = 2 := fun v hv => by
  obtain ⟨x, _, rfl⟩ := List.mem_map.1 hv
  rfl
theorem wL_len (l : List (Int × ByteArray)) : (wL l).length = l.length * 2 := by
  unfold wL
  rw [rawL_len, flatten_len (wL_two l), List.length_map]
theorem wL_one (l : List (Int × ByteArray)) : (wL l).all SV.one = true := by
  refine List.all_eq_true.2 fun x hx => ?_
  obtain ⟨v, _, rfl⟩ := List.mem_map.1 hx
  rfl
theorem wL_snoc (l : List (Int × ByteArray)) (x : Int × ByteArray) : wL (l ++ [x]) = wL l ++ [.raw (.int .i64 x.1), .raw (.string x.2)] := by
  simp [wL, rawL]
theorem w_row {M : Mem} {p : Option Addr} {c : Nat} {l : List (Int × ByteArray)} (h : SlR M p c 2 (l.map wD)) (h0 : 0 < l.length) : l.length ≤ c ∧ ∃ b y, p = some ⟨b, y, none⟩ ∧ ∀ (j : Nat) (v : SV), (wL l)[j]? = some v → ∃ u, v = .raw u ∧ one? u = true ∧ M b (y + j) = some u := by
  obtain ⟨⟨h1, _⟩, h2 | ⟨b, y, hp, h3⟩⟩ := h
  · have := congrArg List.length h2
    simp only [List.length_map, List.length_nil] at this
    omega
  · refine ⟨by simpa using h1, b, y, hp, fun j v hj => ?_⟩
    unfold wL rawL at hj
    rw [List.getElem?_map, flatten_get (by decide) (wL_two l), Option.map_eq_some_iff] at hj
    obtain ⟨u, hu, rfl⟩ := hj
    rw [Option.bind_eq_some_iff] at hu
    obtain ⟨vs, h4, h5⟩ := hu
    rw [List.getElem?_map, Option.map_eq_some_iff] at h4
    obtain ⟨x, hx, rfl⟩ := h4
    obtain ⟨vs, h6, h7⟩ := h3 (j / 2) (wD x) (by rw [List.getElem?_map, hx]; rfl)
    rw [wD.open h6] at h7
    have := h7 (j % 2) u h5
    rw [Nat.add_assoc, Nat.mul_comm, Nat.div_add_mod] at this
    refine ⟨u, rfl, ?_, this⟩
    have hm : j % 2 = 0 ∨ j % 2 = 1 := by omega
    rcases hm with e | e
    · rw [e] at h5; cases h5; rfl
    · rw [e] at h5; cases h5; rfl
theorem own_ws {P : Program} {fn : Func} {Q : Ending → World → Prop} {w w' : World} {im : Mem} {D : Nat → Nat → Prop} {Rr : World → Prop} {N0 N : Nums} {B : SchT} {rg : List Rg} {r n : Nat} {q : Num} {l : List (Int × ByteArray)} {cs : List SV} {M : Mem}
    (hS : Sat (mkE P fn Q w (InR [] []) im D Rr N0 B).toEnv N rg w') (hr : rg[r]? = some ⟨true, cs, none⟩) (hcs : cs = wL l) (hq : N[r]? = some q) (hn : n = l.length) (h0 : 0 < n) (hle : n ≤ maxLen) (hM : ∀ k o v, w.heap.size ≤ k → w'.cell? ⟨k, o, none⟩ = some v → M k o = some v) : SlR M (some ⟨q.b, q.o, none⟩) (q.x / 2) 2 (l.map wD) := by
  subst hcs
  have h := cloned (f := wD) (l := l) (n := n) (K := 2) (vss := l.map fun x => [Value.int .i64 x.1, .string x.2]) (p := some ⟨q.b, q.o, none⟩) (M := M) hS (by rw [hr, decide_eq_true (by omega)]; rfl) hq (by decide) hn hle (by simp) (wL_two l) (fun h => by cases h)
    (fun i x hx => ⟨[.int .i64 x.1, .string x.2], by rw [List.getElem?_map, hx]; rfl, by simp [wD, RepL, RepC]⟩) (fun j v hk hc _ => hM _ _ _ hk hc)
  exact h
theorem dc_burn {M : Mem} {r : RD} {d : DC} (h : RDC M r d) : d.burn.1 = r.burn.1 ∧ RDC M r.burn.2 d.burn.2 := by
  obtain ⟨⟨e1, e2, e3, e4, e5, e6, e7⟩, h1, h2⟩ := h
  unfold DC.burn RD.burn
  rw [e7]
  split
  · exact ⟨rfl, ⟨⟨e1, e2, e3, e4, e5, e6, e7⟩, h1, h2⟩⟩
  · split
    · exact ⟨rfl, ⟨⟨e1, e2, e3, e4, rfl, by simp only [DC.fall, RD.fall]; rw [e5, e6], e7⟩, h1, h2⟩⟩
    · exact ⟨rfl, ⟨⟨e1, e2, e3, e4, e5, e6, by simp⟩, h1, h2⟩⟩
theorem burn_rows (d : DC) (wp : Option Addr) (wn wc : Nat) : ({ d with wp := wp, wn := wn, wc := wc } : DC).burn = (d.burn.1, { d.burn.2 with wp := wp, wn := wn, wc := wc }) := by
  unfold DC.burn DC.fall
  split
  · rfl
  · split <;> rfl
def DC.svsW (d : DC) (x : SV) : List SV := [.int .i64 (.v d.size), .int .i64 (.v d.count), .slv d.kp d.kn d.kc, x, .bool (.v d.off), .int .u64 (.v d.falls), .int .i64 (.v d.fuse)]
set_option maxHeartbeats 8000000 in
set_option maxRecDepth 100000 in
set_option cbv.maxSteps 100000000 in
theorem rwrite_ok (r : RD) (d : DC) (i : Int) (s : ByteArray) (Mo : Mem) (w : World) (hMo : ∀ k o v, Mo k o = some v → w.cell? ⟨k, o, none⟩ = some v) (hd : RDC Mo r d) (hle : r.ws.length ≤ 1000) :
    Calls Try.prog 46 #[.agg d.vals.toArray, .int .i64 i, .string s] w (RetCD (r.write i s).1 (r.write i s).2 Mo w) := by
  obtain ⟨c, hc⟩ : ∃ c, c = (r.write i s).1 := ⟨_, rfl⟩
  obtain ⟨r', hr'⟩ : ∃ c, c = (r.write i s).2 := ⟨_, rfl⟩
  rw [← hc, ← hr']
  obtain ⟨Q, hQ⟩ : ∃ Q : Ending → World → Prop, Q = RetCD c r' Mo w := ⟨_, rfl⟩
  rw [← hQ]
  obtain ⟨e1, e2, e3, e4, e5, e6, e7⟩ := hd.e
  unfold RD.write at hc hr'
  have hb0 := burn_rows d
  obtain ⟨d1, d2, kp, kn, kc, wp, wn, wc, off, fl, fu⟩ := d
  simp only at e1 e2 e3 e4 e5 e6 e7
  refine X.begin (rg := []) (N := []) (ss := [.agg (DC.svs ⟨d1, d2, kp, kn, kc, wp, wn, wc, off, fl, fu⟩), .int .i64 (.v i), .raw (.string s)]) Try.func46 rfl B46_ok rfl rfl Sat.std0 ?_
  obtain ⟨im, hime⟩ : ∃ im, im = elsewhere [] [] w := ⟨_, rfl⟩
  have hMi : ∀ k o v, Mo k o = some v → im k o = some v := fun k o v h => by rw [hime]; exact his (hMo _ _ _ h)
  show X (mkE Try.prog Try.f46 Q w (InR [] []) (elsewhere [] [] w) (fun _ _ => False) (fun _ => True) [] B46) _ _
  rw [← hime]
  have same : r' = r → ∀ {N : Nums} {w' : World} {v : Value} {rg : List Rg}, Sat (mkE Try.prog Try.f46 Q w (InR [] []) im (fun _ _ => False) (fun _ => True) [] B46).toEnv N rg w' → (resV [.int .i64 (.lit c), .agg (DC.svs ⟨d1, d2, kp, kn, kc, wp, wn, wc, off, fl, fu⟩)]).den N = some v → Q (.returned v) w' := fun hr {N w' v rg} hS hv => by
    rw [hQ]
    refine ⟨⟨⟨d1, d2, kp, kn, kc, wp, wn, wc, off, fl, fu⟩, ?_, fun M h1 _ => ?_⟩, hS.chg.none⟩
    · rw [← (Option.some.inj hv : _ = v)]
      rfl
    · rw [hr]; exact hd.mono h1
  refine X.go T46_ok 400 _ rfl Try.results46 ?_
  conv => arg 2; cbv
  refine X.cond rfl (fun h1 => ?_) (fun h1 => ?_)
  · simp only [SB.T] at h1
    subst h1
    rw [← e5, if_pos rfl] at hc hr'
    simp only at hc hr'
    subst hc
    refine X.go T46_ok 400 _ rfl Try.results46 ?_
    conv => arg 2; cbv
    exact X.done T46_ok rfl (fun N w' v hN hS hv => same hr' hS hv)
  simp only [SB.F] at h1
  subst h1
  rw [← e5, if_neg (by simp)] at hc hr'
  refine X.go T46_ok 400 _ rfl Try.results46 ?_
  conv => arg 2; cbv
  refine X.cond rfl (fun h2 => ?_) (fun h2 => ?_)
  · simp only [SB.T, SI.den] at h2
    rw [if_pos (by omega)] at hc hr'
    simp only at hc hr'
    subst hc
    refine X.go T46_ok 400 _ rfl Try.results46 ?_
    conv => arg 2; cbv
    exact X.done T46_ok rfl (fun N w' v hN hS hv => same hr' hS hv)
  simp only [SB.F, SI.den] at h2
  rw [if_neg (by omega)] at hc hr'
  obtain ⟨sn, hsn⟩ : ∃ m, m = s.size := ⟨_, rfl⟩
  refine X.goX ([(24, .int .i64 (.nat sn))]) ([]) T46_ok 400 _ rfl Try.results46 (fun pr pe fin hpr hpe hfin => ?_)
  conv => cbv
  refine ⟨hpr _ (by rw [hsn]; exact vk_strLen rfl Try.underlying9), hfin _ _ ?_⟩
  clear hpr hpe hfin
  refine X.cond rfl (fun h3 => ?_) (fun h3 => ?_)
  · simp only [SB.T, SI.den] at h3
    rw [if_pos (by omega)] at hc hr'
    simp only at hc hr'
    subst hc
    refine X.go T46_ok 400 _ rfl Try.results46 ?_
    conv => arg 2; cbv
    exact X.done T46_ok rfl (fun N w' v hN hS hv => same hr' hS hv)
  simp only [SB.F, SI.den] at h3
  rw [if_neg (by omega)] at hc hr'
  obtain ⟨n1, hn1⟩ : ∃ m, m = wn + 1 := ⟨_, rfl⟩
  obtain ⟨cs, hcs⟩ : ∃ x, x = wL (r.ws ++ [(i, s)]) := ⟨_, rfl⟩
  obtain ⟨bt, hbt⟩ : ∃ b, b = (DC.burn ⟨d1, d2, kp, kn, kc, wp, wn, wc, false, fl, fu⟩).1 := ⟨_, rfl⟩
  obtain ⟨db, hdb⟩ : ∃ b, b = (DC.burn ⟨d1, d2, kp, kn, kc, wp, wn, wc, false, fl, fu⟩).2 := ⟨_, rfl⟩
  have hrow : ∀ (b y cp : Nat), DC.burn ⟨d1, d2, kp, kn, kc, some ⟨b, y, none⟩, n1, cp, false, fl, fu⟩ = (bt, { db with wp := some ⟨b, y, none⟩, wn := n1, wc := cp }) := fun b y cp => by rw [hbt, hdb]; exact hb0 _ _ _
  have hws : r.ws.length = wn := e4.symm
  have hfinal : ∀ {N : Nums} {w' : World} {v : Value} {rg : List Rg} {R : Nat} {q : Num}, Sat (mkE Try.prog Try.f46 Q w (InR [] []) im (fun _ _ => False) (fun _ => True) [] B46).toEnv N rg w' → rg[R]? = some ⟨true, cs, none⟩ → N[R]? = some q → v = .tuple #[.int .i64 (bif bt then 8 else 0), .agg (DC.vals { db with wp := some ⟨q.b, q.o, none⟩, wn := n1, wc := q.x / 2 }).toArray] → Q (.returned v) w' := fun {N w' v rg R q} hS hr hq hv => by
    rw [hQ]
    have hRD : ∀ M : Mem, (∀ k o v, Mo k o = some v → M k o = some v) → (∀ k o v, w.heap.size ≤ k → w'.cell? ⟨k, o, none⟩ = some v → M k o = some v) → RDC M { r with ws := r.ws ++ [(i, s)] } ⟨d1, d2, kp, kn, kc, some ⟨q.b, q.o, none⟩, n1, q.x / 2, false, fl, fu⟩ := fun M h1 h2 =>
      ⟨⟨e1, e2, e3, by simp [hn1, e4], e5, e6, e7⟩, hd.kp.mono h1, own_ws (n := n1) hS hr hcs hq (by simp [hn1, e4]) (by omega) (by have := maxLen_le; omega) h2⟩
    have hbb := hrow q.b q.o (q.x / 2)
    refine ⟨⟨{ db with wp := some ⟨q.b, q.o, none⟩, wn := n1, wc := q.x / 2 }, ?_, fun M h1 h2 => ?_⟩, hS.chg.none⟩
    · have h0 := (dc_burn (hRD (fun k o => w'.cell? ⟨k, o, none⟩) (fun k o v h => hS.imm _ _ _ (hMi _ _ _ h)) (fun _ _ _ _ h => h))).1
      rw [hbb, ← e5] at h0
      simp only at h0 hc
      rw [hv, hc, ← h0]
    · have h0 := (dc_burn (hRD M h1 h2)).2
      rw [hbb, ← e5] at h0
      rw [hr']
      exact h0
  obtain ⟨g1, g2, gkp, gkn, gkc, gwp, gwn, gwc, goff, gfl, gfu⟩ := db
  obtain ⟨c0, hc0⟩ : ∃ x, x = wL r.ws := ⟨_, rfl⟩
  have hcl : c0.length = wn * 2 := by rw [hc0, wL_len, hws]
  obtain ⟨c1, hc1⟩ : ∃ x, x = c0 ++ [SV.int .i64 (.v i), .raw (.string s)] := ⟨_, rfl⟩
  have hcs' : cs = c0 ++ [.raw (.int .i64 i), .raw (.string s)] := by rw [hcs, wL_snoc, hc0]
  have hlc : c1.length = cs.length := by rw [hc1, hcs']; simp
  have hden : ∀ (j : Nat) (x x' : SV), c1[j]? = some x → cs[j]? = some x' → ∀ (N : Nums) (v : Value), x.den N = some v → x'.den N = some v := fun j x x' h1 h2 N v hv => by
    rw [hc1] at h1
    rw [hcs'] at h2
    by_cases hj : j < c0.length
    · rw [List.getElem?_append_left hj] at h1 h2
      rw [h1] at h2; cases h2; exact hv
    · rw [List.getElem?_append_right (by omega)] at h1 h2
      obtain ⟨m, hm⟩ : ∃ m, m = j - c0.length := ⟨_, rfl⟩
      rw [← hm] at h1 h2
      match m, h1, h2 with
      | 0, h1, h2 => cases h1; cases h2; simpa [SV.den, SI.den, one?] using hv
      | 1, h1, h2 => cases h1; cases h2; exact hv
      | m + 2, h1, h2 => simp at h1
  rcases Nat.eq_zero_or_pos wn with h0 | h0
  · subst h0
    obtain rfl : n1 = 1 := hn1
    have hc0n : c0 = [] := List.eq_nil_of_length_eq_zero hcl
    obtain rfl : c1 = [SV.int .i64 (.v i), .raw (.string s)] := by rw [hc1, hc0n]; rfl
    have hburn : ∀ {rg : List Rg} {g : GK}, 4 < rg.length → CallOk (mkE Try.prog Try.f46 Q w (InR [] []) im (fun _ _ => False) (fun _ => True) [] B46).toEnv [] rg g 66 [.agg (DC.svsW ⟨d1, d2, kp, kn, kc, none, 0, 0, false, fl, fu⟩ (.osl 4 0 1 2 none))] (.tup [.bool (.lit bt), .agg (DC.svsW ⟨g1, g2, gkp, gkn, gkc, gwp, gwn, gwc, goff, gfl, gfu⟩ (.osl 4 0 1 2 none))]) := fun hR _ => ⟨Try.call66, fun N w1 args hN hS ha => by
      obtain ⟨q, hq⟩ : ∃ p, N[4]? = some p := ⟨_, List.getElem?_eq_getElem (by rw [hS.len]; exact hR)⟩
      have ha : args = [.agg (DC.vals ⟨d1, d2, kp, kn, kc, some ⟨q.b, q.o, none⟩, 1, q.x / 2, false, fl, fu⟩).toArray] := by
        simp only [SV.denL, SV.den, SI.den, SB.den, DC.svsW, hq, Num.cap, Nat.add_zero, Nat.sub_zero, Option.some.injEq] at ha
        exact ha.symm
      rw [ha]
      refine (rburns_ok _ w1).mono fun e w' ⟨he, hch⟩ => ⟨_, he, ?_, hch⟩
      rw [hrow]
      simp only [SV.denL, SV.den, SI.den, SB.den, DC.svsW, hq, Num.cap, Nat.add_zero, Nat.sub_zero, Option.some.injEq]
      rfl⟩
    refine X.go T46_ok 6 _ rfl Try.results46 ?_
    conv => arg 2; cbv
    refine X.app0 T46_ok rfl rfl rfl rfl rfl rfl rfl rfl rfl rfl (by decide) rfl (by decide) rfl ?_
    cases bt
    · skip
      refine X.goX ([(42, .tup [.bool (.lit false), .agg (DC.svsW ⟨g1, g2, gkp, gkn, gkc, gwp, gwn, gwc, goff, gfl, gfu⟩ (.osl 4 0 1 2 none))])]) ([]) T46_ok 400 _ rfl Try.results46 (fun pr pe fin hpr hpe hfin => ?_)
      conv => cbv
      refine ⟨hpr _ (hburn (by simp)), rfl, hfin _ _ ?_⟩
      clear hpr hpe hfin
      refine X.recell 4 ⟨true, [SV.int .i64 (.v i), .raw (.string s)], none⟩ cs rfl (hlc.symm) (fun N _ j x x' h1 h2 v hv => hden j x x' h1 h2 N v hv) ?_
      refine X.done T46_ok rfl (fun N w' v hN hS hv => ?_)
      obtain ⟨q, hq⟩ : ∃ p, N[4]? = some p := ⟨_, List.getElem?_eq_getElem (by rw [hS.len]; show 4 < 6; omega)⟩
      refine hfinal (R := 4) hS rfl hq ?_
      simp only [resV, SV.den, SV.denL, SI.den, SB.den, DC.svsW, hq, Num.cap, Nat.add_zero, Nat.sub_zero, Option.some.injEq] at hv
      rw [← hv]
      rfl
    · skip
      refine X.goX ([(42, .tup [.bool (.lit true), .agg (DC.svsW ⟨g1, g2, gkp, gkn, gkc, gwp, gwn, gwc, goff, gfl, gfu⟩ (.osl 4 0 1 2 none))])]) ([]) T46_ok 400 _ rfl Try.results46 (fun pr pe fin hpr hpe hfin => ?_)
      conv => cbv
      refine ⟨hpr _ (hburn (by simp)), rfl, hfin _ _ ?_⟩
      clear hpr hpe hfin
      refine X.recell 4 ⟨true, [SV.int .i64 (.v i), .raw (.string s)], none⟩ cs rfl (hlc.symm) (fun N _ j x x' h1 h2 v hv => hden j x x' h1 h2 N v hv) ?_
      refine X.done T46_ok rfl (fun N w' v hN hS hv => ?_)
      obtain ⟨q, hq⟩ : ∃ p, N[4]? = some p := ⟨_, List.getElem?_eq_getElem (by rw [hS.len]; show 4 < 6; omega)⟩
      refine hfinal (R := 4) hS rfl hq ?_
      simp only [resV, SV.den, SV.denL, SI.den, SB.den, DC.svsW, hq, Num.cap, Nat.add_zero, Nat.sub_zero, Option.some.injEq] at hv
      rw [← hv]
      rfl
  · obtain ⟨hwc, b0, y0, hp0, hm0⟩ := w_row hd.wp (by omega)
    simp only at hp0 hwc
    subst hp0
    have hburn : ∀ {rg : List Rg} {g : GK}, 6 < rg.length → CallOk (mkE Try.prog Try.f46 Q w (InR [] []) im (fun _ _ => False) (fun _ => True) [] B46).toEnv [] rg g 66 [.agg (DC.svsW ⟨d1, d2, kp, kn, kc, none, 0, 0, false, fl, fu⟩ (.osl 6 0 n1 2 none))] (.tup [.bool (.lit bt), .agg (DC.svsW ⟨g1, g2, gkp, gkn, gkc, gwp, gwn, gwc, goff, gfl, gfu⟩ (.osl 6 0 n1 2 none))]) := fun hR _ => ⟨Try.call66, fun N w1 args hN hS ha => by
      obtain ⟨q, hq⟩ : ∃ p, N[6]? = some p := ⟨_, List.getElem?_eq_getElem (by rw [hS.len]; exact hR)⟩
      have ha : args = [.agg (DC.vals ⟨d1, d2, kp, kn, kc, some ⟨q.b, q.o, none⟩, n1, q.x / 2, false, fl, fu⟩).toArray] := by
        simp only [SV.denL, SV.den, SI.den, SB.den, DC.svsW, hq, Num.cap, Nat.add_zero, Nat.sub_zero, Option.some.injEq] at ha
        exact ha.symm
      rw [ha]
      refine (rburns_ok _ w1).mono fun e w' ⟨he, hch⟩ => ⟨_, he, ?_, hch⟩
      rw [hrow]
      simp only [SV.denL, SV.den, SI.den, SB.den, DC.svsW, hq, Num.cap, Nat.add_zero, Nat.sub_zero, Option.some.injEq]
      rfl⟩
    refine X.see b0 y0 c0 (fun j x hj => ?_) (by omega) (fun N1 hN1 hNl1 => ?_)
    · rw [hc0] at hj
      obtain ⟨u, rfl, hu, hmu⟩ := hm0 j x hj
      exact ⟨u, by simp [SV.den, hu], hMi _ _ _ hmu⟩
    have hg1 : (N1 ++ [(⟨b0, y0, 0⟩ : Num)])[2]? = some ⟨b0, y0, 0⟩ := num_last hNl1
    refine X.goX ([(31, .osl 2 0 wn 2 (some wc))]) ([(32, ⟨fun _ => .osl 4 0 wn 2 none, [], [⟨true, c0, none⟩]⟩), (38, ⟨fun _ => .osl 6 0 n1 2 none, [(4, ⟨false, [], none⟩)], [⟨true, c1, none⟩]⟩)]) T46_ok 400 _ rfl Try.results46 (fun pr pe fin hpr hpe hfin => ?_)
    conv => cbv
    refine ⟨hpr _ ((vk_load1 (gg := ⟨true, DC.svs ⟨d1, d2, kp, kn, kc, some ⟨b0, y0, none⟩, wn, wc, false, fl, fu⟩, none⟩) rfl Try.isAgg41 rfl rfl).convN fun N hN v h => ?_), hpe _ _ _ _ _ ?_, hpe _ _ _ _ _ ?_, hfin _ _ ?_⟩
    · have := hN 2 _ hg1
      simp only [SV.den, Option.some.injEq] at h
      simp [SV.den, this, Num.cap, ← h]
    · exact EffOk.step T46_ok (stepE_append (te := ti103) (new := c0) (m := wn) rfl rfl rfl rfl rfl (appSrc_row (g := ⟨false, c0, none⟩) rfl rfl rfl (by show c0.length = wn * 2; omega)) (appV_new (te := ti103) rfl (by omega) (appOk_ok (by decide) rfl (by show c0.length = wn * 2; omega) (by rw [hc0]; exact wL_one _) (by show (2 * (0 + wn) + 256) * 24 ≤ _; omega) (by omega))))
    · rw [hn1, hc1]
      exact EffOk.step T46_ok (stepE_append (te := ti103) (new := [.int .i64 (.v i), .raw (.string s)]) (m := 1) rfl rfl rfl rfl rfl (appSrc_row (g := ⟨true, [.int .i64 (.v i), .raw (.string s)], none⟩) rfl rfl rfl rfl) (appV_hid (te := ti103) (cs := c0) rfl (by show c0.length = wn * 2; omega) (by decide) (appOk_ok (by decide) rfl rfl rfl (by show (2 * (wn + 1) + 256) * 24 ≤ _; omega) (by omega))))
    clear hpr hpe hfin
    refine X.noNames ?_
    cases bt
    · skip
      refine X.goX ([(42, .tup [.bool (.lit false), .agg (DC.svsW ⟨g1, g2, gkp, gkn, gkc, gwp, gwn, gwc, goff, gfl, gfu⟩ (.osl 6 0 n1 2 none))])]) ([]) T46_ok 400 _ rfl Try.results46 (fun pr pe fin hpr hpe hfin => ?_)
      conv => cbv
      refine ⟨hpr _ (hburn (by simp)), rfl, hfin _ _ ?_⟩
      clear hpr hpe hfin
      refine X.recell 6 ⟨true, c1, none⟩ cs rfl (hlc.symm) (fun N _ j x x' h1 h2 v hv => hden j x x' h1 h2 N v hv) ?_
      refine X.done T46_ok rfl (fun N w' v hN hS hv => ?_)
      obtain ⟨q, hq⟩ : ∃ p, N[6]? = some p := ⟨_, List.getElem?_eq_getElem (by rw [hS.len]; show 6 < 8; omega)⟩
      refine hfinal (R := 6) hS rfl hq ?_
      simp only [resV, SV.den, SV.denL, SI.den, SB.den, DC.svsW, hq, Num.cap, Nat.add_zero, Nat.sub_zero, Option.some.injEq] at hv
      rw [← hv]
      rfl
    · skip
      refine X.goX ([(42, .tup [.bool (.lit true), .agg (DC.svsW ⟨g1, g2, gkp, gkn, gkc, gwp, gwn, gwc, goff, gfl, gfu⟩ (.osl 6 0 n1 2 none))])]) ([]) T46_ok 400 _ rfl Try.results46 (fun pr pe fin hpr hpe hfin => ?_)
      conv => cbv
      refine ⟨hpr _ (hburn (by simp)), rfl, hfin _ _ ?_⟩
      clear hpr hpe hfin
      refine X.recell 6 ⟨true, c1, none⟩ cs rfl (hlc.symm) (fun N _ j x x' h1 h2 v hv => hden j x x' h1 h2 N v hv) ?_
      refine X.done T46_ok rfl (fun N w' v hN hS hv => ?_)
      obtain ⟨q, hq⟩ : ∃ p, N[6]? = some p := ⟨_, List.getElem?_eq_getElem (by rw [hS.len]; show 6 < 8; omega)⟩
      refine hfinal (R := 6) hS rfl hq ?_
      simp only [resV, SV.den, SV.denL, SI.den, SB.den, DC.svsW, hq, Num.cap, Nat.add_zero, Nat.sub_zero, Option.some.injEq] at hv
      rw [← hv]
      rfl
end Go.Proofs.Ytkjhpaeminegoaa

namespace Go.Proofs.Ytkjhpaeminegoaa
open Go Go.Eng
theorem rd_burn_rows (r : RD) : r.burn.2.kept = r.kept ∧ r.burn.2.ws = r.ws ∧ r.burn.2.size = r.size := by
  unfold RD.burn RD.fall
  split
  · exact ⟨rfl, rfl, rfl⟩
  · split <;> exact ⟨rfl, rfl, rfl⟩
theorem slr_nil {M : Mem} {p : Option Addr} {c K : Nat} : SlR M p c K ([] : List (List Dt)) := ⟨⟨by simp, by simp⟩, .inl rfl⟩
set_option maxHeartbeats 8000000 in
set_option maxRecDepth 100000 in
set_option cbv.maxSteps 100000000 in
theorem rsync_ok (r : RD) (d : DC) (Mo : Mem) (w : World) (hMo : ∀ k o v, Mo k o = some v → w.cell? ⟨k, o, none⟩ = some v) (hd : RDC Mo r d) (hle : r.ws.length ≤ 1000) (hk0 : 0 < r.kept.length) (hk1 : r.kept.length ≤ 1000) (hwi : ∀ x ∈ r.ws, 0 ≤ x.1 ∧ x.1 < r.kept.length) :
    Calls Try.prog 47 #[.agg d.vals.toArray] w (RetCD r.sync.1 r.sync.2 Mo w) := by
  obtain ⟨c, hc⟩ : ∃ c, c = r.sync.1 := ⟨_, rfl⟩
  obtain ⟨r', hr'⟩ : ∃ c, c = r.sync.2 := ⟨_, rfl⟩
  rw [← hc, ← hr']
  obtain ⟨Q, hQ⟩ : ∃ Q : Ending → World → Prop, Q = RetCD c r' Mo w := ⟨_, rfl⟩
  rw [← hQ]
  have hof : d.off = r.off := hd.e.2.2.2.2.1
  obtain ⟨hb1, hb2⟩ := dc_burn hd
  obtain ⟨k1, k2, _⟩ := rd_burn_rows r
  have hcall := fun (w1 : World) => rburns_ok d w1
  obtain ⟨bt, hbt⟩ : ∃ b, b = d.burn.1 := ⟨_, rfl⟩
  obtain ⟨db, hdb⟩ : ∃ b, b = d.burn.2 := ⟨_, rfl⟩
  rw [← hbt] at hb1 hcall
  rw [← hdb] at hb2 hcall
  clear hbt hdb
  unfold RD.sync at hc hr'
  obtain ⟨d1, d2, kp, kn, kc, wp, wn, wc, off, fl, fu⟩ := d
  obtain ⟨g1, g2, gkp, gkn, gkc, gwp, gwn, gwc, goff, gfl, gfu⟩ := db
  simp only at hof
  refine X.begin (rg := []) (N := []) (ss := [.agg (DC.svs ⟨d1, d2, kp, kn, kc, wp, wn, wc, off, fl, fu⟩)]) Try.func47 rfl B47_ok rfl rfl Sat.std0 ?_
  obtain ⟨im, hime⟩ : ∃ im, im = elsewhere [] [] w := ⟨_, rfl⟩
  have hMi : ∀ k o v, Mo k o = some v → im k o = some v := fun k o v h => by rw [hime]; exact his (hMo _ _ _ h)
  show X (mkE Try.prog Try.f47 Q w (InR [] []) (elsewhere [] [] w) (fun _ _ => False) (fun _ => True) [] B47) _ _
  rw [← hime]
  refine X.go T47_ok 400 _ rfl Try.results47 ?_
  conv => arg 2; cbv
  refine X.cond rfl (fun h1 => ?_) (fun h1 => ?_)
  · simp only [SB.T] at h1
    subst h1
    rw [← hof, if_pos rfl] at hc hr'
    simp only at hc hr'
    subst hc
    refine X.go T47_ok 400 _ rfl Try.results47 ?_
    conv => arg 2; cbv
    refine X.done T47_ok rfl (fun N w' v hN hS hv => ?_)
    rw [hQ]
    refine ⟨⟨⟨d1, d2, kp, kn, kc, wp, wn, wc, true, fl, fu⟩, by rw [← (Option.some.inj hv : _ = v)]; rfl, fun M h1 _ => ?_⟩, hS.chg.none⟩
    rw [hr']; exact hd.mono h1
  simp only [SB.F] at h1
  subst h1
  rw [← hof, if_neg (by simp), ← hb1] at hc hr'
  cases bt
  · simp only [cond_false] at hc hr'
    subst hc
    refine X.goX ([(11, .tup [.bool (.lit false), .agg (DC.svs ⟨g1, g2, gkp, gkn, gkc, gwp, gwn, gwc, goff, gfl, gfu⟩)])]) ([]) T47_ok 400 _ rfl Try.results47 (fun pr pe fin hpr hpe hfin => ?_)
    conv => cbv
    refine ⟨hpr _ (.of Try.call66 [.agg _] (.tuple #[.bool false, .agg _]) (fun _ => rfl) (fun _ => rfl) fun _ w1 _ => hcall w1), hfin _ _ ?_⟩
    clear hpr hpe hfin
    refine X.call rfl rfl rfl rfl Try.call50 (fun N w1 args hN hS ha => ?_)
    obtain rfl : args = [.agg (DC.vals ⟨g1, g2, gkp, gkn, gkc, gwp, gwn, gwc, goff, gfl, gfu⟩).toArray, .slice gwp gwn gwc] := (Option.some.inj ha).symm
    have hws : r.burn.2.ws = r.ws := k2
    refine (settled_ok r.burn.2 ⟨g1, g2, gkp, gkn, gkc, gwp, gwn, gwc, goff, gfl, gfu⟩ r.ws gwp gwn gwc Mo Mo w1 (fun k o v h => hS.imm _ _ _ (hMi _ _ _ h)) (fun k o v h => hS.imm _ _ _ (hMi _ _ _ h)) hb2 (by rw [← hws]; exact hb2.wp) (by rw [← hws]; exact hb2.e.2.2.2.1) hle (by rw [k1]; exact hk0) (by rw [k1]; exact hk1) (by rw [k1]; exact hwi)).mono fun e w2 hR => ?_
    obtain ⟨⟨⟨s1, s2, skp, skn, skc, swp, swn, swc, soff, sfl, sfu⟩, he, hmem⟩, hch⟩ := hR
    refine ⟨_, he, Goes.newMem hN hS hch (r := .agg (DC.svs ⟨s1, s2, skp, skn, skc, swp, swn, swc, soff, sfl, sfu⟩)) rfl rfl (fun hold hnew => ?_)⟩
    have hmem' : ∀ M : Mem, (∀ k o v, Mo k o = some v → M k o = some v) → (∀ k o v, w.heap.size ≤ k → imNew im w1 w2 k o = some v → M k o = some v) → RDC M (r.burn.2.settle r.ws) ⟨s1, s2, skp, skn, skc, swp, swn, swc, soff, sfl, sfu⟩ := fun M h1 h2 =>
      hmem M h1 fun k o v hk h => h2 k o v (Nat.le_trans hS.chg.size hk) (hnew _ _ _ hk h)
    obtain ⟨im2, him2⟩ : ∃ im2, im2 = imNew im w1 w2 := ⟨_, rfl⟩
    show X (mkE Try.prog Try.f47 Q w (InR [] []) (imNew im w1 w2) (fun _ _ => False) (fun _ => True) [] B47) _ _
    rw [← him2] at hmem' ⊢
    clear him2 hold hnew hch he ha hS hN hmem
    refine X.go T47_ok 400 _ rfl Try.results47 ?_
    conv => arg 2; cbv
    refine X.done T47_ok rfl (fun N w' v hN hS hv => ?_)
    obtain ⟨q, hq⟩ : ∃ p, N[3]? = some p := ⟨_, List.getElem?_eq_getElem (by rw [hS.len]; show 3 < 4; omega)⟩
    simp only [resV, SV.den, SV.denL, SI.den, SB.den, hq, Num.cap, Nat.add_zero, Nat.sub_zero, Option.some.injEq] at hv
    rw [hQ]
    refine ⟨⟨⟨s1, s2, skp, skn, skc, some ⟨q.b, q.o, none⟩, 0, 0, soff, sfl, sfu⟩, congrArg Ending.returned hv.symm, fun M h1 h2 => ?_⟩, hS.chg.none⟩
    have hm := hmem' M h1 fun k o v hk h => h2 k o v hk (hS.imm _ _ _ h)
    obtain ⟨e1, e2, e3, e4, e5, e6, e7⟩ := hm.e
    rw [hr']
    exact ⟨⟨e1, e2, e3, rfl, e5, e6, e7⟩, hm.kp, slr_nil⟩
  · simp only [cond_true] at hc hr'
    subst hc
    refine X.goX ([(11, .tup [.bool (.lit true), .agg (DC.svs ⟨g1, g2, gkp, gkn, gkc, gwp, gwn, gwc, goff, gfl, gfu⟩)])]) ([]) T47_ok 400 _ rfl Try.results47 (fun pr pe fin hpr hpe hfin => ?_)
    conv => cbv
    refine ⟨hpr _ (.of Try.call66 [.agg _] (.tuple #[.bool true, .agg _]) (fun _ => rfl) (fun _ => rfl) fun _ w1 _ => hcall w1), rfl, hfin _ _ ?_⟩
    refine X.done T47_ok rfl (fun N w' v hN hS hv => ?_)
    rw [hQ]
    refine ⟨⟨⟨g1, g2, gkp, gkn, gkc, gwp, gwn, gwc, goff, gfl, gfu⟩, by rw [← (Option.some.inj hv : _ = v)]; rfl, fun M h1 _ => ?_⟩, hS.chg.none⟩
    rw [hr']; exact hb2.mono h1
end Go.Proofs.Ytkjhpaeminegoaa

namespace Go.Proofs.Ytkjhpaeminegoaa
open Go Go.Eng
theorem fresh_bytes (w : World) (e : TypeId) (s : ByteArray) (h0 : 0 < s.size) : FreshRet (bytesL (byteAt s) s.size) s.size 1 w (.returned (.slice (some ⟨w.heap.size, 0, none⟩) s.size (grownCap w s.size 0 e))) (Lib.bytesWorld w e s) := by
  have hge := grownCap_ge w s.size 0 e
  have hcs : (Lib.bytesCells w e s).size = grownCap w s.size 0 e := by
    unfold Lib.bytesCells
    have : s.data.size = s.size := rfl
    simp
    omega
  refine ⟨w.heap.size, 0, grownCap w s.size 0 e, by rw [Nat.div_one], Nat.le_refl _, by rw [bytesL_len]; exact hge, by omega, fun j c hj => ?_, fun j hj => ?_, ?_⟩
  · obtain ⟨hjl, rfl⟩ := bytesL_get _ _ _ _ hj
    refine ⟨.int .u8 (byteAt s j), rfl, ?_⟩
    rw [Nat.zero_add, Lib.bytesWorld_cell w e s j hjl]
    unfold byteAt
    have : s.data.size = s.size := rfl
    simp [List.getD]
  · have hn := Lib.bytesWorld_at_new w e s
    rw [Nat.zero_add]
    constructor
    · simp only [World.cell?, hn]
      simp
      omega
    · simp only [World.frozen?, hn]
      simp
      omega
  · refine ⟨?_, ?_, ?_, by rw [Lib.bytesWorld_size]; omega, fun k hk _ => Lib.bytesWorld_at_old w e s k hk, fun k c e' f hc => ⟨c, ?_, rfl, fun _ _ => rfl⟩⟩
    · simp [Lib.bytesWorld, World.freeze, World.alloc, World.drew, -World.alloc_eq, -World.drew_eq]
    · simp [Lib.bytesWorld, World.freeze, World.alloc, World.drew, -World.alloc_eq, -World.drew_eq]
    · simp [Lib.bytesWorld, World.freeze, World.alloc, World.drew, -World.alloc_eq, -World.drew_eq]
    · rw [Lib.bytesWorld_at_old w e s k (Array.getElem?_eq_some_iff.1 hc).1]; exact hc
theorem EffOk.strBytes {E : Env} {N0 : Nums} {rg : List Rg} {f : Fr} {src dst e : TypeId} {x : Operand} {s : ByteArray} (hx : ev f x = some (.raw (.string s))) (h0 : 0 < s.size) (hs : E.P.underlying src = some .string) (hd : E.P.underlying dst = some (.slice e)) (he : E.P.underlying e = some (.int .u8)) :
    EffOk E N0 rg f (.convert src dst x) (.osl rg.length 0 s.size 1 none) (rg ++ [⟨true, bytesL (byteAt s) s.size, none⟩]) := fun N ρ o w hN hop hf hS => by
  have h1 := hf _ _ hx
  simp only [SV.den, one?, if_true, Option.some.injEq] at h1
  obtain ⟨p, v, k1, k2, _, k3⟩ := (fresh_bytes w e s h0).sat hS
  refine .inl ⟨v, Lib.bytesWorld w e s, .inl ?_, N ++ [p], Nums.le_append _ _, k2, k3⟩
  have hr := Lib.run_convert_string_bytes (P := E.P) w src dst e s hs hd he
  have hv : v = .slice (some ⟨w.heap.size, 0, none⟩) s.size (grownCap w s.size 0 e) := (Ending.returned.inj k1).symm
  simp only [execOp, hop, ← h1, hr, Sem.run_bind, Result.andThen, Sem.run_pure, hv]
end Go.Proofs.Ytkjhpaeminegoaa

namespace Go.Proofs.Ytkjhpaeminegoaa
open Go Go.Eng
theorem vk_strO {E : Env} {N0 : Nums} {rg : List Rg} {f : Fr} {g : GK} {src e dst : TypeId} {x : Operand} {r n : Nat} {kc : Option Nat} {G : Nat → Int} {gg : Rg} {u : ByteArray} (hu : u = strG G n) (hx : evK f g x = some (.osl r 0 n 1 kc)) (hr : rg[r]? = some gg) (hgc : gg.cells = bytesL G n)
    (hs : E.P.underlying src = some (.slice e)) (he : E.P.underlying e = some (.int .u8)) (hd : E.P.underlying dst = some .string) : ValOk E N0 rg f g (.convert src dst x) (.raw (.string u)) := by
  subst hu
  intro ht N ρ o w hN0 hop hρ hV
  have h1 := hρ _ _ hx
  obtain ⟨p, hp⟩ : ∃ p, N[r]? = some p := ⟨_, List.getElem?_eq_getElem (Nat.lt_of_lt_of_le (List.getElem?_eq_some_iff.1 hr).1 hV.1.len)⟩
  simp only [SV.den, hp, Option.some.injEq] at h1
  refine ⟨.string (strG G n), by simp [SV.den, one?], fun w' hV' => ?_⟩
  have := run_convert_bytes_arg (P := E.P) (w := w') src e hs he p.b (p.o + 0) n (p.cap 0 1 kc) ((List.range n).map G) (by simp) (fun j hj => by
    obtain ⟨v, k1, k2⟩ := hV'.1.cell r gg p hr hp j (.int .u8 (.v (G j))) (by rw [hgc]; exact bytesL_at hj)
    cases k1
    rw [Nat.add_zero, k2]
    simp [List.getD, List.getElem?_map, List.getElem?_range hj, SI.den]) dst hd
  simp only [execOp, hop, ← h1, this, Sem.run_bind, Result.andThen, Sem.run_pure]
  rfl
theorem bytesL_put (g : Nat → Int) (n a : Nat) (v : Int) (ha : a < n) : setRow (bytesL g n) a [.int .u8 (.v v)] = bytesL (spoilF g a v) n := by
  have hl : (bytesL g n).length = n := bytesL_len g n
  rw [setRow_eq _ _ _ (by omega)]
  refine List.ext_getElem? fun j => ?_
  have e : (bytesL g n).take a ++ [SV.int .u8 (.v v)] ++ (bytesL g n).drop (a + [SV.int .u8 (.v v)].length) = (bytesL g n).set a (.int .u8 (.v v)) := by
    rw [List.set_eq_take_append_cons_drop, if_pos (by omega)]
    simp
  rw [e, List.getElem?_set, hl]
  by_cases hj : a = j
  · subst hj
    rw [if_pos rfl, if_pos ha, bytesL_at ha]
    simp [spoilF]
  · rw [if_neg hj]
    by_cases hjn : j < n
    · rw [bytesL_at hjn, bytesL_at hjn]
      simp [spoilF, Ne.symm hj]
    · rw [List.getElem?_eq_none (by rw [bytesL_len]; omega), List.getElem?_eq_none (by rw [bytesL_len]; omega)]
set_option maxHeartbeats 8000000 in
set_option maxRecDepth 100000 in
set_option cbv.maxSteps 100000000 in
theorem rspoil_ok (r : RD) (d : DC) (i at' by' : Int) (Mo : Mem) (w : World) (hMo : ∀ k o v, Mo k o = some v → w.cell? ⟨k, o, none⟩ = some v) (hd : RDC Mo r d) (hk0 : 0 < r.kept.length) (hk1 : r.kept.length ≤ 1000) (hct : r.count = r.kept.length) (hsz : ∀ s ∈ r.kept, s.size = r.size) (hz : 0 < r.size ∧ r.size ≤ 1000) :
    Calls Try.prog 48 #[.agg d.vals.toArray, .int .i64 i, .int .i64 at', .int .u8 by'] w (RetCD (r.spoil i at' by').1 (r.spoil i at' by').2 Mo w) := by
  obtain ⟨c, hc⟩ : ∃ c, c = (r.spoil i at' by').1 := ⟨_, rfl⟩
  obtain ⟨r', hr'⟩ : ∃ c, c = (r.spoil i at' by').2 := ⟨_, rfl⟩
  rw [← hc, ← hr']
  obtain ⟨Q, hQ⟩ : ∃ Q : Ending → World → Prop, Q = RetCD c r' Mo w := ⟨_, rfl⟩
  rw [← hQ]
  obtain ⟨e1, e2, e3, e4, e5, e6, e7⟩ := hd.e
  unfold RD.spoil at hc hr'
  obtain ⟨hkc, b0, y0, hp0, hm0⟩ := str_row hd.kp hk0
  obtain ⟨d1, d2, kp, kn, kc, wp, wn, wc, off, fl, fu⟩ := d
  simp only at e1 e2 e3 e4 e5 e6 e7 hp0 hkc
  refine X.begin (rg := []) (N := []) (ss := [.agg (DC.svs ⟨d1, d2, kp, kn, kc, wp, wn, wc, off, fl, fu⟩), .int .i64 (.v i), .int .i64 (.v at'), .int .u8 (.v by')]) Try.func48 rfl B48_ok rfl rfl Sat.std0 ?_
  obtain ⟨im, hime⟩ : ∃ im, im = elsewhere [] [] w := ⟨_, rfl⟩
  have hMi : ∀ k o v, Mo k o = some v → im k o = some v := fun k o v h => by rw [hime]; exact his (hMo _ _ _ h)
  show X (mkE Try.prog Try.f48 Q w (InR [] []) (elsewhere [] [] w) (fun _ _ => False) (fun _ => True) [] B48) _ _
  rw [← hime]
  refine X.go T48_ok 400 _ rfl Try.results48 ?_
  conv => arg 2; cbv
  refine X.cond rfl (fun h1 => ?_) (fun h1 => ?_)
  · simp only [SB.T, SB.F, SI.den] at h1
    rw [if_pos (by omega)] at hc hr'
    simp only at hc hr'
    subst hc
    refine X.go T48_ok 400 _ rfl Try.results48 ?_
    conv => arg 2; cbv
    refine X.done T48_ok rfl (fun N w' v hN hS hv => ?_)
    rw [hQ]
    refine ⟨⟨⟨d1, d2, kp, kn, kc, wp, wn, wc, off, fl, fu⟩, by rw [← (Option.some.inj hv : _ = v)]; rfl, fun M h1 _ => ?_⟩, hS.chg.none⟩
    rw [hr']; exact hd.mono h1
  simp only [SB.T, SB.F, SI.den] at h1
  rw [if_neg (by omega)] at hc hr'
  simp only at hc hr'
  subst hc
  obtain ⟨z, hzi⟩ : ∃ z : Nat, i = z := ⟨i.toNat, by omega⟩
  obtain ⟨a, hza⟩ : ∃ z : Nat, at' = z := ⟨at'.toNat, by omega⟩
  have hzt : i.toNat = z := by omega
  have hat : at'.toNat = a := by omega
  obtain ⟨s0, hs0⟩ : ∃ s, r.kept[z]? = some s := ⟨_, List.getElem?_eq_getElem (by omega)⟩
  have hs0z := hsz s0 (List.mem_of_getElem? hs0)
  rw [hzt, hat, hs0] at hr'
  simp only [Option.getD_some] at hr'
  have hmz := hMi _ _ _ (hm0 z s0 hs0)
  have hzk : z < kn := by omega
  obtain ⟨n, hn⟩ : ∃ n, n = r.size := ⟨_, rfl⟩
  have han : a < n := by omega
  obtain ⟨x, hx⟩ : ∃ x, x = xorB (byteAt s0 a) by' := ⟨_, rfl⟩
  obtain ⟨u, hu⟩ : ∃ u, u = strG (spoilF (byteAt s0) a x) n := ⟨_, rfl⟩
  rw [← hx, ← hn, ← hu] at hr'
  obtain ⟨b1, hb1⟩ : ∃ b, b = bytesL (byteAt s0) n := ⟨_, rfl⟩
  obtain ⟨b2, hb2⟩ : ∃ b, b = bytesL (spoilF (byteAt s0) a x) n := ⟨_, rfl⟩
  have hb1l : b1.length = n := by rw [hb1, bytesL_len]
  obtain ⟨v0, hv0⟩ : ∃ v, v = byteAt s0 a := ⟨_, rfl⟩
  rw [← hv0] at hx
  refine X.see b0 (y0 + z * 1) [.raw (.string s0)] (one_see (by rw [Nat.mul_one]; exact hmz)) Nat.zero_lt_one (fun N1 hN1 hNl1 => ?_)
  have hg1 : (N1 ++ [(⟨b0, y0 + z * 1, 0⟩ : Num)])[2]? = some ⟨b0, y0 + z * 1, 0⟩ := num_last hNl1
  refine X.goX ([(33, .own 2 0), (40, .own 3 a), (41, .int .u8 (.v v0)), (43, .int .u8 (.v x)), (44, .own 3 a), (48, .raw (.string u))]) ([(35, ⟨fun rg => .osl rg.length 0 n 1 none, [], [⟨true, b1, none⟩]⟩), (1009, ⟨fun _ => .tup [], [(3, ⟨true, b2, none⟩)], []⟩)]) T48_ok 400 _ rfl Try.results48 (fun pr pe fin hpr hpe hfin => ?_)
  conv => cbv
  refine ⟨hpr _ (ValOk.row rfl rfl (fun _ => hzi) Try.underlying40 Try.sizeOf9 hzk hp0 hg1 rfl rfl), hpe _ _ _ _ _ ?_, hpr _ (vk_osl (z := a) rfl (.inr (.inr ⟨none, rfl⟩)) rfl (fun _ => hza) Try.underlying30 Try.sizeOf5 (fun _ => han) (Nat.mul_one _).symm (by simp)), hpr _ (vk_load1 (gg := ⟨true, b1, none⟩) rfl Try.isAgg5 rfl (by show b1[a]? = _; rw [hb1, bytesL_at han, hv0])), hpr _ (vk_bin rfl rfl rfl fun _ N v hv => ?_), hpr _ (vk_osl (z := a) rfl (.inr (.inr ⟨none, rfl⟩)) rfl (fun _ => hza) Try.underlying30 Try.sizeOf5 (fun _ => han) (Nat.mul_one _).symm (by simp)), hpe _ _ _ _ _ ?_, hpr _ (vk_strO hu rfl rfl hb2 Try.underlying30 Try.underlying5 Try.underlying9), hfin _ _ ?_⟩
  · have h : ∀ {rg : List Rg} {f : Fr}, ev f (.tmp 34) = some (.raw (.string s0)) → EffOk (mkE Try.prog Try.f48 Q w (InR [] []) im (fun _ _ => False) (fun _ => True) (N1 ++ [(⟨b0, y0 + z * 1, 0⟩ : Num)]) B48).toEnv (N1 ++ [(⟨b0, y0 + z * 1, 0⟩ : Num)]) rg f (.convert 9 30 (.tmp 34)) (.osl rg.length 0 n 1 none) (rg ++ [⟨true, b1, none⟩]) := fun hx => by
      rw [hb1, show n = s0.size by omega]
      exact EffOk.strBytes hx (by omega) Try.underlying9 Try.underlying30 Try.underlying5
    exact h rfl
  · rw [← hv, hx]
    rfl
  · refine EffOk.step T48_ok ?_
    rw [stepE_store (v := .int .u8 (.v x)) (g := ⟨true, b1, none⟩) (ti := ti5) rfl rfl rfl rfl rfl rfl (by show a + 1 ≤ b1.length; omega) rfl]
    rw [hb2, ← bytesL_put _ _ _ _ han, ← hb1]
    rfl
  clear hpr hpe hfin
  refine X.noNames ?_
  refine X.call rfl rfl rfl rfl Try.call50 (fun N w1 args hN hS ha => ?_)
  obtain ⟨q, hq⟩ : ∃ p, N[4]? = some p := ⟨_, List.getElem?_eq_getElem (by rw [hS.len]; show 4 < 5; omega)⟩
  have ha : args = [.agg (DC.vals ⟨d1, d2, kp, kn, kc, wp, wn, wc, off, fl, fu⟩).toArray, .slice (some ⟨q.b, q.o, none⟩) 1 1] := by
    simp only [DC.svs, SV.denL, SV.den, SI.den, SB.den, hq, Num.cap, Nat.add_zero, Nat.sub_zero, Option.some.injEq] at ha
    exact ha.symm
  rw [ha]
  have hsl : SlR (fun k o => w1.cell? ⟨k, o, none⟩) (some ⟨q.b, q.o, none⟩) 1 2 ([(i, u)].map wD) := by
    refine ⟨⟨by simp, by have := maxLen_le; simp; omega⟩, .inr ⟨q.b, q.o, rfl, fun t dd ht => ?_⟩⟩
    match t, ht with
    | 0, ht =>
      cases ht
      refine ⟨[.int .i64 i, .string u], by simp [wD, RepL, RepC], fun j v hj => ?_⟩
      match j, hj with
      | 0, hj =>
        cases hj
        obtain ⟨v, h1, h2⟩ := hS.cell 4 _ q rfl hq 0 (.int .i64 (.v i)) rfl
        cases h1; simpa [SI.den] using h2
      | 1, hj =>
        cases hj
        obtain ⟨v, h1, h2⟩ := hS.cell 4 _ q rfl hq 1 (.raw (.string u)) rfl
        simp only [SV.den, one?, if_true, Option.some.injEq] at h1
        subst h1; simpa [SI.den] using h2
      | j + 2, hj => simp at hj
    | t + 1, ht => simp at ht
  refine (settled_ok r ⟨d1, d2, kp, kn, kc, wp, wn, wc, off, fl, fu⟩ [(i, u)] (some ⟨q.b, q.o, none⟩) 1 1 Mo (fun k o => w1.cell? ⟨k, o, none⟩) w1 (fun k o v h => hS.imm _ _ _ (hMi _ _ _ h)) (fun _ _ _ h => h) hd hsl rfl (by simp) hk0 hk1 (fun y hy => by simp only [List.mem_singleton] at hy; subst hy; simp only; omega)).mono fun e w2 hR => ?_
  obtain ⟨⟨⟨s1, s2, skp, skn, skc, swp, swn, swc, soff, sfl, sfu⟩, he, hmem⟩, hch⟩ := hR
  refine ⟨_, he, Goes.newMem hN hS hch (r := .agg (DC.svs ⟨s1, s2, skp, skn, skc, swp, swn, swc, soff, sfl, sfu⟩)) rfl rfl (fun hold hnew => ?_)⟩
  have hmem' : ∀ M : Mem, (∀ k o v, Mo k o = some v → M k o = some v) → (∀ k o v, w.heap.size ≤ k → imNew im w1 w2 k o = some v → M k o = some v) → RDC M (r.settle [(i, u)]) ⟨s1, s2, skp, skn, skc, swp, swn, swc, soff, sfl, sfu⟩ := fun M h1 h2 =>
    hmem M h1 fun k o v hk h => h2 k o v (Nat.le_trans hS.chg.size hk) (hnew _ _ _ hk h)
  obtain ⟨im2, him2⟩ : ∃ im2, im2 = imNew im w1 w2 := ⟨_, rfl⟩
  show X (mkE Try.prog Try.f48 Q w (InR [] []) (imNew im w1 w2) (fun _ _ => False) (fun _ => True) [] B48) _ _
  rw [← him2] at hmem' ⊢
  clear him2 hold hnew hch he ha hS hN hmem hsl
  refine X.go T48_ok 400 _ rfl Try.results48 ?_
  conv => arg 2; cbv
  refine X.done T48_ok rfl (fun N w' v hN hS hv => ?_)
  rw [hQ]
  refine ⟨⟨⟨s1, s2, skp, skn, skc, swp, swn, swc, soff, sfl, sfu⟩, by rw [← (Option.some.inj hv : _ = v)]; rfl, fun M h1 h2 => ?_⟩, hS.chg.none⟩
  rw [hr']
  exact hmem' M h1 fun k o v hk h => h2 k o v hk (hS.imm _ _ _ h)
end Go.Proofs.Ytkjhpaeminegoaa

namespace Go.Eng
open Go
theorem vk_slvHi {E : Env} {N0 : Nums} {rg : List Rg} {f : Fr} {g : GK} {t e : TypeId} {x hi : Operand} {p : Option Addr} {n cp z q : Nat} {kd : IntKind} {s : SI} (hx : evK f g x = some (.slv p n cp)) (hhi : evK f g hi = some (.int kd s)) (hz : g.T → s.den = (z : Int)) (hu : E.P.underlying t = some (.slice e)) (hq : ∀ w, (sizeOf e).run E.P w = .ok q w)
    (h1 : g.T → z ≤ n) (h2 : n ≤ cp) : ValOk E N0 rg f g (.slice t x none (some hi) none) (.slv p z cp) := by
  intro ht N ρ op w hN0 hop hρ hV
  have e1 := hρ _ _ hx
  have e2 := hρ _ _ hhi
  have h1 := h1 ht
  simp only [SV.den, Option.some.injEq] at e1 e2
  refine ⟨.slice p z cp, rfl, fun w' _ => ?_⟩
  have hb := run_sliceBounds (P := E.P) (w := w') (ρ' := ρ) (b := true) (len := n) (cap := cp) (lo := none) (hi := some hi) (mx := none) (l := none) (h := some z) (m := none) (.inl ⟨rfl, rfl⟩) (.inr ⟨kd, z, by simp [← e2, hz ht], rfl⟩) (.inl ⟨rfl, rfl⟩)
    (by simp) (by simp; omega) (by simp) (by simp)
  simp only [Option.map_none, Option.map_some, Option.getD_none, Option.getD_some] at hb
  cases p with
  | none => simp [execOp, hop, ← e1, Instr.sliceAt, run_underlying hu, Result.andThen, Instr.slice, hb, hq]
  | some a =>
    simp [execOp, hop, ← e1, Instr.sliceAt, run_underlying hu, Result.andThen, Instr.slice, hb, hq]
    exact fun _ => by cases a; rfl
def envP (P : Program) (w : World) : Env := ⟨P, 0, fun _ _ _ => True, w, fun _ _ => True, fun _ _ => none, fun _ _ => False, fun _ => True⟩
theorem good_of {P : Program} {n : Nat} {ops : Array Oper} {N0 : Nums} {j d : Nat} {r : SV} {pre : Fr → Prop} {op : Op} (hop : ∀ o, nth ops.toList j = some o → o.op = op)
    (h : ∀ f : Fr, pre f → ∀ w, ValOk (envP P w) N0 [] f .yes op r) : ValS.good P n ops N0 ⟨j, d, r, pre⟩ := by
  intro f hp N a o w hN ho hfr
  obtain ⟨v, h1, h2⟩ := h f hp w trivial N a.eval o w hN (hop o ho) (fun x s hx => ev_sound hfr hx) ⟨⟨Nat.zero_le _, fun r g p hg => by simp at hg, fun r g p hg => by simp at hg⟩, fun k o v h => by cases h⟩
  exact ⟨v, h1, fun w' => h2 w' ⟨⟨Nat.zero_le _, fun r g p hg => by simp at hg, fun r g p hg => by simp at hg⟩, fun k o v h => by cases h⟩⟩
theorem SlR.take {M : Mem} {p : Option Addr} {c K : Nat} {l : List (List Dt)} (h : SlR M p c K l) (n : Nat) : SlR M p c K (l.take n) := by
  obtain ⟨⟨h1, h2⟩, h3⟩ := h
  have hl : (l.take n).length ≤ l.length := by rw [List.length_take]; omega
  refine ⟨⟨by omega, by omega⟩, ?_⟩
  rcases h3 with rfl | ⟨b, y, hp, h⟩
  · exact .inl (by simp)
  · refine .inr ⟨b, y, hp, fun i d hd => h i d ?_⟩
    rw [List.getElem?_take] at hd
    split at hd
    · exact hd
    · cases hd
end Go.Eng
namespace Go.Proofs.Ytkjhpaeminegoaa
open Go Go.Eng
theorem settleL_len : ∀ (ws : List (Int × ByteArray)) (k : List ByteArray), (settleL k ws).length = k.length
  | [], _ => rfl
  | x :: ws, k => by
    show (settleL (k.set x.1.toNat x.2) ws).length = _
    rw [settleL_len ws, List.length_set]
theorem settleL_all {p : ByteArray → Prop} : ∀ {ws : List (Int × ByteArray)} {k : List ByteArray}, (∀ s ∈ k, p s) → (∀ x ∈ ws, p x.2) → ∀ s ∈ settleL k ws, p s
  | [], _, h, _ => h
  | x :: ws, k, h, hw => settleL_all (ws := ws) (k := k.set x.1.toNat x.2) (fun s hs => by
      rcases List.mem_or_eq_of_mem_set hs with h1 | h1
      · exact h s h1
      · rw [h1]; exact hw x List.mem_cons_self) (fun y hy => hw y (List.mem_cons_of_mem _ hy))
theorem RDC.fall {M : Mem} {r : RD} {d : DC} (h : RDC M r d) : RDC M r.fall d.fall := by
  obtain ⟨⟨e1, e2, e3, e4, e5, e6, e7⟩, h1, h2⟩ := h
  exact ⟨⟨e1, e2, e3, e4, rfl, by simp only [DC.fall, RD.fall, e5, e6], e7⟩, h1, h2⟩
set_option maxHeartbeats 8000000 in
set_option maxRecDepth 100000 in
set_option cbv.maxSteps 100000000 in
theorem rback_ok (r : RD) (d : DC) (keep : Int) (torn : Bool) (Mo : Mem) (w : World) (hMo : ∀ k o v, Mo k o = some v → w.cell? ⟨k, o, none⟩ = some v) (hd : RDC Mo r d) (hle : r.ws.length ≤ 1000) (hk0 : 0 < r.kept.length) (hk1 : r.kept.length ≤ 1000) (hwi : ∀ x ∈ r.ws, 0 ≤ x.1 ∧ x.1 < r.kept.length) (hsz : ∀ s ∈ r.kept, s.size = r.size) (hszw : ∀ x ∈ r.ws, x.2.size = r.size) (hz : 0 < r.size ∧ r.size ≤ 1000) :
    Calls Try.prog 24 #[.agg d.vals.toArray, .int .i64 keep, .bool torn] w (RetD (r.back keep torn) Mo w) := by
  obtain ⟨r', hr'⟩ : ∃ c, c = r.back keep torn := ⟨_, rfl⟩
  rw [← hr']
  obtain ⟨Q, hQ⟩ : ∃ Q : Ending → World → Prop, Q = RetD r' Mo w := ⟨_, rfl⟩
  rw [← hQ]
  have hcall := fun (w1 : World) => rfalls_ok d w1
  have hdf := hd.fall
  obtain ⟨df, hdfe⟩ : ∃ b, b = d.fall := ⟨_, rfl⟩
  rw [← hdfe] at hcall hdf
  have hdw : df.wp = d.wp ∧ df.wn = d.wn ∧ df.wc = d.wc := by rw [hdfe]; exact ⟨rfl, rfl, rfl⟩
  clear hdfe
  unfold RD.back at hr'
  obtain ⟨z, hze⟩ : ∃ z, z = keepN keep r.ws.length := ⟨_, rfl⟩
  rw [← hze] at hr'
  have hzl : z ≤ r.ws.length := by rw [hze]; exact keepN_le _ _
  have hwn : df.wn = r.ws.length := hdf.e.2.2.2.1
  have hwsl := hdf.wp
  have hzk : ((min (max keep 0) (df.wn : Int)) : Int) = z := by rw [hwn, hze]; unfold keepN; omega
  have hcp : df.wn ≤ df.wc := by rw [hwn]; have := hwsl.1.1; simpa [RD.fall] using this
  obtain ⟨g1, g2, gkp, gkn, gkc, gwp, gwn, gwc, goff, gfl, gfu⟩ := df
  obtain ⟨d1, d2, kp, kn, kc, wp, wn, wc, off, fl, fu⟩ := d
  simp only at hwn hzk hcp hwsl
  refine X.begin (rg := []) (N := []) (ss := [.agg (DC.svs ⟨d1, d2, kp, kn, kc, wp, wn, wc, off, fl, fu⟩), .int .i64 (.v keep), .bool (.v torn)]) Try.func24 rfl B24_ok rfl rfl Sat.std0 ?_
  obtain ⟨im, hime⟩ : ∃ im, im = elsewhere [] [] w := ⟨_, rfl⟩
  have hMi : ∀ k o v, Mo k o = some v → im k o = some v := fun k o v h => by rw [hime]; exact his (hMo _ _ _ h)
  show X (mkE Try.prog Try.f24 Q w (InR [] []) (elsewhere [] [] w) (fun _ _ => False) (fun _ => True) [] B24) _ _
  rw [← hime]
  refine X.goX ([(11, .agg (DC.svs ⟨g1, g2, gkp, gkn, gkc, gwp, gwn, gwc, goff, gfl, gfu⟩)), (21, .slv gwp z gwc)]) ([]) T24_ok 400 _ rfl Try.results24 (fun pr pe fin hpr hpe hfin => ?_)
  conv => cbv
  refine ⟨hpr _ (.of Try.call49 [.agg _] (.agg _) (fun _ => rfl) (fun _ => rfl) fun _ w1 _ => hcall w1), hpr _ (vk_slvHi (z := z) rfl rfl (fun _ => ?_) Try.underlying41 Try.sizeOf103 (fun _ => by omega) hcp), hfin _ _ ?_⟩
  · simp only [SI.den]
    omega
  clear hpr hpe hfin
  refine X.cond rfl (fun h1 => ?_) (fun h1 => ?_)
  · obtain ⟨rfl, h0⟩ : torn = true ∧ 0 < z := by
      simp only [SB.T, SI.den] at h1
      refine ⟨h1.1, ?_⟩
      have := h1.2
      omega
    obtain ⟨y, hzy⟩ : ∃ y, z = y + 1 := ⟨z - 1, by omega⟩
    have hzy' : z - 1 = y := by omega
    obtain ⟨x, hx⟩ : ∃ x, r.ws[y]? = some x := ⟨_, List.getElem?_eq_getElem (by omega)⟩
    rw [hzy', hx, show (true && Nat.blt 0 z) = true by simp; exact h0] at hr'
    simp only [cond_true] at hr'
    clear h1
    have hxi := hwi x (List.mem_of_getElem? hx)
    have hxs := hszw x (List.mem_of_getElem? hx)
    refine X.reval 7 (.int .i64 (.nat z)) (v := .int .i64 (((SI.v keep).mx (SI.lit 0)).mn (SI.nat gwn))) rfl (fun N hN v hv => ?_) ?_
    · rw [← hv]
      have e : (((SI.v keep).mx (SI.lit 0)).mn (SI.nat gwn)).den = (z : Int) := by simp only [SI.den]; omega
      simp only [SV.den, e]
      rfl
    refine X.less [3, 6, 7, 8] ?_
    show X (mkE Try.prog Try.f24 Q w (InR [] []) im (fun _ _ => False) (fun _ => True) [] B24) _ _
    refine X.go T24_ok 1 _ rfl Try.results24 ?_
    conv => arg 2; cbv
    refine X.drawnL (fn := Try.f24) T24_ok noCall (valO 69 _ [⟨4, 31, .slv gwp y gwc, fun f => ev f (.tmp 28) = some (.slv gwp z gwc) ∧ ∃ kd e, ev f (.tmp 30) = some (.int kd e) ∧ e.den = (y : Int)⟩]) 5 [6] 5 rfl (by kernel_rfl) rfl noCall_ok (valO_ok _ (by kernel_rfl) (fun q hq => ?_)) 69 rfl ?_
    · simp only [List.mem_cons, List.not_mem_nil, or_false] at hq
      subst hq
      exact good_of (op := .slice 41 (.tmp 28) none (some (.tmp 30)) none) (fun o ho => by cases ho; rfl) fun f ⟨h1, kd, e, h2, h3⟩ w => vk_slvHi (E := envP Try.prog w) (f := f) (g := .yes) h1 h2 (fun _ => h3) Try.underlying41 Try.sizeOf103 (fun _ => by omega) (by omega)
    generalize hfin : (fun s' => X (mkE Try.prog Try.f24 Q w (InR [] []) im (fun _ _ => False) (fun _ => True) [] B24) _ s') = fin
    conv => cbv
    refine ⟨⟨_, _, rfl, ?_⟩, ?_⟩
    · show IntKind.i64.wrap ((z : Int) - 1) = y
      rw [wrapN _ (by omega) (by omega)]
      omega
    subst hfin
    have hws2 := hwsl
    obtain ⟨_, hb | ⟨bw, yw, hpw, hrow⟩⟩ := hws2
    · have := congrArg List.length hb
      rw [List.length_map] at this
      change r.ws.length = 0 at this
      omega
    obtain ⟨vs, hvs, hcel⟩ := hrow y (wD x) (by rw [List.getElem?_map]; show (r.ws[y]?).map wD = _; rw [hx]; rfl)
    obtain rfl := wD.open hvs
    show X (mkE Try.prog Try.f24 Q w (InR [] []) im (fun _ _ => False) (fun _ => True) [] B24) _ _
    refine X.call rfl rfl rfl rfl Try.call50 (fun N w1 args hN hS ha => ?_)
    obtain rfl : args = [.agg (DC.vals ⟨g1, g2, gkp, gkn, gkc, gwp, gwn, gwc, goff, gfl, gfu⟩).toArray, .slice gwp y gwc] := (Option.some.inj ha).symm
    refine (settled_ok r.fall ⟨g1, g2, gkp, gkn, gkc, gwp, gwn, gwc, goff, gfl, gfu⟩ (r.ws.take y) gwp y gwc Mo Mo w1 (fun k o v h => hS.imm _ _ _ (hMi _ _ _ h)) (fun k o v h => hS.imm _ _ _ (hMi _ _ _ h)) hdf (by rw [List.map_take]; exact hwsl.take y) (by rw [List.length_take]; omega) (by rw [List.length_take]; omega) hk0 hk1 (fun y hy => hwi y (List.mem_of_mem_take hy))).mono fun e w2 hR => ?_
    obtain ⟨⟨⟨s1, s2, skp, skn, skc, swp, swn, swc, soff, sfl, sfu⟩, he, hmem⟩, hch⟩ := hR
    refine ⟨_, he, Goes.newMem hN hS hch (r := .agg (DC.svs ⟨s1, s2, skp, skn, skc, swp, swn, swc, soff, sfl, sfu⟩)) rfl rfl (fun hold hnew => ?_)⟩
    have hmem' : ∀ M : Mem, (∀ k o v, Mo k o = some v → M k o = some v) → (∀ k o v, w.heap.size ≤ k → imNew im w1 w2 k o = some v → M k o = some v) → RDC M (r.fall.settle (r.ws.take y)) ⟨s1, s2, skp, skn, skc, swp, swn, swc, soff, sfl, sfu⟩ := fun M h1 h2 =>
      hmem M h1 fun k o v hk h => h2 k o v (Nat.le_trans hS.chg.size hk) (hnew _ _ _ hk h)
    obtain ⟨im2, him2⟩ : ∃ im2, im2 = imNew im w1 w2 := ⟨_, rfl⟩
    show X (mkE Try.prog Try.f24 Q w (InR [] []) (imNew im w1 w2) (fun _ _ => False) (fun _ => True) [] B24) _ _
    rw [← him2] at hmem' hold ⊢
    have hMi2 : ∀ k o v, Mo k o = some v → im2 k o = some v := fun k o v h => hold _ _ _ (hMi _ _ _ h)
    have hsd := hmem' im2 hMi2 fun k o v _ h => h
    clear him2 hold hnew hch he ha hS hN hmem
    obtain ⟨rs, hrs⟩ : ∃ q, q = r.fall.settle (r.ws.take y) := ⟨_, rfl⟩
    rw [← hrs] at hmem' hsd
    have hrk : rs.kept = settleL r.kept (r.ws.take y) := by rw [hrs]; rfl
    have hrl : rs.kept.length = r.kept.length := by rw [hrk]; exact settleL_len _ _
    have hrz : rs.size = r.size := by rw [hrs]; rfl
    obtain ⟨i, hi⟩ : ∃ i : Nat, x.1 = i := ⟨x.1.toNat, by omega⟩
    obtain ⟨hkc, b0, y0, hp0, hm0⟩ := str_row hsd.kp (by omega)
    have e1 : s1 = r.size := by rw [← hrz]; exact hsd.e.1
    have e3 : skn = r.kept.length := by rw [← hrl]; exact hsd.e.2.2.1
    obtain ⟨u, hu⟩ : ∃ s, rs.kept[i]? = some s := ⟨_, List.getElem?_eq_getElem (by omega)⟩
    have hus : u.size = r.size := by
      rw [hrk] at hu
      exact settleL_all (fun s hs => hsz s hs) (fun y hy => hszw y (List.mem_of_mem_take hy)) u (List.mem_of_getElem? hu)
    refine X.see bw (yw + y * 2) [.int .i64 (.v x.1), .raw (.string x.2)] (fun j c hj => ?_) (by show 0 < 2; omega) (fun N1 hN1 hNl1 => ?_)
    · match j, hj with
      | 0, hj => cases hj; exact ⟨_, rfl, hMi2 _ _ _ (hcel 0 _ rfl)⟩
      | 1, hj => cases hj; exact ⟨.string x.2, by simp [SV.den, one?], hMi2 _ _ _ (hcel 1 _ rfl)⟩
      | j + 2, hj => simp at hj
    have hg1 : (N1 ++ [(⟨bw, yw + y * 2, 0⟩ : Num)])[2]? = some ⟨bw, yw + y * 2, 0⟩ := num_last hNl1
    refine X.see b0 (y0 + i) [.raw (.string u)] (one_see (by exact hm0 i u hu)) Nat.zero_lt_one (fun N2 hN2 hNl2 => ?_)
    have hg2 : (N2 ++ [(⟨b0, y0 + i, 0⟩ : Num)])[3]? = some ⟨b0, y0 + i, 0⟩ := num_last hNl2
    have hg1' : (N2 ++ [(⟨b0, y0 + i, 0⟩ : Num)])[2]? = some ⟨bw, yw + y * 2, 0⟩ := num_old (hN2 _ _ hg1)
    show X (mkE Try.prog Try.f24 Q w (InR [] []) im2 (fun _ _ => False) (fun _ => True) (N2 ++ [(⟨b0, y0 + i, 0⟩ : Num)]) B24) _ _
    refine X.goX ([(36, .own 2 0)]) ([]) T24_ok 12 _ rfl Try.results24 (fun pr pe fin hpr hpe hfin => ?_)
    conv => cbv
    refine ⟨hpr _ (ValOk.row (z := y) rfl rfl (fun _ => by simp (disch := omega) only [SI.den, wrapN]; omega) Try.underlying41 Try.sizeOf103 (by omega) hpw hg1' rfl rfl), hfin _ _ ?_⟩
    clear hpr hpe hfin
    obtain ⟨hf, hhf⟩ : ∃ q, q = r.size / 2 := ⟨_, rfl⟩
    obtain ⟨a1, ha1⟩ : ∃ q, q = x.2.extract 0 hf := ⟨_, rfl⟩
    obtain ⟨a2, ha2⟩ : ∃ q, q = u.extract hf u.size := ⟨_, rfl⟩
    obtain ⟨tt, htt⟩ : ∃ q, q = a1 ++ a2 := ⟨_, rfl⟩
    have hzl1 : a1.size ≤ 1000 := by rw [ha1, ByteArray.size_extract]; omega
    have hzl2 : a2.size ≤ 1000 := by rw [ha2, ByteArray.size_extract]; omega
    have htl : tt = tearB r.size x.2 u := by rw [htt, ha1, ha2, hhf]; rfl
    refine X.drawnL (fn := Try.f24) T24_ok noCall (valO 69 _ [⟨8, 46, .raw (.string a1), fun f => ev f (.tmp 42) = some (.raw (.string x.2)) ∧ ∃ kd e, ev f (.tmp 45) = some (.int kd e) ∧ e.den = (hf : Int)⟩,
      ⟨13, 51, .own 3 0, fun f => ev f (.tmp 48) = some (.slv skp skn skc) ∧ ∃ kd e, ev f (.tmp 50) = some (.int kd e) ∧ e.den = (i : Int)⟩,
      ⟨18, 56, .raw (.string a2), fun f => ev f (.tmp 52) = some (.raw (.string u)) ∧ ∃ kd e, ev f (.tmp 55) = some (.int kd e) ∧ e.den = (hf : Int)⟩,
      ⟨19, 57, .raw (.string tt), fun f => ev f (.tmp 46) = some (.raw (.string a1)) ∧ ev f (.tmp 56) = some (.raw (.string a2))⟩]) 22 [23] 22 rfl (by kernel_rfl) rfl noCall_ok (valO_ok _ (by kernel_rfl) (fun q hq => ?_)) 69 rfl ?_
    · simp only [List.mem_cons, List.not_mem_nil, or_false] at hq
      rcases hq with rfl | rfl | rfl | rfl
      · exact good_of (op := .slice 9 (.tmp 42) none (some (.tmp 45)) none) (fun o ho => by cases ho; rfl) fun f ⟨h1, kd, e, h2, h3⟩ w => by
          rw [ha1]
          exact vk_strSl (E := envP Try.prog w) (f := f) (g := .yes) (zl := none) (zh := some hf) h1 trivial ⟨kd, e, h2, fun _ => h3⟩ Try.underlying9 (Nat.zero_le _) (by show hf ≤ x.2.size; omega)
      · exact good_of (op := .indexAddr 40 (.tmp 48) (.tmp 50)) (fun o ho => by cases ho; rfl) fun f ⟨h1, kd, e, h2, h3⟩ w =>
          ValOk.row (E := envP Try.prog w) (f := f) (g := .yes) (z := i) h1 h2 (fun _ => h3) Try.underlying40 Try.sizeOf9 (by omega) hp0 hg2 rfl (Nat.mul_one _ ▸ rfl)
      · exact good_of (op := .slice 9 (.tmp 52) (some (.tmp 55)) none none) (fun o ho => by cases ho; rfl) fun f ⟨h1, kd, e, h2, h3⟩ w => by
          rw [ha2]
          exact vk_strSl (E := envP Try.prog w) (f := f) (g := .yes) (zl := some hf) (zh := none) h1 ⟨kd, e, h2, fun _ => h3⟩ trivial Try.underlying9 (by show hf ≤ u.size; omega) (Nat.le_refl _)
      · exact good_of (op := .binOp .add 9 (.tmp 46) (.tmp 56) 9) (fun o ho => by cases ho; rfl) fun f ⟨h1, h2⟩ w => by
          rw [htt]
          exact vk_strAdd (E := envP Try.prog w) (f := f) (g := .yes) h1 h2 (by omega)
    generalize hfin : (fun s' => X (mkE Try.prog Try.f24 Q w (InR [] []) im2 (fun _ _ => False) (fun _ => True) _ B24) _ s') = fin
    conv => cbv
    have hquo : IntKind.i64.wrap (s1.tdiv 2) = (hf : Int) := by
      rw [e1, hhf, show ((r.size : Int)).tdiv 2 = ((r.size / 2 : Nat) : Int) by rw [Int.tdiv_eq_ediv_of_nonneg (by omega)]; omega]
      exact wrapN _ (by omega) (by omega)
    refine ⟨⟨_, _, rfl, hquo⟩, ⟨_, _, rfl, hi⟩, ⟨_, _, rfl, hquo⟩, rfl, ?_⟩
    subst hfin
    refine X.noNames ?_
    show X (mkE Try.prog Try.f24 Q w (InR [] []) im2 (fun _ _ => False) (fun _ => True) [] B24) _ _
    obtain ⟨Mo', hMo'⟩ : ∃ M : Mem, M = fun k o => if w.heap.size ≤ k then im2 k o else Mo k o := ⟨_, rfl⟩
    have hMo1 : ∀ k o v, Mo k o = some v → Mo' k o = some v := fun k o v h => by
      rw [hMo']
      show (if w.heap.size ≤ k then im2 k o else Mo k o) = _
      split
      · exact hMi2 _ _ _ h
      · exact h
    have hMo2 : ∀ k o v, Mo' k o = some v → im2 k o = some v := fun k o v h => by
      rw [hMo'] at h
      change (if w.heap.size ≤ k then im2 k o else Mo k o) = _ at h
      split at h
      · exact h
      · exact hMi2 _ _ _ h
    have hsd' := hmem' Mo' hMo1 fun k o v hk h => by
      rw [hMo']
      show (if w.heap.size ≤ k then im2 k o else Mo k o) = _
      rw [if_pos hk]; exact h
    have hMoM : ∀ M : Mem, (∀ k o v, Mo k o = some v → M k o = some v) → (∀ k o v, w.heap.size ≤ k → im2 k o = some v → M k o = some v) → ∀ k o v, Mo' k o = some v → M k o = some v := fun M h1 h2 k o v h => by
      rw [hMo'] at h
      change (if w.heap.size ≤ k then im2 k o else Mo k o) = _ at h
      split at h
      · exact h2 _ _ _ (by assumption) h
      · exact h1 _ _ _ h
    refine X.call rfl rfl rfl rfl Try.call50 (fun N w1 args hN hS ha => ?_)
    obtain ⟨q, hq⟩ : ∃ p, N[5]? = some p := ⟨_, List.getElem?_eq_getElem (by rw [hS.len]; show 5 < 6; omega)⟩
    have ha : args = [.agg (DC.vals ⟨s1, s2, skp, skn, skc, swp, swn, swc, soff, sfl, sfu⟩).toArray, .slice (some ⟨q.b, q.o, none⟩) 1 1] := by
      simp only [DC.svs, SV.denL, SV.den, SI.den, SB.den, hq, Num.cap, Nat.add_zero, Nat.sub_zero, Option.some.injEq] at ha
      exact ha.symm
    rw [ha]
    have hsl : SlR (fun k o => w1.cell? ⟨k, o, none⟩) (some ⟨q.b, q.o, none⟩) 1 2 ([(x.1, tt)].map wD) := by
      refine ⟨⟨by simp, by have := maxLen_le; simp; omega⟩, .inr ⟨q.b, q.o, rfl, fun t dd ht => ?_⟩⟩
      match t, ht with
      | 0, ht =>
        cases ht
        refine ⟨[.int .i64 x.1, .string tt], by simp [wD, RepL, RepC], fun j v hj => ?_⟩
        match j, hj with
        | 0, hj =>
          cases hj
          obtain ⟨v, h1, h2⟩ := hS.cell 5 _ q rfl hq 0 (.int .i64 (.v x.1)) rfl
          cases h1; simpa [SI.den] using h2
        | 1, hj =>
          cases hj
          obtain ⟨v, h1, h2⟩ := hS.cell 5 _ q rfl hq 1 (.raw (.string tt)) rfl
          simp only [SV.den, one?, if_true, Option.some.injEq] at h1
          subst h1; simpa using h2
        | j + 2, hj => simp at hj
      | t + 1, ht => simp at ht
    refine (settled_ok rs ⟨s1, s2, skp, skn, skc, swp, swn, swc, soff, sfl, sfu⟩ [(x.1, tt)] (some ⟨q.b, q.o, none⟩) 1 1 Mo' (fun k o => w1.cell? ⟨k, o, none⟩) w1 (fun k o v h => hS.imm _ _ _ (hMo2 _ _ _ h)) (fun _ _ _ h => h) hsd' hsl rfl (by simp) (by omega) (by omega) (fun y hy => by simp only [List.mem_singleton] at hy; subst hy; simp only; omega)).mono fun e w2 hR => ?_
    obtain ⟨⟨⟨c1, c2, ckp, ckn, ckc, cwp, cwn, cwc, coff, cfl, cfu⟩, he, hmem⟩, hch⟩ := hR
    refine ⟨_, he, Goes.newMem hN hS hch (r := .agg (DC.svs ⟨c1, c2, ckp, ckn, ckc, cwp, cwn, cwc, coff, cfl, cfu⟩)) rfl rfl (fun hold hnew => ?_)⟩
    have hmem2 : ∀ M : Mem, (∀ k o v, Mo' k o = some v → M k o = some v) → (∀ k o v, w.heap.size ≤ k → imNew im2 w1 w2 k o = some v → M k o = some v) → RDC M (rs.settle [(x.1, tt)]) ⟨c1, c2, ckp, ckn, ckc, cwp, cwn, cwc, coff, cfl, cfu⟩ := fun M h1 h2 =>
      hmem M h1 fun k o v hk h => h2 k o v (Nat.le_trans hS.chg.size hk) (hnew _ _ _ hk h)
    obtain ⟨im3, him3⟩ : ∃ im3, im3 = imNew im2 w1 w2 := ⟨_, rfl⟩
    show X (mkE Try.prog Try.f24 Q w (InR [] []) (imNew im2 w1 w2) (fun _ _ => False) (fun _ => True) [] B24) _ _
    rw [← him3] at hmem2 hold ⊢
    clear him3 hnew hch he ha hS hN hmem hsl
    refine X.go T24_ok 400 _ rfl Try.results24 ?_
    conv => arg 2; cbv
    refine X.done T24_ok rfl (fun N w' v hN hS hv => ?_)
    obtain ⟨q, hq⟩ : ∃ p, N[6]? = some p := ⟨_, List.getElem?_eq_getElem (by rw [hS.len]; show 6 < 7; omega)⟩
    simp only [resV, SV.den, SV.denL, SI.den, SB.den, hq, Num.cap, Nat.add_zero, Nat.sub_zero, Option.some.injEq] at hv
    rw [hQ]
    refine ⟨⟨⟨c1, c2, ckp, ckn, ckc, some ⟨q.b, q.o, none⟩, 0, 0, false, cfl, -1⟩, congrArg Ending.returned hv.symm, fun M h1 h2 => ?_⟩, hS.chg.none⟩
    have hm := hmem2 M (hMoM M h1 fun k o v hk h => h2 k o v hk (hS.imm _ _ _ (hold _ _ _ h))) fun k o v hk h => h2 k o v hk (hS.imm _ _ _ h)
    obtain ⟨e1, e2, e3, e4, e5, e6, e7⟩ := hm.e
    have hrx : (settleL r.kept (r.ws.take y))[x.1.toNat]?.getD ByteArray.empty = u := by
      rw [show x.1.toNat = i by omega, ← hrk, hu]
      rfl
    rw [hr', hrx, ← htl]
    rw [hrs] at e1 e2 e3 e6 hm
    exact ⟨⟨e1, e2, e3, rfl, rfl, e6, rfl⟩, hm.kp, slr_nil⟩
  · have hc : (torn && Nat.blt 0 z) = false := by
      simp only [SB.F, SB.T, SI.den] at h1
      cases torn
      · rfl
      · have : ¬ 0 < z := fun h => by
          rcases h1 with h1 | h1
          · cases h1
          · omega
        rw [show z = 0 by omega]
        rfl
    rw [hc] at hr'
    simp only [cond_false] at hr'
    clear h1
    refine X.go T24_ok 400 _ rfl Try.results24 ?_
    conv => arg 2; cbv
    refine X.call rfl rfl rfl rfl Try.call50 (fun N w1 args hN hS ha => ?_)
    obtain rfl : args = [.agg (DC.vals ⟨g1, g2, gkp, gkn, gkc, gwp, gwn, gwc, goff, gfl, gfu⟩).toArray, .slice gwp z gwc] := (Option.some.inj ha).symm
    refine (settled_ok r.fall ⟨g1, g2, gkp, gkn, gkc, gwp, gwn, gwc, goff, gfl, gfu⟩ (r.ws.take z) gwp z gwc Mo Mo w1 (fun k o v h => hS.imm _ _ _ (hMi _ _ _ h)) (fun k o v h => hS.imm _ _ _ (hMi _ _ _ h)) hdf (by rw [List.map_take]; exact hwsl.take z) (by rw [List.length_take]; omega) (by rw [List.length_take]; omega) hk0 hk1 (fun y hy => hwi y (List.mem_of_mem_take hy))).mono fun e w2 hR => ?_
    obtain ⟨⟨⟨s1, s2, skp, skn, skc, swp, swn, swc, soff, sfl, sfu⟩, he, hmem⟩, hch⟩ := hR
    refine ⟨_, he, Goes.newMem hN hS hch (r := .agg (DC.svs ⟨s1, s2, skp, skn, skc, swp, swn, swc, soff, sfl, sfu⟩)) rfl rfl (fun hold hnew => ?_)⟩
    have hmem' : ∀ M : Mem, (∀ k o v, Mo k o = some v → M k o = some v) → (∀ k o v, w.heap.size ≤ k → imNew im w1 w2 k o = some v → M k o = some v) → RDC M (r.fall.settle (r.ws.take z)) ⟨s1, s2, skp, skn, skc, swp, swn, swc, soff, sfl, sfu⟩ := fun M h1 h2 =>
      hmem M h1 fun k o v hk h => h2 k o v (Nat.le_trans hS.chg.size hk) (hnew _ _ _ hk h)
    obtain ⟨im2, him2⟩ : ∃ im2, im2 = imNew im w1 w2 := ⟨_, rfl⟩
    show X (mkE Try.prog Try.f24 Q w (InR [] []) (imNew im w1 w2) (fun _ _ => False) (fun _ => True) [] B24) _ _
    rw [← him2] at hmem' ⊢
    clear him2 hold hnew hch he ha hS hN hmem
    refine X.go T24_ok 400 _ rfl Try.results24 ?_
    conv => arg 2; cbv
    refine X.done T24_ok rfl (fun N w' v hN hS hv => ?_)
    obtain ⟨q, hq⟩ : ∃ p, N[2]? = some p := ⟨_, List.getElem?_eq_getElem (by rw [hS.len]; show 2 < 3; omega)⟩
    simp only [resV, SV.den, SV.denL, SI.den, SB.den, hq, Num.cap, Nat.add_zero, Nat.sub_zero, Option.some.injEq] at hv
    rw [hQ]
    refine ⟨⟨⟨s1, s2, skp, skn, skc, some ⟨q.b, q.o, none⟩, 0, 0, false, sfl, -1⟩, congrArg Ending.returned hv.symm, fun M h1 h2 => ?_⟩, hS.chg.none⟩
    have hm := hmem' M h1 fun k o v hk h => h2 k o v hk (hS.imm _ _ _ h)
    obtain ⟨e1, e2, e3, e4, e5, e6, e7⟩ := hm.e
    rw [hr']
    exact ⟨⟨e1, e2, e3, rfl, rfl, e6, rfl⟩, hm.kp, slr_nil⟩
end Go.Proofs.Ytkjhpaeminegoaa

namespace Go.Proofs.Ytkjhpaeminegoaa
open Go Go.Eng
set_option maxRecDepth 100000 in
set_option cbv.maxSteps 100000000 in
theorem dspoil_err (b y : Nat) (h : Hd) (i at' by' : Int) (w : World) (hh : HdAt b y h w) (he : ¬ (h.has i ∧ 0 ≤ at' ∧ at' < h.size)) :
    Calls Try.prog 27 #[.pointer (some ⟨b, y, none⟩), .int .i64 i, .int .i64 at', .int .u8 by'] w fun e w' => e = .returned (.int .i64 6) ∧ Chg (fun _ _ => False) w w' := by
  refine X.begin (rg := [⟨false, h.sv, none⟩]) (N := [⟨b, y, 8⟩]) (ss := [.own 0 0, .int .i64 (.v i), .int .i64 (.v at'), .int .u8 (.v by')]) Try.func27 rfl B27_ok rfl rfl (Sat.std1 false hh.lt (hh.cells _) (fun h => by cases h)) ?_
  obtain ⟨size, count, m, po', n', cp', off, falls, fused, fuse⟩ := h
  refine X.goC FALL_ok false T27_ok 400 _ rfl Try.results27 ?_
  conv => arg 2; cbv
  refine X.cond rfl (fun hc => ?_) (fun hc => ?_)
  · refine X.goC FALL_ok false T27_ok 400 _ rfl Try.results27 ?_
    conv => arg 2; cbv
    refine X.done T27_ok rfl (fun N w' v hN hS hv => ?_)
    exact ⟨by rw [← (Option.some.inj hv : _ = v)]; rfl, hS.chg.ro1⟩
  · exfalso
    simp only [SB.T, SB.F, SI.den] at hc
    unfold Hd.has at he
    simp only at he
    omega
set_option maxHeartbeats 8000000 in
set_option maxRecDepth 100000 in
set_option cbv.maxSteps 100000000 in
theorem dspoil_ok (d : Dk) (i at' by' : Int) (w : World) (hs : 0 < d.h.size ∧ d.h.size ≤ 1000) (hD : DiskAt d w) (hi : d.h.has i) (ha : 0 ≤ at' ∧ at' < d.h.size) :
    Calls Try.prog 27 #[.pointer (some ⟨d.b, d.y, none⟩), .int .i64 i, .int .i64 at', .int .u8 by'] w fun e w' => e = .returned (.int .i64 0) ∧ ∃ u : By, u.At d.h.size w' ∧ u.f = spoilF (d.st i) at'.toNat (xorB (d.st i at'.toNat) by') ∧ w.heap.size ≤ u.k ∧ MapAt d.h.m (gK d.h.size (updK d.kept i u)) w' ∧ Chg (fun k _ => k = d.h.m) w w' := by
  obtain ⟨Q, hQ⟩ : ∃ Q : Ending → World → Prop, Q = fun e w' => e = .returned (.int .i64 0) ∧ ∃ u : By, u.At d.h.size w' ∧ u.f = spoilF (d.st i) at'.toNat (xorB (d.st i at'.toNat) by') ∧ w.heap.size ≤ u.k ∧ MapAt d.h.m (gK d.h.size (updK d.kept i u)) w' ∧ Chg (fun k _ => k = d.h.m) w w' := ⟨_, rfl⟩
  rw [← hQ]
  have hm := hD.mp
  have hob := hm.ob
  have him : ∀ {k o v}, w.cell? ⟨k, o, none⟩ = some v → outside (fun k _ => k = d.h.m) w k o = some v := fun {k o v} h => by
    rw [outside_out (fun e => by
      obtain ⟨x, hx⟩ := Option.isSome_iff_exists.1 hob
      subst e
      rw [cell_obj hx] at h; cases h)]; exact h
  refine X.beginR (fun k _ => k = d.h.m) (MapAt d.h.m (gK d.h.size d.kept)) (ss := [.ext d.b d.y 0, .int .i64 (.v i), .int .i64 (.v at'), .int .u8 (.v by')]) Try.func27 rfl B27_ok rfl rfl (fun k o e => .inr (by subst e; exact hob)) (fun w1 w2 hs _ h => h.at (hs _ 0 rfl).2) hm ?_
  obtain ⟨im, hime⟩ : ∃ im, im = outside (fun k _ => k = d.h.m) w := ⟨_, rfl⟩
  have himm : ∀ o, im d.h.m o = none := fun o => by rw [hime]; exact outside_in rfl
  rw [← hime] at him
  show X (mkE Try.prog Try.f27 Q w (fun k _ => k = d.h.m) (outside (fun k _ => k = d.h.m) w) (fun k _ => k = d.h.m) (MapAt d.h.m (gK d.h.size d.kept)) [] B27) _ _
  rw [← hime]
  refine X.see d.b d.y d.h.sv (fun j c hj => ?_) (by show 0 < 8; omega) (fun N0 hN0 hNl => ?_)
  · obtain ⟨v, h1, h2⟩ := hD.hd.cells [] j c hj
    exact ⟨v, h1, him h2⟩
  obtain rfl : N0 = [] := List.eq_nil_of_length_eq_zero hNl
  refine X.reval 0 (.own 0 0) (v := .ext d.b d.y 0) rfl (fun N hN x hx => ?_) ?_
  · have := hN 0 _ rfl
    simp only [SV.den, this] at hx ⊢
    exact hx
  obtain ⟨h, hh⟩ : ∃ h, h = d.h := ⟨_, rfl⟩
  obtain ⟨D, hDD⟩ : ∃ D : Nat → Nat → Prop, D = fun k _ => k = d.h.m := ⟨_, rfl⟩
  obtain ⟨Rr, hRr⟩ : ∃ R : World → Prop, R = MapAt d.h.m (gK d.h.size d.kept) := ⟨_, rfl⟩
  show X (mkE Try.prog Try.f27 Q w (fun k _ => k = d.h.m) im (fun k _ => k = d.h.m) (MapAt d.h.m (gK d.h.size d.kept)) [⟨d.b, d.y, 0⟩] B27) _ _
  have hdh := hD.hd
  have hka := fun u hu => hD.ka i u hu
  have hnem : ∀ {k o : Nat}, (w.cell? ⟨k, o, none⟩).isSome = true → ¬ k = d.h.m := fun h => hD.mapNe h
  have hstays := fun (w1 : World) h1 h2 h3 => stays_ok d i w1 hs h1 h2 h3
  have hgK : d.g = gK d.h.size d.kept := rfl
  rw [hgK] at hstays
  rw [← hDD, ← hRr, ← hh]
  rw [← hh] at hs ha hi hstays himm hRr hka hnem hDD hQ hdh
  obtain ⟨size, count, m, po', n', cp', off, falls, fused, fuse⟩ := h
  refine X.goC FALL_ok false T27_ok 400 _ rfl Try.results27 ?_
  conv => arg 2; cbv
  refine X.cond rfl (fun hc => ?_) (fun hc => ?_)
  · exfalso
    simp only [SB.T, SB.F, SI.den] at hc
    unfold Hd.has at hi
    simp only at hi ha
    omega
  clear hc
  simp only at hs ha hstays himm hRr hka hnem hDD hQ
  refine X.go T27_ok 400 _ rfl Try.results27 ?_
  conv => arg 2; cbv
  refine X.call rfl rfl rfl rfl Try.call43 (fun N w1 args hN hS ha1 => ?_)
  have q0 := hN 0 _ rfl
  have ha1 : args = [.pointer (some ⟨d.b, d.y, none⟩), .int .i64 i] := by
    simp only [SV.denL, SV.den, SI.den, q0, Option.some.injEq] at ha1
    exact ha1.symm
  rw [ha1]
  obtain ⟨f0, hf0⟩ : ∃ f, f = d.st i := ⟨_, rfl⟩
  rw [← hf0] at hQ hstays
  obtain ⟨b1, hb1⟩ : ∃ b, b = bytesL f0 size := ⟨_, rfl⟩
  refine (hstays w1 (fun j v hj => hS.imm _ _ _ (him (hdh j v hj))) (by have := hS.res; rw [hRr] at this; exact this) (fun u hu => (hka u hu).chg hS.chg fun o ⟨e1, e2, e3⟩ h => ?_)).mono fun e w2 hf => Goes.fresh (cs := b1) hN hS (by rw [hb1]; exact hf) rfl ?_
  · rw [hDD] at h
    refine hnem (k := u.k) (o := o) ?_ h
    have := (hka u hu).bytes (o - u.y) (by omega)
    rw [show u.y + (o - u.y) = o by omega] at this
    rw [this]; rfl
  obtain ⟨a, hza⟩ : ∃ z : Nat, at' = z := ⟨at'.toNat, by omega⟩
  have hat : at'.toNat = a := by omega
  rw [hat] at hQ
  have han : a < size := by omega
  have hb1l : b1.length = size := by rw [hb1, bytesL_len]
  obtain ⟨v0, hv0⟩ : ∃ v, v = f0 a := ⟨_, rfl⟩
  obtain ⟨x, hx⟩ : ∃ x, x = xorB v0 by' := ⟨_, rfl⟩
  rw [← hv0, ← hx] at hQ
  obtain ⟨f1, hf1⟩ : ∃ f, f = spoilF f0 a x := ⟨_, rfl⟩
  rw [← hf1] at hQ
  obtain ⟨b2, hb2⟩ : ∃ b, b = bytesL f1 size := ⟨_, rfl⟩
  refine X.names fun N1 hN1 hNl1 => ?_
  obtain ⟨p, hp⟩ : ∃ p, N1[1]? = some p := ⟨_, List.getElem?_eq_getElem (by rw [hNl1]; show 1 < 2; omega)⟩
  show X (mkE Try.prog Try.f27 Q w D im D Rr N1 B27) _ _
  refine X.goX ([(35, .own 1 a), (36, .int .u8 (.v v0)), (38, .int .u8 (.v x)), (39, .own 1 a)]) ([(1007, ⟨fun _ => .tup [], [(1, ⟨true, b2, none⟩)], []⟩)]) T27_ok 400 _ rfl Try.results27 (fun pr pe fin hpr hpe hfin => ?_)
  conv => cbv
  refine ⟨hpr _ (vk_osl (z := a) rfl (.inr (.inr ⟨none, rfl⟩)) rfl (fun _ => hza) Try.underlying30 Try.sizeOf5 (fun _ => han) (Nat.mul_one _).symm (by simp)), hpr _ (vk_load1 (gg := ⟨true, b1, none⟩) rfl Try.isAgg5 rfl (by show b1[a]? = _; rw [hb1, bytesL_at han, hv0])), hpr _ (vk_bin rfl rfl rfl fun _ N v hv => ?_), hpr _ (vk_osl (z := a) rfl (.inr (.inr ⟨none, rfl⟩)) rfl (fun _ => hza) Try.underlying30 Try.sizeOf5 (fun _ => han) (Nat.mul_one _).symm (by simp)), hpe _ _ _ _ _ ?_, hfin _ _ ?_⟩
  · rw [← hv, hx]
    rfl
  · refine EffOk.step T27_ok ?_
    rw [stepE_store (v := .int .u8 (.v x)) (g := ⟨true, b1, none⟩) (ti := ti5) rfl rfl rfl rfl rfl rfl (by show a + 1 ≤ b1.length; omega) rfl]
    rw [hb2, hf1, ← bytesL_put _ _ _ _ han, ← hb1]
    rfl
  clear hpr hpe hfin
  obtain ⟨cp0, hcp0⟩ : ∃ c, c = p.cap 0 1 none := ⟨_, rfl⟩
  obtain ⟨u, hu⟩ : ∃ u : By, u = ⟨p.b, p.o, cp0, f1⟩ := ⟨_, rfl⟩
  refine X.drop 0 (by simp) ?_
  refine X.mapPutR (MapAt m (gK size (updK d.kept i u))) (m := m) (j := .v i) (gK size d.kept) rfl rfl rfl Try.underlying80 Try.underlying3 rfl rfl rfl ⟨0, by rw [hDD]⟩ (fun k o h => .inr h) (fun k o h => by rw [hDD] at h; subst h; exact himm o)
    (fun g hg => by simp at hg; rcases hg with rfl | rfl; exact .inr rfl; exact .inl rfl) (by rw [hDD]; exact fun w1 w2 hs _ h => h.at (hs _ 0 rfl).2) (fun w h => by rw [hRr] at h; exact h) (fun N w1 c ob hN hS hc hnc hmp => ?_) rfl ?_
  · have q1 := hN 1 _ hp
    simp only [SV.den, q1, Option.some.injEq] at hc
    have e : gK size (updK d.kept i u) = fun q => if q = (SI.v i).den then some c else gK size d.kept q := by
      funext q
      simp only [gK, updK]
      show Option.map _ (if q = i then _ else _) = (if q = i then some c else _)
      split
      · rw [← hc, hu, hcp0]; rfl
      · rfl
    rw [e]; exact hmp
  refine X.go T27_ok 400 _ rfl Try.results27 ?_
  conv => arg 2; cbv
  refine X.done T27_ok rfl (fun N w' v hN hS hv => ?_)
  have q1 := hN 1 _ hp
  have hext := hS.ext 1 ⟨true, b2, none⟩ p rfl q1 rfl
  have hb2l : b2.length = size := by rw [hb2, bytesL_len]
  rw [hb2l] at hext
  rw [hQ]
  refine ⟨by rw [← (Option.some.inj hv : _ = v)]; rfl, u, ⟨?_, fun j hj => ?_, fun j hj => ?_⟩, by rw [hu], ?_, hS.res, by have := hS.chg; rw [hDD] at this; exact this⟩
  · rw [hu, hcp0]
    simp [Num.cap]
    exact hext
  · obtain ⟨v, k1, k2⟩ := hS.cell 1 _ p rfl q1 j (.int .u8 (.v (f1 j))) (by rw [hb2]; exact bytesL_at hj)
    rw [hu]
    show w'.cell? ⟨p.b, p.o + j, none⟩ = some (.int .u8 (f1 j))
    rw [k2, ← k1]
    rfl
  · rw [hu]
    exact (hS.room 1 _ p rfl q1 rfl j (by omega)).2
  · rw [hu]
    rcases hS.foot 1 _ p rfl q1 rfl with h | h
    · exact h
    · have hb := h 0 (by omega)
      rw [hDD] at hb
      have hb : p.b = m := hb
      obtain ⟨x, hx⟩ := Option.isSome_iff_exists.1 (MapAt.ob hS.res)
      have hr := (hS.room 1 _ p rfl q1 rfl 0 (by omega)).1
      rw [hb, cell_obj hx] at hr
      cases hr
theorem updK_cases {kept : Int → Option By} {i q : Int} {u v : By} (h : updK kept i u q = some v) : v = u ∨ kept q = some v := by
  unfold updK at h
  split at h
  · exact .inl (Option.some.inj h).symm
  · exact .inr h
theorem g_spoil {B : Nat} {s : Sec} {d : Dk} (h : PlG B s d) (i at' by' : Int) (w : World) (hB : B ≤ w.heap.size) (hD : DiskAt d w) :
    Calls Try.prog 27 #[.pointer (some ⟨d.b, d.y, none⟩), .int .i64 i, .int .i64 at', .int .u8 by'] w fun e w' => e = .returned (.int .i64 (s.spoil i at' by').1) ∧ ∃ d', ToG B (s.spoil i at' by').2 d d' w w' := by
  have hsz : d.h.size = s.size := by rw [← h.e]; rfl
  have hst : ∀ i, d.st i = s.st i := fun i => by rw [← h.e]; exact Dk.st_eq d i
  have hh := h.has i
  by_cases hc : s.has i ∧ 0 ≤ at' ∧ at' < s.size
  · have hsp : s.spoil i at' by' = (0, { s with st := updS s.st (i, spoilF (s.st i) at'.toNat (xorB (s.st i at'.toNat) by')) }) := by unfold Sec.spoil; rw [if_pos hc]
    rw [hsp]
    have hz := h.ok.sz
    refine (dspoil_ok d i at' by' w (by omega) hD (hh.2 hc.1) (by rw [hsz]; exact hc.2)).mono fun e w' ⟨he, u, k1, k2, k3, k4, k5⟩ => ?_
    have hlt : ∀ {k o : Nat}, d.D k o → k < w.heap.size := fun hk => (hD.there hk).lt
    have ne : ∀ {k o : Nat}, (w.cell? ⟨k, o, none⟩).isSome = true → ¬ k = d.h.m := fun h => hD.mapNe h
    have byAt : ∀ {u : By}, u.At d.h.size w → u.At d.h.size w' := fun {u} h => h.chg k5 fun o ⟨e1, e2, e3⟩ => ne (k := u.k) (o := o) (by
      have := h.bytes (o - u.y) (by omega)
      rw [show u.y + (o - u.y) = o from by omega] at this
      rw [this]; rfl)
    have hin : ∀ k o, ({ d with kept := updK d.kept i u } : Dk).D k o → d.D k o ∨ u.D d.h.size k o := fun k o hk => by
      rcases hk with hk | hk | hk | hk | ⟨q, v, hq, hk⟩
      · exact .inl (.inl hk)
      · exact .inl (.inr (.inl hk))
      · exact .inl (.inr (.inr (.inl hk)))
      · exact .inl (.inr (.inr (.inr (.inl hk))))
      · rcases updK_cases hq with rfl | hq
        · exact .inr hk
        · exact .inl (.inr (.inr (.inr (.inr ⟨q, v, hq, hk⟩))))
    refine ⟨he, { d with kept := updK d.kept i u }, rfl, rfl, ⟨⟨⟨h.ok.sz, h.ok.ct, h.ok.nn, h.ok.po, h.ok.wi, h.ok.a1, h.ok.a2, fun q v hq k o hk => ?_, h.ok.a4⟩, fun j q v hj hq k o hk hw => ?_⟩, fun k o hk => ?_, ?_⟩, ?_, k5.mono fun k o _ hk => .inr (.inl hk), fun k o hk => (hin k o hk).imp id fun hk => by obtain ⟨e1, _⟩ := hk; omega⟩
    · rcases updK_cases hq with rfl | hq
      · obtain ⟨e1, _⟩ := hk
        exact ⟨fun h2 => by have := hlt (.inl h2); omega, fun h2 => by have := hlt (.inr (.inr (.inl h2))); omega⟩
      · exact h.ok.a3 q v hq k o hk
    · rcases updK_cases hq with rfl | hq
      · obtain ⟨e1, _⟩ := hk
        have := hlt (.inr (.inr (.inr (.inl ⟨j, hj, hw⟩))))
        omega
      · exact h.ok.a5 j q v hj hq k o hk hw
    · rcases hin k o hk with hk | ⟨e1, _⟩
      · exact h.far k o hk
      · omega
    · have e : d.sec = s := h.e
      show Sec.mk d.h.size d.h.count (stK (updK d.kept i u)) (d.log d.h.n) d.h.off d.h.falls d.h.fused d.h.fuse = { s with st := updS s.st (i, spoilF (s.st i) at'.toNat (xorB (s.st i at'.toNat) by')) }
      rw [← e]
      simp only [Dk.sec, Sec.mk.injEq, true_and, and_true]
      funext q
      unfold stK updK updS
      by_cases hq : q = i
      · subst hq
        simp only [if_true]
        rw [k2, hst, ← e]
        rfl
      · rw [if_neg hq, if_neg (fun h => hq h.symm)]
    · refine ⟨hD.nc, hD.hd.chg k5 fun o ⟨e1, e2, e3⟩ => ne (o := o) ?_, hD.hf.chg hD.hd k5, k4, fun o ho => ?_, fun i hi => ?_, fun i hi => byAt (hD.wa i hi), fun q v hq => ?_⟩
      · have := (hD.hd.room hD.hf (o - d.y) (by omega)).1
        rwa [show d.y + (o - d.y) = o by omega] at this
      · obtain ⟨h1, h2⟩ := hD.rm o ho
        show (w'.cell? ⟨d.wb, d.wy + o, none⟩).isSome = true ∧ w'.frozen? ⟨d.wb, d.wy + o, none⟩ = false
        exact ⟨some_of_chg k5 _ h1, by rw [frozen_of_chg k5 _ h1]; exact h2⟩
      · obtain ⟨h1, h2⟩ := hD.rw i hi
        show w'.cell? ⟨d.wb, d.wy + i * 2, none⟩ = some (.int .i64 (d.ws i).1) ∧ w'.cell? ⟨d.wb, d.wy + i * 2 + 1, none⟩ = some ((d.ws i).2.val d.h.size)
        exact ⟨cell_of_chg k5 (ne (o := d.wy + i * 2) (by rw [h1]; rfl)) h1, cell_of_chg k5 (ne (o := d.wy + i * 2 + 1) (by rw [h2]; rfl)) h2⟩
      · rcases updK_cases hq with rfl | hq
        · exact k1
        · exact byAt (hD.ka q v hq)
  · have hsp : s.spoil i at' by' = (6, s) := by unfold Sec.spoil; rw [if_neg hc]
    rw [hsp]
    refine (dspoil_err d.b d.y d.h i at' by' w hD.hd (by rw [hh, hsz]; exact hc)).mono fun e w' ⟨he, k⟩ => ⟨he, d, ToG.refl h hD k⟩
end Go.Proofs.Ytkjhpaeminegoaa
