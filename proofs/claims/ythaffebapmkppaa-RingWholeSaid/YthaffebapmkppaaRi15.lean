/- RingWhole. -/
import Derived.Test.YthaffebapmkppaaRi14
import Derived.Test.YthaffebapmkppaaRg2

namespace Go.Proofs.Ythaffebapmkppaa
open Go Go.Eng Go.Sort

/-- a row of numbers, told by a function -/
def fnL (m : Nat) (f : Nat → Int) : List SV := (List.range m).map fun x => .int .i64 (.v (f x))
theorem fnL_len (m : Nat) (f : Nat → Int) : (fnL m f).length = m := by simp [fnL]
theorem fnL_at {m : Nat} (f : Nat → Int) {x : Nat} (h : x < m) : (fnL m f)[x]? = some (.int .i64 (.v (f x))) := by simp [fnL, h]
theorem fnL_get {m : Nat} {f : Nat → Int} {x : Nat} {c : SV} (h : (fnL m f)[x]? = some c) : x < m ∧ c = .int .i64 (.v (f x)) := by
  have hx : x < m := by
    have := (List.getElem?_eq_some_iff.1 h).1
    rwa [fnL_len] at this
  rw [fnL_at f hx] at h
  exact ⟨hx, (Option.some.inj h).symm⟩
theorem fnL_bd {m n : Nat} {f : Nat → Int} : (fnL m f).all (bd n) = true := List.all_eq_true.2 fun c hc => by
  obtain ⟨x, _, rfl⟩ := List.mem_map.1 hc; rfl
/-- one of them is put -/
theorem fnL_put {m x : Nat} {f f' : Nat → Int} {z : Int} (hx : x < m) (h1 : f' x = z) (h2 : ∀ y, y ≠ x → f' y = f y) (N : Nums) (j : Nat) (c c' : SV) (hc : (setRow (fnL m f) x [.int .i64 (.lit z)])[j]? = some c) (hc' : (fnL m f')[j]? = some c') (v : Value) (hv : c.den N = some v) : c'.den N = some v := by
  obtain ⟨hj, rfl⟩ := fnL_get hc'
  rw [setRow_at _ _ _ _ (by rw [fnL_len]; simp; omega)] at hc
  by_cases e : j = x
  · subst e
    rw [if_pos (by simp), Nat.sub_self] at hc
    obtain rfl : c = .int .i64 (.lit z) := (Option.some.inj hc).symm
    rw [← hv]
    simp [SV.den, SI.den, h1]
  · rw [if_neg (by simp; omega), fnL_at _ hj] at hc
    obtain rfl := (Option.some.inj hc).symm
    rw [← hv, h2 j e]

theorem dd_snoc (x : Int) : ∀ (l out : List Int), dd (l ++ [x]) out = if x ∈ dd l out then dd l out else dd l out ++ [x]
  | [], out => rfl
  | y :: l, out => by
    rw [List.cons_append, dd, dd_snoc x l]
    rfl

def hadI (l : List Int) (x : Nat) : Int := if (x : Int) ∈ l then 1 else 0
def hadJ (l d : List Int) (x : Nat) : Int := if (x : Int) ∈ l then 2 else hadI d x
theorem take_snoc {l : List Int} {i : Nat} (h : i < l.length) : l.take (i + 1) = l.take i ++ [l[i]!] := by
  rw [List.take_add_one, List.getElem?_eq_getElem h, getElem!_pos l i h]
  rfl
theorem byteN {x : Int} (h : 0 ≤ x ∧ x < 256) : ∃ y : Nat, x = (y : Int) ∧ y < 256 := ⟨x.toNat, by omega, by omega⟩

/-- the front of a slice -/
theorem vk_slvHi {E : Env} {N0 : Nums} {rg : List Rg} {f : Fr} {g : GK} {t e : TypeId} {x hi : Operand} {p : Option Addr} {n cp z q : Nat} {kd : IntKind} {s : SI} (hx : evK f g x = some (.slv p n cp)) (hhi : evK f g hi = some (.int kd s)) (hz : g.T → s.den = (z : Int)) (hu : E.P.underlying t = some (.slice e)) (hq : ∀ w, (sizeOf e).run E.P w = .ok q w)
    (h1 : g.T → z ≤ n) (h2 : n ≤ cp) : ValOk E N0 rg f g (.slice t x none (some hi) none) (.slv p z cp) := by
  intro ht N ρ op w hN0 hop hρ hV
  have e1 := hρ _ _ hx
  have e2 := hρ _ _ hhi
  have h1 := h1 ht
  simp only [SV.den, Option.some.injEq] at e1 e2
  refine ⟨.slice p z cp, rfl, fun w' _ => ?_⟩
  have hb := run_sliceBounds (P := E.P) (w := w') (ρ' := ρ) (b := true) (len := n) (cap := cp) (lo := none) (hi := some hi) (mx := none) (l := none) (h := some z) (m := none) (.inl ⟨rfl, rfl⟩) (.inr ⟨kd, z, by simp [← e2, hz ht], rfl⟩) (.inl ⟨rfl, rfl⟩)
    (by simp) (by simp; omega) (by simp) (by simp)
  simp only [Option.map_none, Option.map_some, Option.getD_none, Option.getD_some] at hb
  cases p with
  | none => simp [execOp, hop, ← e1, Instr.sliceAt, run_underlying hu, Result.andThen, Instr.slice, hb, hq]
  | some a =>
    simp [execOp, hop, ← e1, Instr.sliceAt, run_underlying hu, Result.andThen, Instr.slice, hb, hq]
    exact fun _ => by cases a; rfl

set_option maxHeartbeats 8000000 in
set_option maxRecDepth 100000 in
set_option cbv.maxSteps 100000000 in
theorem whole_had (p : Option Addr) (n cp b y mv : Nat) (d : List Int) (key : Int) (w : World) (im : Mem) (Q : Ending → World → Prop) (hn : d.length = n) (hle : n ≤ 1000) (hp : 0 < n → p = some ⟨b, y, none⟩) (hdi : ∀ j, j < n → im b (y + j) = some (.int .u8 d[j]!)) (hd : ∀ x ∈ d, 0 ≤ x ∧ x < 256) (hc : n ≤ cp)
    (hX : X (mkE Try.prog Try.f4 Q w (InR [] []) im (fun _ _ => False) (fun _ => True) [] B4) [It.code (sndC (sndC (sndC (sndC (sndC (Try.f4.body.getD .skip))))))] ⟨[(0, .val (.slv p n cp)), (1, .val (.int .u8 (.v key))), (2, .val (.int .u8 (.nat mv))), (7, .val (.own 0 0)), (8, .val (.int .i64 (.nat (dd d []).length)))], [⟨true, fnL 256 (hadI d), none⟩]⟩) :
    X (mkE Try.prog Try.f4 Q w (InR [] []) im (fun _ _ => False) (fun _ => True) [] B4) [It.code (sndC (sndC (Try.f4.body.getD .skip)))] ⟨[(0, .val (.slv p n cp)), (1, .val (.int .u8 (.v key))), (2, .val (.int .u8 (.nat mv)))], []⟩ := by
  refine X.go T4_ok 400 _ rfl Try.results4 ?_
  conv => arg 2; cbv
  refine X.recell 0 ⟨true, List.replicate 256 (.int .i64 (.lit 0)), none⟩ (fnL 256 (hadI (d.take 0))) rfl (by rw [fnL_len]; rfl) (fun N _ j c c' h1 h2 v hv => ?_) ?_
  · obtain ⟨_, rfl⟩ := fnL_get h2
    have : c = .int .i64 (.lit 0) := by
      have := List.mem_of_getElem? h1
      simpa using (List.mem_replicate.1 this).2
    subst this
    rw [← hv]
    simp [SV.den, SI.den, hadI]
  show X (mkE Try.prog Try.f4 Q w (InR [] []) im (fun _ _ => False) (fun _ => True) [] B4) _ ⟨_, [⟨true, fnL 256 (hadI (d.take 0)), none⟩]⟩
  refine X.loop (fun _ : {i : Nat // i ≤ n} => mkE Try.prog Try.f4 Q w (InR [] []) im (fun _ _ => False) (fun _ => True) [] B4)
    (fun g => ⟨[(0, .val (.slv p n cp)), (1, .val (.int .u8 (.v key))), (2, .val (.int .u8 (.nat mv))), (7, .val (.own 0 0)), (8, .val (.int .i64 (.nat (dd (d.take g.1) []).length))), (9, .val (.int .i64 (.nat g.1)))], [⟨true, fnL 256 (hadI (d.take g.1)), none⟩]⟩) (fun g => n - g.1) (fun _ => ⟨rfl, rfl, rfl, rfl⟩) (fun N ac w' hN hf hS => ⟨⟨0, Nat.zero_le _⟩, ?_⟩) (fun g q hq => ?_)
  · exact At.again hf hS (by repeat first | exact trivial | refine ⟨⟨_, rfl, .inl ⟨rfl, rfl⟩⟩, ?_⟩ | refine ⟨⟨_, rfl, .inr ⟨_, rfl, rfl⟩⟩, ?_⟩ | refine ⟨⟨_, rfl, .inr ⟨_, rfl, by simp (disch := omega) [SV.den, SI.den, wrapU, wrapD] <;> omega⟩⟩, ?_⟩) ⟨fun h => h, SubC.refl fnL_bd, rfl, trivial⟩
  obtain ⟨i, hi⟩ := g
  show X (mkE Try.prog Try.f4 Q w (InR [] []) im (fun _ _ => False) (fun _ => True) [] B4) _ ⟨[(0, .val (.slv p n cp)), (1, .val (.int .u8 (.v key))), (2, .val (.int .u8 (.nat mv))), (7, .val (.own 0 0)), (8, .val (.int .i64 (.nat (dd (d.take i) []).length))), (9, .val (.int .i64 (.nat i)))], [⟨true, fnL 256 (hadI (d.take i)), none⟩]⟩
  obtain ⟨hf, hhf⟩ : ∃ h, h = hadI (d.take i) := ⟨_, rfl⟩
  obtain ⟨cs, hcs⟩ : ∃ h, h = fnL 256 hf := ⟨_, rfl⟩
  obtain ⟨ct, hct⟩ : ∃ h, h = (dd (d.take i) []).length := ⟨_, rfl⟩
  have hct8 : ct ≤ 1000 := by
    have := dd_len (d.take i) []
    simp at this
    omega
  rw [← hhf, ← hcs, ← hct]
  refine X.go T4_ok 400 _ rfl Try.results4 ?_
  conv => arg 2; cbv
  refine X.cond rfl (fun hlt => ?_) (fun hge => ?_)
  · simp only [SB.T, SI.den] at hlt
    have hlt : i < n := by omega
    obtain ⟨x, hx⟩ : ∃ z, z = d[i]! := ⟨_, rfl⟩
    have hxm : x ∈ d := by rw [hx, getElem!_pos d i (by omega)]; exact List.getElem_mem _
    obtain ⟨xz, hxz, hx8⟩ := byteN (hd x hxm)
    obtain ⟨oi, hoi⟩ : ∃ o, o = y + i := ⟨_, rfl⟩
    have hix : im b (oi + 0) = some (.int .u8 x) := by rw [Nat.add_zero, hoi, hx]; exact hdi i hlt
    have hsn := take_snoc (l := d) (i := i) (by omega)
    rw [← hx] at hsn
    have hdn := dd_snoc x (d.take i) []
    rw [← hsn] at hdn
    obtain ⟨hv, hhv⟩ : ∃ v, v = hf xz := ⟨_, rfl⟩
    have hcx : cs[xz]? = some (.int .i64 (.v hv)) := by rw [hcs, hhv]; exact fnL_at _ hx8
    refine X.goP ([(27, .ext b oi 0), (28, .int .u8 (.v x)), (29, .own 0 xz), (30, .int .i64 (.v hv))]) T4_ok 400 _ rfl Try.results4 (fun pr fin hpr hfin => ?_)
    conv => cbv
    refine ⟨hpr _ (vk_load1 rfl Try.isAgg3 rfl hcx), hpr _ (vk_arr (z := xz) rfl rfl (fun _ => hxz) Try.underlying26 Try.sizeOf3 hx8 (by omega) (Nat.lt_of_sub_eq_succ rfl)), hpr _ (ValOk.im1 rfl Try.isAgg5 (fun _ => rfl) fun _ => hix), hpr _ (ValOk.at (z := i) rfl rfl (fun _ => rfl) Try.underlying22 Try.sizeOf5 (fun _ => hlt) (hp (by omega)) (by omega)), hfin _ _ ?_⟩
    have hmem : x ∈ dd (d.take i) [] ↔ x ∈ d.take i := by rw [dd_mem]; simp
    refine X.cond rfl (fun hz => ?_) (fun hz => ?_)
    · simp only [SB.T, SI.den] at hz
      have hnm : ¬ x ∈ d.take i := fun h => by rw [hhv, hhf, hadI, if_pos (by rw [← hxz]; exact h)] at hz; exact absurd hz (by decide)
      rw [if_neg (fun h => hnm (hmem.1 h))] at hdn
      refine X.goP ([(36, .ext b oi 0), (37, .int .u8 (.v x)), (38, .own 0 xz)]) T4_ok 11 _ rfl Try.results4 (fun pr fin hpr hfin => ?_)
      conv => cbv
      refine ⟨hpr _ (vk_arr (z := xz) rfl rfl (fun _ => hxz) Try.underlying26 Try.sizeOf3 hx8 (by omega) (Nat.lt_of_sub_eq_succ rfl)), hpr _ (ValOk.im1 rfl Try.isAgg5 (fun _ => rfl) fun _ => hix), hpr _ (ValOk.at (z := i) rfl rfl (fun _ => rfl) Try.underlying22 Try.sizeOf5 (fun _ => hlt) (hp (by omega)) (by omega)), hfin _ _ ?_⟩
      have hcl : cs.length = 256 := by rw [hcs]; exact fnL_len _ _
      refine X.opEq T4_ok (oe_store (v := .int .i64 (.lit 1)) (g := ⟨true, cs, none⟩) (cs' := setRow cs xz [.int .i64 (.lit 1)]) rfl rfl rfl rfl rfl rfl rfl rfl rfl rfl (by show xz + 1 ≤ cs.length; omega) rfl rfl) ?_
      refine X.recell 0 ⟨true, setRow cs xz [.int .i64 (.lit 1)], none⟩ (fnL 256 (hadI (d.take (i + 1)))) rfl (by rw [fnL_len, setRow_length _ _ _ (by omega)]; show 256 = max cs.length (xz + 1); omega) (fun N _ j c c' h1 h2 v hv => ?_) ?_
      · subst hcs
        refine fnL_put (f := hf) hx8 ?_ (fun z hz => ?_) N j c c' h1 h2 v hv
        · rw [hadI, if_pos (by rw [← hxz, hsn]; simp)]
        · rw [hhf, hadI, hadI, hsn]
          have : ¬ (z : Int) = x := by omega
          simp [this]
      obtain ⟨cs2, hcs2⟩ : ∃ c, c = fnL 256 (hadI (d.take (i + 1))) := ⟨_, rfl⟩
      have hbd2 : ∀ m, cs2.all (bd m) = true := fun m => by rw [hcs2]; exact fnL_bd
      rw [← hcs2]
      show X (mkE Try.prog Try.f4 Q w (InR [] []) im (fun _ _ => False) (fun _ => True) [] B4) _ ⟨_, [⟨true, cs2, none⟩]⟩
      refine X.go T4_ok 400 _ rfl Try.results4 ?_
      conv => arg 2; cbv
      refine X.back (fun N ac w' hN hf hS => hq ⟨i + 1, hlt⟩ ac w' (by simp only; omega) ?_)
      show At (mkE Try.prog Try.f4 Q w (InR [] []) im (fun _ _ => False) (fun _ => True) [] B4) ⟨[(0, .val (.slv p n cp)), (1, .val (.int .u8 (.v key))), (2, .val (.int .u8 (.nat mv))), (7, .val (.own 0 0)), (8, .val (.int .i64 (.nat (dd (d.take (i + 1)) []).length))), (9, .val (.int .i64 (.nat (i + 1))))], [⟨true, fnL 256 (hadI (d.take (i + 1))), none⟩]⟩ ac w'
      rw [hdn, List.length_append, List.length_singleton, ← hct, ← hcs2]
      exact At.again hf hS (by repeat first | exact trivial | refine ⟨⟨_, rfl, .inl ⟨rfl, rfl⟩⟩, ?_⟩ | refine ⟨⟨_, rfl, .inr ⟨_, rfl, rfl⟩⟩, ?_⟩ | refine ⟨⟨_, rfl, .inr ⟨_, rfl, by simp (disch := omega) [SV.den, SI.den, wrapU, wrapD] <;> omega⟩⟩, ?_⟩) ⟨fun h => h, SubC.refl (hbd2 _), rfl, trivial⟩
    · simp only [SB.F, SI.den] at hz
      have hnm : x ∈ d.take i := Classical.byContradiction fun h => by rw [hhv, hhf, hadI, if_neg (by rw [← hxz]; exact h)] at hz; exact absurd rfl hz
      rw [if_pos (hmem.2 hnm)] at hdn
      refine X.goP ([(36, .ext b oi 0), (37, .int .u8 (.v x)), (38, .own 0 xz)]) T4_ok 7 _ rfl Try.results4 (fun pr fin hpr hfin => ?_)
      conv => cbv
      refine ⟨hpr _ (vk_arr (z := xz) rfl rfl (fun _ => hxz) Try.underlying26 Try.sizeOf3 hx8 (by omega) (Nat.lt_of_sub_eq_succ rfl)), hpr _ (ValOk.im1 rfl Try.isAgg5 (fun _ => rfl) fun _ => hix), hpr _ (ValOk.at (z := i) rfl rfl (fun _ => rfl) Try.underlying22 Try.sizeOf5 (fun _ => hlt) (hp (by omega)) (by omega)), hfin _ _ ?_⟩
      have hcl : cs.length = 256 := by rw [hcs]; exact fnL_len _ _
      refine X.opEq T4_ok (oe_store (v := .int .i64 (.lit 1)) (g := ⟨true, cs, none⟩) (cs' := setRow cs xz [.int .i64 (.lit 1)]) rfl rfl rfl rfl rfl rfl rfl rfl rfl rfl (by show xz + 1 ≤ cs.length; omega) rfl rfl) ?_
      refine X.recell 0 ⟨true, setRow cs xz [.int .i64 (.lit 1)], none⟩ (fnL 256 (hadI (d.take (i + 1)))) rfl (by rw [fnL_len, setRow_length _ _ _ (by omega)]; show 256 = max cs.length (xz + 1); omega) (fun N _ j c c' h1 h2 v hv => ?_) ?_
      · subst hcs
        refine fnL_put (f := hf) hx8 ?_ (fun z hz => ?_) N j c c' h1 h2 v hv
        · rw [hadI, if_pos (by rw [← hxz, hsn]; simp)]
        · rw [hhf, hadI, hadI, hsn]
          have : ¬ (z : Int) = x := by omega
          simp [this]
      obtain ⟨cs2, hcs2⟩ : ∃ c, c = fnL 256 (hadI (d.take (i + 1))) := ⟨_, rfl⟩
      have hbd2 : ∀ m, cs2.all (bd m) = true := fun m => by rw [hcs2]; exact fnL_bd
      rw [← hcs2]
      show X (mkE Try.prog Try.f4 Q w (InR [] []) im (fun _ _ => False) (fun _ => True) [] B4) _ ⟨_, [⟨true, cs2, none⟩]⟩
      refine X.go T4_ok 400 _ rfl Try.results4 ?_
      conv => arg 2; cbv
      refine X.back (fun N ac w' hN hf hS => hq ⟨i + 1, hlt⟩ ac w' (by simp only; omega) ?_)
      show At (mkE Try.prog Try.f4 Q w (InR [] []) im (fun _ _ => False) (fun _ => True) [] B4) ⟨[(0, .val (.slv p n cp)), (1, .val (.int .u8 (.v key))), (2, .val (.int .u8 (.nat mv))), (7, .val (.own 0 0)), (8, .val (.int .i64 (.nat (dd (d.take (i + 1)) []).length))), (9, .val (.int .i64 (.nat (i + 1))))], [⟨true, fnL 256 (hadI (d.take (i + 1))), none⟩]⟩ ac w'
      rw [hdn, ← hct, ← hcs2]
      exact At.again hf hS (by repeat first | exact trivial | refine ⟨⟨_, rfl, .inl ⟨rfl, rfl⟩⟩, ?_⟩ | refine ⟨⟨_, rfl, .inr ⟨_, rfl, rfl⟩⟩, ?_⟩ | refine ⟨⟨_, rfl, .inr ⟨_, rfl, by simp (disch := omega) [SV.den, SI.den, wrapU, wrapD] <;> omega⟩⟩, ?_⟩) ⟨fun h => h, SubC.refl (hbd2 _), rfl, trivial⟩
  · simp only [SB.F, SI.den] at hge
    have hall : d.take i = d := List.take_of_length_le (by omega)
    have hf0 : fnL 256 (hadI d) = cs := by rw [hcs, hhf, hall]
    have hct0 : (dd d []).length = ct := by rw [hct, hall]
    rw [hf0, hct0] at hX
    refine X.go T4_ok 1 _ rfl Try.results4 ?_
    conv => arg 2; cbv
    refine X.less [0, 1, 2, 7, 8] ?_
    exact hX

end Go.Proofs.Ythaffebapmkppaa
