/- The sector's functions: the whole disk in memory; what stays of a sector. -/
import Derived.Test.YtkjhpaeminegoaaSe2

namespace Go.Proofs.Ytkjhpaeminegoaa
open Go.Eng

/-- a row of bytes in memory -/
structure By where
  (k y cp : Nat) (f : Nat → Int)

def By.val (u : By) (z : Nat) : Value := .slice (some ⟨u.k, u.y, none⟩) z u.cp
def By.D (u : By) (z k o : Nat) : Prop := k = u.k ∧ u.y ≤ o ∧ o < u.y + z
structure By.At (u : By) (z : Nat) (w : World) : Prop where
  cap : z ≤ u.cp
  bytes : BytesAt u.k u.y z u.f w
  free : ∀ j, j < z → w.frozen? ⟨u.k, u.y + j, none⟩ = false

theorem By.At.at {u : By} {z : Nat} {w w' : World} (h : u.At z w) (hs : ∀ o, u.D z u.k o → w'.cell? ⟨u.k, o, none⟩ = w.cell? ⟨u.k, o, none⟩ ∧ w'.frozen? ⟨u.k, o, none⟩ = w.frozen? ⟨u.k, o, none⟩) : u.At z w' :=
  ⟨h.cap, fun j hj => by rw [(hs _ ⟨rfl, by omega, by omega⟩).1]; exact h.bytes j hj, fun j hj => by rw [(hs _ ⟨rfl, by omega, by omega⟩).2]; exact h.free j hj⟩

theorem By.At.chg {u : By} {z : Nat} {w w' : World} {O : Nat → Nat → Prop} (h : u.At z w) (hc : Chg O w w') (hO : ∀ o, u.D z u.k o → ¬ O u.k o) : u.At z w' :=
  ⟨h.cap, fun j hj => cell_of_chg hc (hO _ ⟨rfl, by omega, by omega⟩) (h.bytes j hj), fun j hj => by rw [frozen_of_chg hc _ (by rw [h.bytes j hj]; rfl)]; exact h.free j hj⟩

theorem By.At.there {u : By} {z : Nat} {w : World} (h : u.At z w) {k o : Nat} (hd : u.D z k o) : There w k o := by
  obtain ⟨rfl, h1, h2⟩ := hd
  have := h.bytes (o - u.y) (by omega)
  rw [show u.y + (o - u.y) = o by omega] at this
  exact .inl (by rw [this]; rfl)

/-- a disk: where it lies, its own cells, the row of what waits, what stays -/
structure Dk where
  (b y : Nat) (h : Hd) (wb wy : Nat) (ws : Nat → Int × By) (kept : Int → Option By)

/-- the row of what waits, with its room -/
def Dk.rowD (d : Dk) (k o : Nat) : Prop := k = d.wb ∧ d.wy ≤ o ∧ o < d.wy + d.h.cp * 2

def Dk.D (d : Dk) (k o : Nat) : Prop :=
  hdO d.b d.y k o ∨ k = d.h.m ∨ d.rowD k o ∨ (∃ i, i < d.h.n ∧ (d.ws i).2.D d.h.size k o) ∨ ∃ q u, d.kept q = some u ∧ u.D d.h.size k o

/-- what the map holds -/
def Dk.g (d : Dk) : Int → Option Value := fun q => (d.kept q).map (·.val d.h.size)

structure DiskAt (d : Dk) (w : World) : Prop where
  nc : d.h.n ≤ d.h.cp
  hd : HdAt d.b d.y d.h w
  hf : HdFree d.b d.y w
  mp : MapAt d.h.m d.g w
  rm : ∀ o, o < d.h.cp * 2 → (w.cell? ⟨d.wb, d.wy + o, none⟩).isSome = true ∧ w.frozen? ⟨d.wb, d.wy + o, none⟩ = false
  rw : ∀ i, i < d.h.n → w.cell? ⟨d.wb, d.wy + i * 2, none⟩ = some (.int .i64 (d.ws i).1) ∧ w.cell? ⟨d.wb, d.wy + i * 2 + 1, none⟩ = some ((d.ws i).2.val d.h.size)
  wa : ∀ i, i < d.h.n → (d.ws i).2.At d.h.size w
  ka : ∀ q u, d.kept q = some u → u.At d.h.size w

structure Dk.Ok0 (d : Dk) : Prop where
  sz : 64 ≤ d.h.size ∧ d.h.size ≤ 512
  ct : 1 ≤ d.h.count ∧ d.h.count ≤ 4096
  nn : d.h.n ≤ 1000
  po : (d.h.po = none ∧ d.h.n = 0 ∧ d.h.cp = 0) ∨ (d.h.po = some ⟨d.wb, d.wy, none⟩ ∧ 0 < d.h.cp)
  wi : ∀ i, i < d.h.n → 0 ≤ (d.ws i).1 ∧ (d.ws i).1 < d.h.count
  a1 : ∀ k o, hdO d.b d.y k o → ¬ d.rowD k o
  a2 : ∀ i, i < d.h.n → ∀ k o, (d.ws i).2.D d.h.size k o → ¬ hdO d.b d.y k o ∧ ¬ d.rowD k o
  a3 : ∀ q u, d.kept q = some u → ∀ k o, u.D d.h.size k o → ¬ hdO d.b d.y k o ∧ ¬ d.rowD k o
  a4 : ∀ i j, i < d.h.n → j < d.h.n → i ≠ j → ∀ k o, (d.ws i).2.D d.h.size k o → ¬ (d.ws j).2.D d.h.size k o

structure Dk.Ok (d : Dk) : Prop extends Dk.Ok0 d where
  a5 : ∀ i q u, i < d.h.n → d.kept q = some u → ∀ k o, u.D d.h.size k o → ¬ (d.ws i).2.D d.h.size k o

theorem HdAt.at {b y : Nat} {h : Hd} {w w' : World} (hh : HdAt b y h w) (hs : ∀ o, hdO b y b o → w'.cell? ⟨b, o, none⟩ = w.cell? ⟨b, o, none⟩) : HdAt b y h w' := fun j v hj => by
  have hl : j < 8 := by simpa [Hd.vals] using (List.getElem?_eq_some_iff.1 hj).1
  rw [hs _ ⟨rfl, by omega, by omega⟩]; exact hh j v hj

theorem HdAt.chg {b y : Nat} {h : Hd} {w w' : World} {O : Nat → Nat → Prop} (hh : HdAt b y h w) (hc : Chg O w w') (hO : ∀ o, hdO b y b o → ¬ O b o) : HdAt b y h w' := fun j v hj => by
  have hl : j < 8 := by simpa [Hd.vals] using (List.getElem?_eq_some_iff.1 hj).1
  exact cell_of_chg hc (hO _ ⟨rfl, by omega, by omega⟩) (hh j v hj)

theorem HdFree.chg {b y : Nat} {w w' : World} {h : Hd} {O : Nat → Nat → Prop} (hf : HdFree b y w) (hh : HdAt b y h w) (hc : Chg O w w') : HdFree b y w' := fun j hj => by
  rw [frozen_of_chg hc _ (hh.room hf j hj).1]; exact hf j hj

theorem DiskAt.loc {d : Dk} : Eng.Loc d.D (DiskAt d) := by
  intro w w' hs _ h
  have cl : ∀ {k o}, d.D k o → w'.cell? ⟨k, o, none⟩ = w.cell? ⟨k, o, none⟩ ∧ w'.frozen? ⟨k, o, none⟩ = w.frozen? ⟨k, o, none⟩ := fun hd => (hs _ _ hd).1
  have hn := h.nc
  refine ⟨hn, h.hd.at fun o ho => (cl (.inl ho)).1, fun j hj => ?_, h.mp.at (hs d.h.m 0 (.inr (.inl rfl))).2, fun o ho => ?_, fun i hi => ?_, fun i hi => (h.wa i hi).at fun o ho => cl (.inr (.inr (.inr (.inl ⟨i, hi, ho⟩)))), fun q u hq => (h.ka q u hq).at fun o ho => cl (.inr (.inr (.inr (.inr ⟨q, u, hq, ho⟩))))⟩
  · rw [(cl (.inl ⟨rfl, by omega, by omega⟩)).2]; exact h.hf j hj
  · obtain ⟨e1, e2⟩ := cl (k := d.wb) (o := d.wy + o) (.inr (.inr (.inl ⟨rfl, by omega, by omega⟩)))
    rw [e1, e2]; exact h.rm o ho
  · have e1 := (cl (k := d.wb) (o := d.wy + i * 2) (.inr (.inr (.inl ⟨rfl, by omega, by omega⟩)))).1
    have e2 := (cl (k := d.wb) (o := d.wy + i * 2 + 1) (.inr (.inr (.inl ⟨rfl, by omega, by omega⟩)))).1
    rw [e1, e2]; exact h.rw i hi

theorem DiskAt.there {d : Dk} {w : World} (h : DiskAt d w) {k o : Nat} (hd : d.D k o) : There w k o := by
  rcases hd with ⟨rfl, h1, h2⟩ | rfl | ⟨rfl, h1, h2⟩ | ⟨i, hi, hd⟩ | ⟨q, u, hq, hd⟩
  · have := (h.hd.room h.hf (o - d.y) (by omega)).1
    rw [show d.y + (o - d.y) = o by omega] at this
    exact .inl this
  · exact .inr h.mp.ob
  · have := (h.rm (o - d.wy) (by omega)).1
    rw [show d.wy + (o - d.wy) = o by omega] at this
    exact .inl this
  · exact (h.wa i hi).there hd
  · exact (h.ka q u hq).there hd

/-- what stays of a sector -/
def Dk.st (d : Dk) (i : Int) : Nat → Int := match d.kept i with
  | some u => u.f
  | none => fun _ => 0

/-- a region of one's own, made in the body, as what it hands back -/
theorem FreshRet.mk {E : Env} {N : Nums} {rg : List Rg} {w' : World} (hS : Sat E N rg w') {r n x : Nat} {p : Num} {cs cs' : List SV} (hp : N[r]? = some p) (hg : rg[r]? = some ⟨true, cs, none⟩) (h0 : 0 < cs.length) (hx : cs.length ≤ x ∧ x ≤ p.x) (hl : cs'.length = cs.length)
    (hcl : ∀ (j : Nat) (c c' : SV) (v : Value), cs[j]? = some c → cs'[j]? = some c' → c.den N = some v → c'.den [] = some v) (hO : ∀ k o, ¬ E.O k o) {e : Ending} (he : e = .returned (.slice (some ⟨p.b, p.o, none⟩) n x)) : FreshRet cs' n 1 E.W e w' := by
  refine ⟨p.b, p.o, x, by rw [he, Nat.div_one], ?_, by omega, by omega, fun j c' hj => ?_, fun j hj => hS.room r _ p hg hp rfl j (by omega), hS.chg.mono fun k o _ h => hO k o h⟩
  · rcases hS.foot r _ p hg hp rfl with h | h
    · exact h
    · exact absurd (h 0 (by omega)) (hO _ _)
  · have hj2 : j < cs.length := by rw [← hl]; exact (List.getElem?_eq_some_iff.1 hj).1
    obtain ⟨v, h1, h2⟩ := hS.cell r _ p hg hp j _ (List.getElem?_eq_getElem hj2)
    exact ⟨v, hcl j _ c' v (List.getElem?_eq_getElem hj2) hj h1, h2⟩

theorem rep_len (n : Nat) (c : SV) : (Eng.rep n [c]).length = n := by
  induction n with
  | zero => rfl
  | succ n ih => simp only [Eng.rep, List.length_append, ih]; simp; omega
theorem rep_get (n : Nat) (c d : SV) (j : Nat) (h : (Eng.rep n [c])[j]? = some d) : d = c := by
  induction n generalizing j with
  | zero => simp [Eng.rep] at h
  | succ n ih =>
    simp only [Eng.rep, List.singleton_append] at h
    cases j with
    | zero => simp at h; exact h.symm
    | succ j => simp at h; exact ih j h

theorem ro_none {p : Num} {cs : List SV} (k o : Nat) : ¬ InR [p] [⟨false, cs, none⟩] k o := ro_not

set_option maxHeartbeats 4000000 in
set_option maxRecDepth 100000 in
set_option cbv.maxSteps 100000000 in
/-- what stays of a sector: a new row -/
theorem stays_ok (d : Dk) (i : Int) (w : World) (hs : 0 < d.h.size ∧ d.h.size ≤ 1000) (hd : HdAt d.b d.y d.h w) (hm : MapAt d.h.m d.g w) (hk : ∀ u, d.kept i = some u → u.At d.h.size w) :
    Calls Try.prog 43 #[.pointer (some ⟨d.b, d.y, none⟩), .int .i64 i] w (FreshRet (bytesL (d.st i) d.h.size) d.h.size 1 w) := by
  have hob := hm.ob
  refine X.begin (rg := [⟨false, d.h.sv, none⟩]) (N := [⟨d.b, d.y, 8⟩]) (ss := [.own 0 0, .int .i64 (.v i)]) Try.func43 rfl B43_ok rfl rfl (Sat.std1 false hd.lt (hd.cells _) (fun h => by cases h)) ?_
  obtain ⟨size, hsz⟩ : ∃ z, z = d.h.size := ⟨_, rfl⟩
  rw [← hsz] at hs ⊢
  refine X.go T43_ok 400 _ rfl Try.results43 ?_
  conv => arg 2; cbv
  cases hki : d.kept i with
  | none =>
    refine X.lookupI (m := d.h.m) (z := .slice none 0 0) (v := .raw (.slice none 0 0)) (b := false) d.g rfl rfl rfl Try.underlying80 Try.underlying3 (fun w => Try.zeroValue30 w) rfl rfl (fun N w' _ hS => hm.at (objAt_chg hS.chg hob (ro_none _))) (fun N _ => by simp [SV.den, SI.den, Dk.g, hki, one?]) (by simp [SI.den, Dk.g, hki]) rfl ?_
    refine X.go T43_ok 400 _ rfl Try.results43 ?_
    conv => arg 2; cbv
    refine X.makeN T43_ok (m := size) (te := ti5) rfl rfl rfl rfl rfl (by simp [SI.den, hsz]) (by simp [SI.den, hsz]) rfl rfl rfl (by decide) rfl (by omega) (by show 1 * size ≤ _; omega) rfl ?_
    obtain ⟨cs, hcs⟩ : ∃ cs, cs = Eng.rep size (ti5).zero := ⟨_, rfl⟩
    rw [← hcs]
    refine X.go T43_ok 400 _ rfl Try.results43 ?_
    conv => arg 2; cbv
    refine X.done T43_ok rfl (fun N w' v hN hS hv => ?_)
    obtain ⟨p, hp⟩ : ∃ p, N[1]? = some p := ⟨_, List.getElem?_eq_getElem (by rw [hS.len]; simp)⟩
    have hext := hS.ext 1 ⟨true, cs, none⟩ p rfl hp rfl
    have hcs' : cs = Eng.rep size [.int .u8 (.lit 0)] := hcs
    have hlen : cs.length = size := by rw [hcs', rep_len]
    simp only [hlen] at hext
    simp only [resV, SV.den, hp, Num.cap, Option.some.injEq, Nat.add_zero] at hv
    refine FreshRet.mk hS (r := 1) (cs := cs) hp rfl (by omega) ⟨by omega, hext⟩ (by rw [hlen, bytesL_len]) (fun j c c' v h1 h2 h3 => ?_) ro_none (by rw [← hv])
    obtain ⟨_, rfl⟩ := bytesL_get _ _ _ _ h2
    rw [hcs'] at h1
    rw [rep_get _ _ _ _ h1] at h3
    simpa [SV.den, SI.den, Dk.st, hki] using h3
  | some u =>
    have hu := hk u hki
    refine X.lookupI (m := d.h.m) (z := .slice none 0 0) (v := .slv (some ⟨u.k, u.y, none⟩) size u.cp) (b := true) d.g rfl rfl rfl Try.underlying80 Try.underlying3 (fun w => Try.zeroValue30 w) rfl rfl (fun N w' _ hS => hm.at (objAt_chg hS.chg hob (ro_none _))) (fun N _ => by simp [SV.den, SI.den, Dk.g, hki, By.val, hsz]) (by simp [SI.den, Dk.g, hki]) rfl ?_
    refine X.go T43_ok 400 _ rfl Try.results43 ?_
    conv => arg 2; cbv
    refine X.call rfl rfl rfl rfl Try.call39 (fun N w1 args hN hS ha => ?_)
    simp only [SV.denL, SV.den, Option.some.injEq] at ha
    subst ha
    obtain ⟨cs, hcs⟩ : ∃ cs, cs = bytesL u.f size := ⟨_, rfl⟩
    refine (cloneB_ok u.k u.y size u.cp u.f w1 (by omega) hs.2 (fun j hj => ?_)).mono fun e w2 hf => Goes.fresh (cs := cs) hN hS (by rw [hcs]; exact hf) rfl ?_
    · refine hS.imm _ _ _ ?_
      show elsewhere _ _ w u.k (u.y + j) = _
      rw [elsewhere, if_neg (ro_none _ _)]
      exact hu.bytes j (by rw [← hsz]; exact hj)
    refine X.go T43_ok 400 _ rfl Try.results43 ?_
    conv => arg 2; cbv
    refine X.done T43_ok rfl (fun N w' v hN hS hv => ?_)
    obtain ⟨p, hp⟩ : ∃ p, N[1]? = some p := ⟨_, List.getElem?_eq_getElem (by rw [hS.len]; simp)⟩
    have hext := hS.ext 1 ⟨true, cs, none⟩ p rfl hp rfl
    have hlen : cs.length = size := by rw [hcs, bytesL_len]
    simp only [hlen] at hext
    simp only [resV, SV.den, hp, Num.cap, Option.some.injEq, Nat.add_zero, Nat.sub_zero, Nat.div_one] at hv
    refine FreshRet.mk hS (r := 1) (cs := cs) hp rfl (by omega) ⟨by omega, Nat.le_refl _⟩ (by rw [hlen, bytesL_len]) (fun j c c' v h1 h2 h3 => ?_) ro_none (by rw [← hv])
    rw [hcs] at h1
    obtain ⟨_, rfl⟩ := bytesL_get _ _ _ _ h1
    obtain ⟨_, rfl⟩ := bytesL_get _ _ _ _ h2
    simpa [SV.den, SI.den, Dk.st, hki] using h3

end Go.Proofs.Ytkjhpaeminegoaa
