import Derived.Test.YtkjhpaeminegoaaSe2
import Derived.RangeFuncNested
import Derived.RangeFuncBound
import Derived.RangeFuncCalls
import Derived.RangeFuncLeaves
import Derived.Shelf.Abstract
import Derived.Shelf.RegionOpen
import Derived.WalkKit
import Derived.OwnWalkIn
import Derived.TacticsInMore
import Derived.LoopNIn
import Derived.LoopIn

namespace Go.Proofs.Ytkjhpaeminegoaa
open Go.Eng
structure By where
  (k y cp : Nat) (f : Nat → Int)
def By.val (u : By) (z : Nat) : Value := .slice (some ⟨u.k, u.y, none⟩) z u.cp
def By.D (u : By) (z k o : Nat) : Prop := k = u.k ∧ u.y ≤ o ∧ o < u.y + z
structure By.At (u : By) (z : Nat) (w : World) : Prop where
  cap : z ≤ u.cp
  bytes : BytesAt u.k u.y z u.f w
  free : ∀ j, j < z → w.frozen? ⟨u.k, u.y + j, none⟩ = false
theorem By.At.at {u : By} {z : Nat} {w w' : World} (h : u.At z w) (hs : ∀ o, u.D z u.k o → w'.cell? ⟨u.k, o, none⟩ = w.cell? ⟨u.k, o, none⟩ ∧ w'.frozen? ⟨u.k, o, none⟩ = w.frozen? ⟨u.k, o, none⟩) : u.At z w' :=
  ⟨h.cap, fun j hj => by rw [(hs _ ⟨rfl, by omega, by omega⟩).1]; exact h.bytes j hj, fun j hj => by rw [(hs _ ⟨rfl, by omega, by omega⟩).2]; exact h.free j hj⟩
theorem By.At.chg {u : By} {z : Nat} {w w' : World} {O : Nat → Nat → Prop} (h : u.At z w) (hc : Chg O w w') (hO : ∀ o, u.D z u.k o → ¬ O u.k o) : u.At z w' :=
  ⟨h.cap, fun j hj => cell_of_chg hc (hO _ ⟨rfl, by omega, by omega⟩) (h.bytes j hj), fun j hj => by rw [frozen_of_chg hc _ (by rw [h.bytes j hj]; rfl)]; exact h.free j hj⟩
theorem By.At.there {u : By} {z : Nat} {w : World} (h : u.At z w) {k o : Nat} (hd : u.D z k o) : There w k o := by
  obtain ⟨rfl, h1, h2⟩ := hd
  have := h.bytes (o - u.y) (by omega)
  rw [show u.y + (o - u.y) = o by omega] at this
  exact .inl (by rw [this]; rfl)
structure Dk where
  (b y : Nat) (h : Hd) (wb wy : Nat) (ws : Nat → Int × By) (kept : Int → Option By)
def Dk.rowD (d : Dk) (k o : Nat) : Prop := k = d.wb ∧ d.wy ≤ o ∧ o < d.wy + d.h.cp * 2
def Dk.D (d : Dk) (k o : Nat) : Prop :=
  hdO d.b d.y k o ∨ k = d.h.m ∨ d.rowD k o ∨ (∃ i, i < d.h.n ∧ (d.ws i).2.D d.h.size k o) ∨ ∃ q u, d.kept q = some u ∧ u.D d.h.size k o
def Dk.g (d : Dk) : Int → Option Value := fun q => (d.kept q).map (·.val d.h.size)
structure DiskAt (d : Dk) (w : World) : Prop where
  nc : d.h.n ≤ d.h.cp
  hd : HdAt d.b d.y d.h w
  hf : HdFree d.b d.y w
  mp : MapAt d.h.m d.g w
  rm : ∀ o, o < d.h.cp * 2 → (w.cell? ⟨d.wb, d.wy + o, none⟩).isSome = true ∧ w.frozen? ⟨d.wb, d.wy + o, none⟩ = false
  rw : ∀ i, i < d.h.n → w.cell? ⟨d.wb, d.wy + i * 2, none⟩ = some (.int .i64 (d.ws i).1) ∧ w.cell? ⟨d.wb, d.wy + i * 2 + 1, none⟩ = some ((d.ws i).2.val d.h.size)
  wa : ∀ i, i < d.h.n → (d.ws i).2.At d.h.size w
  ka : ∀ q u, d.kept q = some u → u.At d.h.size w
structure Dk.Ok0 (d : Dk) : Prop where
  sz : 64 ≤ d.h.size ∧ d.h.size ≤ 512
  ct : 1 ≤ d.h.count ∧ d.h.count ≤ 4096
  nn : d.h.n ≤ 1000
  po : (d.h.po = none ∧ d.h.n = 0 ∧ d.h.cp = 0) ∨ (d.h.po = some ⟨d.wb, d.wy, none⟩ ∧ 0 < d.h.cp)
  wi : ∀ i, i < d.h.n → 0 ≤ (d.ws i).1 ∧ (d.ws i).1 < d.h.count
  a1 : ∀ k o, hdO d.b d.y k o → ¬ d.rowD k o
  a2 : ∀ i, i < d.h.n → ∀ k o, (d.ws i).2.D d.h.size k o → ¬ hdO d.b d.y k o ∧ ¬ d.rowD k o
  a3 : ∀ q u, d.kept q = some u → ∀ k o, u.D d.h.size k o → ¬ hdO d.b d.y k o ∧ ¬ d.rowD k o
  a4 : ∀ i j, i < d.h.n → j < d.h.n → i ≠ j → ∀ k o, (d.ws i).2.D d.h.size k o → ¬ (d.ws j).2.D d.h.size k o
structure Dk.Ok (d : Dk) : Prop extends Dk.Ok0 d where
  a5 : ∀ i q u, i < d.h.n → d.kept q = some u → ∀ k o, u.D d.h.size k o → ¬ (d.ws i).2.D d.h.size k o
theorem HdAt.at {b y : Nat} {h : Hd} {w w' : World} (hh : HdAt b y h w) (hs : ∀ o, hdO b y b o → w'.cell? ⟨b, o, none⟩ = w.cell? ⟨b, o, none⟩) : HdAt b y h w' := fun j v hj => by
  have hl : j < 8 := by simpa [Hd.vals] using (List.getElem?_eq_some_iff.1 hj).1
  rw [hs _ ⟨rfl, by omega, by omega⟩]; exact hh j v hj
theorem HdAt.chg {b y : Nat} {h : Hd} {w w' : World} {O : Nat → Nat → Prop} (hh : HdAt b y h w) (hc : Chg O w w') (hO : ∀ o, hdO b y b o → ¬ O b o) : HdAt b y h w' := fun j v hj => by
  have hl : j < 8 := by simpa [Hd.vals] using (List.getElem?_eq_some_iff.1 hj).1
  exact cell_of_chg hc (hO _ ⟨rfl, by omega, by omega⟩) (hh j v hj)
theorem HdFree.chg {b y : Nat} {w w' : World} {h : Hd} {O : Nat → Nat → Prop} (hf : HdFree b y w) (hh : HdAt b y h w) (hc : Chg O w w') : HdFree b y w' := fun j hj => by
  rw [frozen_of_chg hc _ (hh.room hf j hj).1]; exact hf j hj
theorem DiskAt.loc {d : Dk} : Eng.Loc d.D (DiskAt d) := by
  intro w w' hs _ h
  have cl : ∀ {k o}, d.D k o → w'.cell? ⟨k, o, none⟩ = w.cell? ⟨k, o, none⟩ ∧ w'.frozen? ⟨k, o, none⟩ = w.frozen? ⟨k, o, none⟩ := fun hd => (hs _ _ hd).1
  have hn := h.nc
  refine ⟨hn, h.hd.at fun o ho => (cl (.inl ho)).1, fun j hj => ?_, h.mp.at (hs d.h.m 0 (.inr (.inl rfl))).2, fun o ho => ?_, fun i hi => ?_, fun i hi => (h.wa i hi).at fun o ho => cl (.inr (.inr (.inr (.inl ⟨i, hi, ho⟩)))), fun q u hq => (h.ka q u hq).at fun o ho => cl (.inr (.inr (.inr (.inr ⟨q, u, hq, ho⟩))))⟩
  · rw [(cl (.inl ⟨rfl, by omega, by omega⟩)).2]; exact h.hf j hj
  · obtain ⟨e1, e2⟩ := cl (k := d.wb) (o := d.wy + o) (.inr (.inr (.inl ⟨rfl, by omega, by omega⟩)))
    rw [e1, e2]; exact h.rm o ho
  · have e1 := (cl (k := d.wb) (o := d.wy + i * 2) (.inr (.inr (.inl ⟨rfl, by omega, by omega⟩)))).1
    have e2 := (cl (k := d.wb) (o := d.wy + i * 2 + 1) (.inr (.inr (.inl ⟨rfl, by omega, by omega⟩)))).1
    rw [e1, e2]; exact h.rw i hi
theorem DiskAt.there {d : Dk} {w : World} (h : DiskAt d w) {k o : Nat} (hd : d.D k o) : There w k o := by
  rcases hd with ⟨rfl, h1, h2⟩ | rfl | ⟨rfl, h1, h2⟩ | ⟨i, hi, hd⟩ | ⟨q, u, hq, hd⟩
  · have := (h.hd.room h.hf (o - d.y) (by omega)).1
    rw [show d.y + (o - d.y) = o by omega] at this
    exact .inl this
  · exact .inr h.mp.ob
  · have := (h.rm (o - d.wy) (by omega)).1
    rw [show d.wy + (o - d.wy) = o by omega] at this
    exact .inl this
  · exact (h.wa i hi).there hd
  · exact (h.ka q u hq).there hd
def Dk.st (d : Dk) (i : Int) : Nat → Int := match d.kept i with
  | some u => u.f
  | none => fun _ => 0
theorem FreshRet.mk {E : Env} {N : Nums} {rg : List Rg} {w' : World} (hS : Sat E N rg w') {r n x : Nat} {p : Num} {cs cs' : List SV} (hp : N[r]? = some p) (hg : rg[r]? = some ⟨true, cs, none⟩) (h0 : 0 < cs.length) (hx : cs.length ≤ x ∧ x ≤ p.x) (hl : cs'.length = cs.length)
    (hcl : ∀ (j : Nat) (c c' : SV) (v : Value), cs[j]? = some c → cs'[j]? = some c' → c.den N = some v → c'.den [] = some v) (hO : ∀ k o, ¬ E.O k o) {e : Ending} (he : e = .returned (.slice (some ⟨p.b, p.o, none⟩) n x)) : FreshRet cs' n 1 E.W e w' := by
  refine ⟨p.b, p.o, x, by rw [he, Nat.div_one], ?_, by omega, by omega, fun j c' hj => ?_, fun j hj => hS.room r _ p hg hp rfl j (by omega), hS.chg.mono fun k o _ h => hO k o h⟩
  · rcases hS.foot r _ p hg hp rfl with h | h
    · exact h
    · exact absurd (h 0 (by omega)) (hO _ _)
  · have hj2 : j < cs.length := by rw [← hl]; exact (List.getElem?_eq_some_iff.1 hj).1
    obtain ⟨v, h1, h2⟩ := hS.cell r _ p hg hp j _ (List.getElem?_eq_getElem hj2)
    exact ⟨v, hcl j _ c' v (List.getElem?_eq_getElem hj2) hj h1, h2⟩
theorem rep_len (n : Nat) (c : SV) : (Eng.rep n [c]).length = n := by
  induction n with
  | zero => rfl
  | succ n ih => simp only [Eng.rep, List.length_append, ih]; simp; omega
theorem rep_get (n : Nat) (c d : SV) (j : Nat) (h : (Eng.rep n [c])[j]? = some d) : d = c := by
  induction n generalizing j with
  | zero => simp [Eng.rep] at h
  | succ n ih =>
    simp only [Eng.rep, List.singleton_append] at h
    cases j with
    | zero => simp at h; exact h.symm
    | succ j => simp at h; exact ih j h
theorem ro_none {p : Num} {cs : List SV} (k o : Nat) : ¬ InR [p] [⟨false, cs, none⟩] k o := ro_not
set_option maxHeartbeats 4000000 in
set_option maxRecDepth 100000 in
set_option cbv.maxSteps 100000000 in
theorem stays_ok (d : Dk) (i : Int) (w : World) (hs : 0 < d.h.size ∧ d.h.size ≤ 1000) (hd : HdAt d.b d.y d.h w) (hm : MapAt d.h.m d.g w) (hk : ∀ u, d.kept i = some u → u.At d.h.size w) :
    Calls Try.prog 43 #[.pointer (some ⟨d.b, d.y, none⟩), .int .i64 i] w (FreshRet (bytesL (d.st i) d.h.size) d.h.size 1 w) := by
  have hob := hm.ob
  refine X.begin (rg := [⟨false, d.h.sv, none⟩]) (N := [⟨d.b, d.y, 8⟩]) (ss := [.own 0 0, .int .i64 (.v i)]) Try.func43 rfl B43_ok rfl rfl (Sat.std1 false hd.lt (hd.cells _) (fun h => by cases h)) ?_
  obtain ⟨size, hsz⟩ : ∃ z, z = d.h.size := ⟨_, rfl⟩
  rw [← hsz] at hs ⊢
  refine X.go T43_ok 400 _ rfl Try.results43 ?_
  conv => arg 2; cbv
  cases hki : d.kept i with
  | none =>
    refine X.lookupI (m := d.h.m) (z := .slice none 0 0) (v := .raw (.slice none 0 0)) (b := false) d.g rfl rfl rfl Try.underlying80 Try.underlying3 (fun w => Try.zeroValue30 w) rfl rfl (fun N w' _ hS => hm.at (objAt_chg hS.chg hob (ro_none _))) (fun N _ => by simp [SV.den, SI.den, Dk.g, hki, one?]) (by simp [SI.den, Dk.g, hki]) rfl ?_
    refine X.go T43_ok 400 _ rfl Try.results43 ?_
    conv => arg 2; cbv
    refine X.makeN T43_ok (m := size) (te := ti5) rfl rfl rfl rfl rfl (by simp [SI.den, hsz]) (by simp [SI.den, hsz]) rfl rfl rfl (by decide) rfl (by omega) (by show 1 * size ≤ _; omega) rfl ?_
    obtain ⟨cs, hcs⟩ : ∃ cs, cs = Eng.rep size (ti5).zero := ⟨_, rfl⟩
    rw [← hcs]
    refine X.go T43_ok 400 _ rfl Try.results43 ?_
    conv => arg 2; cbv
    refine X.done T43_ok rfl (fun N w' v hN hS hv => ?_)
    obtain ⟨p, hp⟩ : ∃ p, N[1]? = some p := ⟨_, List.getElem?_eq_getElem (by rw [hS.len]; simp)⟩
    have hext := hS.ext 1 ⟨true, cs, none⟩ p rfl hp rfl
    have hcs' : cs = Eng.rep size [.int .u8 (.lit 0)] := hcs
    have hlen : cs.length = size := by rw [hcs', rep_len]
    simp only [hlen] at hext
    simp only [resV, SV.den, hp, Num.cap, Option.some.injEq, Nat.add_zero] at hv
    refine FreshRet.mk hS (r := 1) (cs := cs) hp rfl (by omega) ⟨by omega, hext⟩ (by rw [hlen, bytesL_len]) (fun j c c' v h1 h2 h3 => ?_) ro_none (by rw [← hv])
    obtain ⟨_, rfl⟩ := bytesL_get _ _ _ _ h2
    rw [hcs'] at h1
    rw [rep_get _ _ _ _ h1] at h3
    simpa [SV.den, SI.den, Dk.st, hki] using h3
  | some u =>
    have hu := hk u hki
    refine X.lookupI (m := d.h.m) (z := .slice none 0 0) (v := .slv (some ⟨u.k, u.y, none⟩) size u.cp) (b := true) d.g rfl rfl rfl Try.underlying80 Try.underlying3 (fun w => Try.zeroValue30 w) rfl rfl (fun N w' _ hS => hm.at (objAt_chg hS.chg hob (ro_none _))) (fun N _ => by simp [SV.den, SI.den, Dk.g, hki, By.val, hsz]) (by simp [SI.den, Dk.g, hki]) rfl ?_
    refine X.go T43_ok 400 _ rfl Try.results43 ?_
    conv => arg 2; cbv
    refine X.call rfl rfl rfl rfl Try.call39 (fun N w1 args hN hS ha => ?_)
    simp only [SV.denL, SV.den, Option.some.injEq] at ha
    subst ha
    obtain ⟨cs, hcs⟩ : ∃ cs, cs = bytesL u.f size := ⟨_, rfl⟩
    refine (cloneB_ok u.k u.y size u.cp u.f w1 (by omega) hs.2 (fun j hj => ?_)).mono fun e w2 hf => Goes.fresh (cs := cs) hN hS (by rw [hcs]; exact hf) rfl ?_
    · refine hS.imm _ _ _ ?_
      show elsewhere _ _ w u.k (u.y + j) = _
      rw [elsewhere, if_neg (ro_none _ _)]
      exact hu.bytes j (by rw [← hsz]; exact hj)
    refine X.go T43_ok 400 _ rfl Try.results43 ?_
    conv => arg 2; cbv
    refine X.done T43_ok rfl (fun N w' v hN hS hv => ?_)
    obtain ⟨p, hp⟩ : ∃ p, N[1]? = some p := ⟨_, List.getElem?_eq_getElem (by rw [hS.len]; simp)⟩
    have hext := hS.ext 1 ⟨true, cs, none⟩ p rfl hp rfl
    have hlen : cs.length = size := by rw [hcs, bytesL_len]
    simp only [hlen] at hext
    simp only [resV, SV.den, hp, Num.cap, Option.some.injEq, Nat.add_zero, Nat.sub_zero, Nat.div_one] at hv
    refine FreshRet.mk hS (r := 1) (cs := cs) hp rfl (by omega) ⟨by omega, Nat.le_refl _⟩ (by rw [hlen, bytesL_len]) (fun j c c' v h1 h2 h3 => ?_) ro_none (by rw [← hv])
    rw [hcs] at h1
    obtain ⟨_, rfl⟩ := bytesL_get _ _ _ _ h1
    obtain ⟨_, rfl⟩ := bytesL_get _ _ _ _ h2
    simpa [SV.den, SI.den, Dk.st, hki] using h3
end Go.Proofs.Ytkjhpaeminegoaa

namespace Go.Proofs.Ytkjhpaeminegoaa
open Go.Eng
def wv (size : Nat) (x : Int × By) : Value := .agg #[.int .i64 x.1, x.2.val size]
def wsv (size : Nat) (x : Int × By) : List SV := [.int .i64 (.v x.1), .slv (some ⟨x.2.k, x.2.y, none⟩) size x.2.cp]
def updK (kept : Int → Option By) (q : Int) (u : By) : Int → Option By := fun i => if i = q then some u else kept i
def settleK (kept : Int → Option By) (ws : Nat → Int × By) (i0 : Nat) : Nat → Int → Option By
  | 0 => kept
  | j + 1 => updK (settleK kept ws i0 j) (ws (i0 + j)).1 (ws (i0 + j)).2
def Dk.settled (d : Dk) (i0 n : Nat) : Dk := { d with kept := settleK d.kept d.ws i0 n }
def bufV (size : Nat) (ws : Nat → Int × By) (i0 n : Nat) : List Value := (List.range n).map fun j => wv size (ws (i0 + j))
def gK (size : Nat) (kept : Int → Option By) : Int → Option Value := fun q => (kept q).map (·.val size)
theorem hwrap64s (i : Nat) (h : i < 1000000) : IntKind.i64.wrap ((i : Int) + 1) = ((i + 1 : Nat) : Int) := by
  simp [IntKind.wrap, IntKind.bits, IntKind.signed]; omega
set_option maxHeartbeats 4000000 in
set_option maxRecDepth 100000 in
set_option cbv.maxSteps 100000000 in
theorem settle_ok (d : Dk) (i0 n : Nat) (pl : Option Addr) (cl : Nat) (w : World) (hd : HdAt d.b d.y d.h w) (hm : MapAt d.h.m d.g w) (hn : n ≤ 1000) (hpl : 0 < n → pl = some ⟨d.wb, d.wy + i0 * 2, none⟩)
    (hrow : ∀ i, i < n → w.cell? ⟨d.wb, d.wy + (i0 + i) * 2, none⟩ = some (.int .i64 (d.ws (i0 + i)).1) ∧ w.cell? ⟨d.wb, d.wy + (i0 + i) * 2 + 1, none⟩ = some ((d.ws (i0 + i)).2.val d.h.size)) :
    Calls Try.prog 41 #[.pointer (some ⟨d.b, d.y, none⟩), .slice pl n cl] w fun e w' => e = .returned (.tuple #[]) ∧ MapAt d.h.m (d.settled i0 n).g w' ∧ Chg (fun k _ => k = d.h.m) w w' := by
  have hob := hm.ob
  have hml := objAt_lt hob
  have him : ∀ {k o v}, w.cell? ⟨k, o, none⟩ = some v → outside (fun k _ => k = d.h.m) w k o = some v := fun {k o v} h => by
    rw [outside_out (fun e => by
      obtain ⟨x, hx⟩ := Option.isSome_iff_exists.1 hob
      subst e
      rw [cell_obj hx] at h; cases h)]; exact h
  obtain ⟨m, hmm⟩ : ∃ m, m = d.h.m := ⟨_, rfl⟩
  obtain ⟨size, hsz⟩ : ∃ z, z = d.h.size := ⟨_, rfl⟩
  rw [← hmm] at hob hml him ⊢
  have hm0 : MapAt m (gK size d.kept) w := by rw [hmm, hsz]; exact hm
  obtain ⟨a0, ha0⟩ : ∃ z : Int, z = d.h.size := ⟨_, rfl⟩
  obtain ⟨a1, ha1⟩ : ∃ z : Int, z = d.h.count := ⟨_, rfl⟩
  obtain ⟨Q, hQ⟩ : ∃ Q : Ending → World → Prop, Q = fun e w' => e = .returned (.tuple #[]) ∧ MapAt m (d.settled i0 n).g w' ∧ Chg (fun k _ => k = m) w w' := ⟨_, rfl⟩
  rw [← hQ]
  refine X.beginR (fun k _ => k = m) (MapAt m (gK size d.kept)) (ss := [.ext d.b d.y 0, .slv pl n cl]) Try.func41 rfl B41_ok rfl rfl (fun k o e => .inr (by subst e; exact hob)) (fun w1 w2 hs _ h => h.at (hs _ 0 rfl).2) hm0 ?_
  obtain ⟨im, hime⟩ : ∃ im, im = outside (fun k _ => k = m) w := ⟨_, rfl⟩
  have himm : ∀ o, im m o = none := fun o => by rw [hime]; exact outside_in rfl
  rw [← hime] at him
  show X (mkE Try.prog Try.f41 Q w (fun k _ => k = m) (outside (fun k _ => k = m) w) (fun k _ => k = m) (MapAt m (gK size d.kept)) [] B41) _ _
  rw [← hime]
  refine X.go T41_ok 400 _ rfl Try.results41 ?_
  conv => arg 2; cbv
  refine X.newR (.chan n #[] false 0 0 false) trivial (fun b => .chan (some b)) (fun _ => rfl) rfl rfl (fun N a w1 hN hf hS => ?_) (fun b => rfl) (fun ch hch hchi hchD => ?_)
  · have h9 : a.eval (.tmp 9) = .int .i64 (n : Nat) := by
      have := ev_sound hf (o := .tmp 9) (s := .int .i64 (.nat n)) rfl
      simpa [SV.den, SI.den] using this.symm
    obtain ⟨i, hi, hib⟩ := (T41_ok.ok 87 ti87 rfl).info
    have := Conc.run_makeChan (P := Try.prog) (w := w1) Try.underlying113 hi .i64 n (by omega) (by rw [hib]; show (32 : Int) * n ≤ _; omega)
    simp only [execOp, h9, this, Sem.run_bind, Sem.run_pure, Result.andThen]
  have hch : w.heap.size ≤ ch := hch
  have hchm : ch ≠ m := by omega
  obtain ⟨D2, hD2⟩ : ∃ D2 : Nat → Nat → Prop, D2 = fun k _ => k = m ∨ k = ch := ⟨_, rfl⟩
  have hDO : ∀ k o, D2 k o → w.heap.size ≤ k ∨ k = m := fun k o h => by
    rw [hD2] at h
    rcases h with h | h
    · exact .inr h
    · exact .inl (by omega)
  have hDi : ∀ k o, D2 k o → im k o = none := fun k o h => by
    rw [hD2] at h
    rcases h with h | h
    · rw [h]; exact himm o
    · rw [h]; exact hchi o
  show X (mkE Try.prog Try.f41 Q w (fun k _ => k = m) im (fun k _ => k = m ∨ k = ch) (fun w => MapAt m (gK size d.kept) w ∧ objAt w ch = some (.chan n #[] false 0 0 false)) [] B41) _ _
  rw [← hD2]
  have hloc : ∀ (g : Int → Option Value) (x : Obj), Eng.Loc D2 (fun w => MapAt m g w ∧ objAt w ch = some x) := fun g x w1 w2 hs _ h => by
    rw [hD2] at hs
    exact ⟨h.1.at (hs m 0 (.inl rfl)).2, by rw [(hs ch 0 (.inr rfl)).2]; exact h.2⟩
  refine X.go T41_ok 400 _ rfl Try.results41 ?_
  conv => arg 2; cbv
  -- the sends
  refine X.loop (E := mkE Try.prog Try.f41 Q w (fun k _ => k = m) im D2 (fun w => MapAt m (gK size d.kept) w ∧ objAt w ch = some (.chan n #[] false 0 0 false)) [] B41)
    (fun i : {i : Nat // i ≤ n} => mkE Try.prog Try.f41 Q w (fun k _ => k = m) im D2 (fun w => MapAt m (gK size d.kept) w ∧ objAt w ch = some (.chan n (bufV size d.ws i0 i.1).toArray false i.1 0 false)) [] B41)
    (fun i => ⟨[(0, .val (.ext d.b d.y 0)), (4, .val (.raw (.chan (some ch)))), (11, .val (.slv pl n cl)), (12, .val (.int .i64 (.nat n))), (13, .val (.int .i64 (.nat i.1)))], []⟩) (fun i => n - i.1) (fun i => ⟨rfl, rfl, rfl, rfl⟩) (fun N a w' hN hf hS => ⟨⟨0, Nat.zero_le _⟩, ?_⟩) (fun i q hq => ?_)
  · exact At.same hN hf hS (Nat.zero_le _) ⟨⟨_, rfl, .inl ⟨rfl, rfl⟩⟩, ⟨_, rfl, .inl ⟨rfl, rfl⟩⟩, ⟨_, rfl, .inl ⟨rfl, rfl⟩⟩, ⟨_, rfl, .inl ⟨rfl, rfl⟩⟩, ⟨_, rfl, .inr ⟨_, rfl, rfl⟩⟩, trivial⟩ trivial
  obtain ⟨i, hi⟩ := i
  refine X.go T41_ok 400 _ rfl Try.results41 ?_
  conv => arg 2; cbv
  refine X.cond rfl (fun hlt => ?_) (fun hge => ?_)
  · simp only [SB.T, SI.den] at hlt
    have hlt : i < n := by omega
    refine X.go T41_ok 400 _ rfl Try.results41 ?_
    conv => arg 2; cbv
    have hr := hrow i hlt
    rw [← hsz] at hr
    obtain ⟨x, hx⟩ : ∃ x, x = d.ws (i0 + i) := ⟨_, rfl⟩
    rw [← hx] at hr
    obtain ⟨xi, uk, uy, ucp, uf⟩ := x
    obtain ⟨z, hz⟩ : ∃ z, z = d.wy + (i0 + i) * 2 := ⟨_, rfl⟩
    rw [← hz] at hr
    refine X.idxSlv rfl rfl rfl rfl rfl Try.underlying81 Try.sizeOf87 i rfl hlt d.wb (d.wy + i0 * 2) z (hpl (by omega)) (by omega) rfl ?_
    refine X.loadN T41_ok (rs := [.int .i64 (.v xi), .slv (some ⟨uk, uy, none⟩) size ucp]) rfl rfl rfl rfl rfl rfl rfl (fun N _ => ⟨[.int .i64 xi, .slice (some ⟨uk, uy, none⟩) size ucp], rfl, fun j v hj => ?_⟩) rfl ?_
    · show im d.wb (z + 0 + j) = _
      match j, hj with
      | 0, hj => simp at hj; subst hj; exact him hr.1
      | 1, hj => simp at hj; subst hj; exact him hr.2
      | j + 2, hj => simp at hj
    refine X.go T41_ok 3 _ rfl Try.results41 ?_
    conv => arg 2; cbv
    refine X.reg (XS.move rfl rfl rfl rfl rfl (XS.load T41_ok rfl rfl rfl rfl rfl rfl (XS.sendR (fun w => MapAt m (gK size d.kept) w ∧ objAt w ch = some (.chan n (bufV size d.ws i0 (i + 1)).toArray false (i + 1) 0 false)) ch rfl rfl rfl rfl rfl
      ⟨0, by rw [hD2]; exact .inr rfl⟩ hDO hDi (fun g hg => by simp at hg; subst hg; exact .inl rfl) (hloc _ _) (fun N w1 v hN hR hv => ?_) rfl (XS.toX ?_))))
    · obtain ⟨h1, h2⟩ := hR
      have hv' : Value.agg #[.int .i64 xi, .slice (some ⟨uk, uy, none⟩) size ucp] = v := Option.some.inj hv
      have hlt2 := objAt_lt (by rw [h2]; rfl)
      refine ⟨n, _, i, 0, heap_objAt h2, by simp [bufV]; exact hlt, h1.at (objAt_put_ne (fun e => hchm e.symm)), ?_⟩
      rw [objAt_put_same hlt2 (show notCells (.chan _ _ _ _ _ _) from trivial), ← hv']
      simp [bufV, List.range_succ, ← hx, wv, By.val]
    show X (mkE Try.prog Try.f41 Q w (fun k _ => k = m) im D2 (fun w => MapAt m (gK size d.kept) w ∧ objAt w ch = some (.chan n (bufV size d.ws i0 (i + 1)).toArray false (i + 1) 0 false)) [] B41) _ _
    refine X.go T41_ok 400 _ rfl Try.results41 ?_
    conv => arg 2; cbv
    refine X.back (fun N a w' hN hf hS => hq ⟨i + 1, by omega⟩ a w' (by simp only; omega) ?_)
    exact At.same hN hf hS (Nat.zero_le _) ⟨⟨_, rfl, .inl ⟨rfl, rfl⟩⟩, ⟨_, rfl, .inl ⟨rfl, rfl⟩⟩, ⟨_, rfl, .inl ⟨rfl, rfl⟩⟩, ⟨_, rfl, .inl ⟨rfl, rfl⟩⟩, ⟨_, rfl, .inr ⟨_, rfl, by simp [SV.den, SI.den, hwrap64s i (by omega)]⟩⟩, trivial⟩ trivial
  · simp only [SB.F, SI.den] at hge
    obtain rfl : i = n := by omega
    refine X.go T41_ok 400 _ rfl Try.results41 ?_
    conv => arg 2; cbv
    have hbl : (bufV size d.ws i0 i).length = i := by simp [bufV]
    refine X.putR (fun w => MapAt m (gK size d.kept) w ∧ objAt w ch = some (.chan i (bufV size d.ws i0 i).toArray true i 0 false)) ch (.tup []) rfl rfl ⟨0, by rw [hD2]; exact .inr rfl⟩ hDO hDi (fun g hg => by simp at hg) (hloc _ _) (fun N a w1 hN hf hS => ?_) rfl ?_
    · have h20 : a.eval (.tmp 20) = .chan (some ch) := by
        have := ev_sound hf (o := .tmp 20) (s := .raw (.chan (some ch))) rfl
        simpa [SV.den, one?] using this.symm
      obtain ⟨h1, h2⟩ := hS.res
      have hlt2 := objAt_lt (by rw [h2]; rfl)
      refine ⟨.chan i (bufV size d.ws i0 i).toArray true i 0 false, .tuple #[], ?_, rfl, by rw [h2]; rfl, trivial, h1.at (objAt_put_ne (fun e => hchm e.symm)), objAt_put_same hlt2 trivial⟩
      simp [execOp, resolve, invoke, builtin, h20, Go.run_close_open _ _ (heap_objAt h2), Result.andThen, putOb]
    refine X.go T41_ok 400 _ rfl Try.results41 ?_
    conv => arg 2; cbv
    clear hn hq hge
    obtain ⟨bufs, hbufs⟩ : ∃ bufs, bufs = bufV size d.ws i0 i := ⟨_, rfl⟩
    rw [← hbufs] at hbl
    rw [← hbufs]
    have hbg : ∀ q, q < i → bufs[q]? = some (wv size (d.ws (i0 + q))) := fun q hq => by
      rw [hbufs]; simp [bufV, List.getElem?_range hq]
    refine X.loop (E := mkE Try.prog Try.f41 Q w (fun k _ => k = m) im D2 (fun w => MapAt m (gK size d.kept) w ∧ objAt w ch = some (.chan i bufs.toArray true i 0 false)) [] B41)
      (fun j : {j : Nat // j ≤ i} => mkE Try.prog Try.f41 Q w (fun k _ => k = m) im D2 (fun w => MapAt m (gK size (settleK d.kept d.ws i0 j.1)) w ∧ objAt w ch = some (.chan i (bufs.drop j.1).toArray true i j.1 false)) [] B41)
      (fun _ => ⟨[(0, .val (.ext d.b d.y 0)), (21, .val (.raw (.chan (some ch))))], []⟩) (fun j => i - j.1) (fun j => ⟨rfl, rfl, rfl, rfl⟩) (fun N a w' hN hf hS => ⟨⟨0, Nat.zero_le _⟩, ?_⟩) (fun j q hq => ?_)
    · exact At.same hN hf hS (Nat.zero_le _) ⟨⟨_, rfl, .inl ⟨rfl, rfl⟩⟩, ⟨_, rfl, .inl ⟨rfl, rfl⟩⟩, trivial⟩ trivial
    obtain ⟨j, hj⟩ := j
    have hjl : j < i ∨ j = i := by omega
    rcases hjl with hlt | rfl
    · obtain ⟨x, hx⟩ : ∃ x, x = d.ws (i0 + j) := ⟨_, rfl⟩
      obtain ⟨xi, uk, uy, ucp, uf⟩ := x
      have hgj := hbg j hlt
      rw [← hx] at hgj
      refine X.go T41_ok 1 _ rfl Try.results41 ?_
      conv => arg 2; cbv
      refine X.reg (XS.recvR (fun w => MapAt m (gK size (settleK d.kept d.ws i0 j)) w ∧ objAt w ch = some (.chan i (bufs.drop (j + 1)).toArray true i (j + 1) false)) ch (.agg [.int .i64 (.v xi), .slv (some ⟨uk, uy, none⟩) size ucp]) rfl rfl rfl Try.underlying113 (fun w => Try.zeroValue87 w) rfl
        ⟨0, by rw [hD2]; exact .inr rfl⟩ hDO hDi (fun g hg => by simp at hg) (hloc _ _) (fun N w1 hN hR => ?_) rfl (XS.toX ?_))
      · obtain ⟨h1, h2⟩ := hR
        have hlt2 := objAt_lt (by rw [h2]; rfl)
        refine ⟨i, _, true, i, j, heap_objAt h2, by simp [hbl]; omega, ?_, h1.at (objAt_put_ne (fun e => hchm e.symm)), ?_⟩
        · have : (bufs.drop j)[0]? = some (wv size ⟨xi, uk, uy, ucp, uf⟩) := by simpa using hgj
          simp [SV.den, SV.denL, SI.den, hgj, wv, By.val]
        · rw [objAt_put_same hlt2 (show notCells (.chan _ _ _ _ _ _) from trivial)]
          simp
          exact List.take_of_length_le (by simp; omega)
      show X (mkE Try.prog Try.f41 Q w (fun k _ => k = m) im D2 (fun w => MapAt m (gK size (settleK d.kept d.ws i0 j)) w ∧ objAt w ch = some (.chan i (bufs.drop (j + 1)).toArray true i (j + 1) false)) [] B41) _ _
      refine X.go T41_ok 400 _ rfl Try.results41 ?_
      conv => arg 2; cbv
      refine X.less [7, 0, 21] ?_
      show X (mkE Try.prog Try.f41 Q w (fun k _ => k = m) im D2 (fun w => MapAt m (gK size (settleK d.kept d.ws i0 j)) w ∧ objAt w ch = some (.chan i (bufs.drop (j + 1)).toArray true i (j + 1) false)) [] B41) _ ⟨[(7, .val (.own 0 0)), (0, .val (.ext d.b d.y 0)), (21, .val (.raw (.chan (some ch))))], _⟩
      refine X.see d.b d.y [.int .i64 (.v a0), .int .i64 (.v a1), .raw (.map (some m))] (fun q c hq => ?_) (by simp) (fun N0 hN0 hNl => ?_)
      · match q, hq with
        | 0, hq => simp at hq; subst hq; exact ⟨_, rfl, him (by rw [ha0]; exact hd 0 _ rfl)⟩
        | 1, hq => simp at hq; subst hq; exact ⟨_, rfl, him (by rw [ha1]; exact hd 1 _ rfl)⟩
        | 2, hq => simp at hq; subst hq; exact ⟨_, rfl, him (by rw [hmm]; exact hd 2 _ rfl)⟩
        | q + 3, hq => simp at hq
      have hNl : N0.length = 1 := hNl
      have hget : (N0 ++ [(⟨d.b, d.y, 0⟩ : Num)])[1]? = some ⟨d.b, d.y, 0⟩ := by rw [List.getElem?_append_right (by omega)]; simp [hNl]
      refine X.reval 0 (.own 1 0) (v := .ext d.b d.y 0) rfl (fun N hN x hx => ?_) ?_
      · have := hN 1 _ hget
        simp only [SV.den, this] at hx ⊢
        exact hx
      show X (mkE Try.prog Try.f41 Q w (fun k _ => k = m) im D2 (fun w => MapAt m (gK size (settleK d.kept d.ws i0 j)) w ∧ objAt w ch = some (.chan i (bufs.drop (j + 1)).toArray true i (j + 1) false)) (N0 ++ [⟨d.b, d.y, 0⟩]) B41) _ _
      refine X.drawnL (fn := Try.f41) T41_ok noCall (idxG 33 []) 8 [] 8 rfl (by kernel_rfl) rfl noCall_ok (idxG_ok [] rfl (fun q hq => absurd hq List.not_mem_nil)) 33 rfl ?_
      generalize hfin : (fun s' => X (mkE Try.prog Try.f41 Q w (fun k _ => k = m) im D2 (fun w => MapAt m (gK size (settleK d.kept d.ws i0 j)) w ∧ objAt w ch = some (.chan i (bufs.drop (j + 1)).toArray true i (j + 1) false)) (N0 ++ [⟨d.b, d.y, 0⟩]) B41) _ s') = fin
      conv => cbv
      repeat (first | refine ⟨rfl, ?_⟩ | refine ⟨⟨_, _, rfl, rfl⟩, ?_⟩ | refine ⟨⟨rfl, _, _, rfl, rfl⟩, ?_⟩)
      subst hfin
      show X _ _ _
      refine X.drop 1 (by simp) ?_
      refine X.mapPutR (fun w => MapAt m (gK size (settleK d.kept d.ws i0 (j + 1))) w ∧ objAt w ch = some (.chan i (bufs.drop (j + 1)).toArray true i (j + 1) false)) (m := m) (j := .v xi) (gK size (settleK d.kept d.ws i0 j)) rfl rfl rfl Try.underlying80 Try.underlying3 rfl rfl rfl ⟨0, by rw [hD2]; exact .inl rfl⟩ hDO hDi
        (fun g hg => by simp at hg; rcases hg with rfl | rfl; exact .inl rfl; exact .inr rfl) (hloc _ _) (fun w h => h.1) (fun N w1 c ob hN hS hc hnc hmp => ?_) rfl ?_
      · have hc' : Value.slice (some ⟨uk, uy, none⟩) size ucp = c := Option.some.inj hc
        obtain ⟨h1, h2⟩ := hS.res
        refine ⟨?_, by rw [objAt_put_ne hchm]; exact h2⟩
        have e : gK size (settleK d.kept d.ws i0 (j + 1)) = fun q => if q = (SI.v xi).den then some c else gK size (settleK d.kept d.ws i0 j) q := by
          funext q
          simp only [gK, settleK, updK, ← hx]
          show Option.map _ (if q = xi then _ else _) = (if q = xi then some c else _)
          split
          · rw [← hc']; rfl
          · rfl
        rw [e]; exact hmp
      show X (mkE Try.prog Try.f41 Q w (fun k _ => k = m) im D2 (fun w => MapAt m (gK size (settleK d.kept d.ws i0 (j + 1))) w ∧ objAt w ch = some (.chan i (bufs.drop (j + 1)).toArray true i (j + 1) false)) (N0 ++ [⟨d.b, d.y, 0⟩]) B41) _ _
      refine X.go T41_ok 400 _ rfl Try.results41 ?_
      conv => arg 2; cbv
      refine X.back (fun N a w' hN hf hS => hq ⟨j + 1, by omega⟩ a w' (by simp only; omega) ?_)
      refine At.mk (N0 := []) (fun r p h => by simp at h) hf hS (Nat.zero_le _) ⟨⟨_, rfl, .inr ?_⟩, ⟨_, rfl, .inl ⟨rfl, rfl⟩⟩, trivial⟩ trivial (fun _ _ _ h => h) hS.loc hS.res
      have := hN 1 _ hget
      exact ⟨_, by simp only [SV.den, this], rfl⟩
    · refine X.go T41_ok 1 _ rfl Try.results41 ?_
      conv => arg 2; cbv
      refine X.reg (XS.shutR ch (.agg [.int .i64 (.lit 0), .raw (.slice none 0 0)]) rfl rfl rfl Try.underlying113 (fun w => Try.zeroValue87 w) (fun N => rfl) rfl (fun w hR => ⟨j, j, j, ?_⟩) rfl (XS.toX ?_))
      · have := heap_objAt hR.2
        simpa [hbl, List.drop_of_length_le] using this
      refine X.go T41_ok 400 _ rfl Try.results41 ?_
      conv => arg 2; cbv
      refine X.over T41_ok rfl (fun N w' v hN hS hv => ?_)
      have hv' : Value.tuple #[] = v := Option.some.inj hv
      rw [hQ]
      refine ⟨by rw [← hv'], ?_, hS.chg⟩
      have := hS.res.1
      rw [hsz] at this
      exact this
end Go.Proofs.Ytkjhpaeminegoaa

namespace Go.Proofs.Ytkjhpaeminegoaa
open Go.Eng
def Hd.has (h : Hd) (i : Int) : Prop := 0 ≤ i ∧ i < h.count
instance (h : Hd) (i : Int) : Decidable (h.has i) := by unfold Hd.has; infer_instance
def Hd.wr (h : Hd) (i : Int) (n : Nat) : Int := if h.off then 8 else if h.has i then (if n = h.size then 0 else 3) else 6
set_option maxRecDepth 100000 in
set_option cbv.maxSteps 100000000 in
theorem write_err (b y : Nat) (h : Hd) (i : Int) (po : Option Addr) (n cp : Nat) (w : World) (hh : HdAt b y h w) (he : h.wr i n ≠ 0) :
    Calls Try.prog 13 #[.pointer (some ⟨b, y, none⟩), .int .i64 i, .slice po n cp] w fun e w' => e = .returned (.int .i64 (h.wr i n)) ∧ Chg (fun _ _ => False) w w' := by
  refine X.begin (rg := [⟨false, h.sv, none⟩]) (N := [⟨b, y, 8⟩]) (ss := [.own 0 0, .int .i64 (.v i), .slv po n cp]) Try.func13 rfl B13_ok rfl rfl (Sat.std1 false hh.lt (hh.cells _) (fun h => by cases h)) ?_
  obtain ⟨size, count, m, po', n', cp', off, falls, fused, fuse⟩ := h
  obtain ⟨r, hr⟩ : ∃ r, r = Hd.wr ⟨size, count, m, po', n', cp', off, falls, fused, fuse⟩ i n := ⟨_, rfl⟩
  rw [← hr] at he ⊢
  cases off with
  | true =>
    refine X.goC FALL_ok false T13_ok 400 _ rfl Try.results13 ?_
    conv => arg 2; cbv
    refine X.done T13_ok rfl (fun N w' v hN hS hv => ?_)
    simp [resV, SV.den, SI.den] at hv
    exact ⟨by rw [hr, ← hv]; rfl, hS.chg.ro1⟩
  | false =>
    refine X.goC FALL_ok false T13_ok 400 _ rfl Try.results13 ?_
    conv => arg 2; cbv
    refine X.cond rfl (fun hc => ?_) (fun hc => ?_)
    · refine X.goC FALL_ok false T13_ok 400 _ rfl Try.results13 ?_
      conv => arg 2; cbv
      refine X.done T13_ok rfl (fun N w' v hN hS hv => ?_)
      simp [resV, SV.den, SI.den] at hv
      have hno : ¬ Hd.has ⟨size, count, m, po', n', cp', false, falls, fused, fuse⟩ i := fun hh => by
        simp only [SB.T, SB.F, SI.den] at hc
        unfold Hd.has at hh
        simp only at hh
        omega
      refine ⟨?_, hS.chg.ro1⟩
      rw [hr, ← hv]
      simp [Hd.wr, hno]
    · refine X.goC FALL_ok false T13_ok 400 _ rfl Try.results13 ?_
      conv => arg 2; cbv
      have hyes : Hd.has ⟨size, count, m, po', n', cp', false, falls, fused, fuse⟩ i := by
        simp only [SB.T, SB.F, SI.den] at hc
        unfold Hd.has
        simp only
        omega
      refine X.cond rfl (fun hc2 => ?_) (fun hc2 => ?_)
      · refine X.goC FALL_ok false T13_ok 400 _ rfl Try.results13 ?_
        conv => arg 2; cbv
        refine X.done T13_ok rfl (fun N w' v hN hS hv => ?_)
        simp [resV, SV.den, SI.den] at hv
        refine ⟨?_, hS.chg.ro1⟩
        simp only [SB.T, SI.den] at hc2
        rw [hr, ← hv]
        have : ¬ n = size := by omega
        simp [Hd.wr, hyes, this]
      · exfalso
        simp only [SB.F, SI.den] at hc2
        refine he ?_
        rw [hr]
        have : n = size := by omega
        simp [Hd.wr, hyes, this]
end Go.Proofs.Ytkjhpaeminegoaa

namespace Go.Proofs.Ytkjhpaeminegoaa
open Go.Eng
theorem burn_same (h : Hd) : h.burn.2.size = h.size ∧ h.burn.2.count = h.count ∧ h.burn.2.m = h.m ∧ h.burn.2.po = h.po ∧ h.burn.2.n = h.n ∧ h.burn.2.cp = h.cp := by
  obtain ⟨size, count, m, po, n, cp, off, falls, fused, fuse⟩ := h
  unfold Hd.burn Hd.fall
  cases fused <;> cases off <;> simp <;> split <;> simp
theorem wsv_len (size : Nat) (x : Int × By) : (wsv size x).length = 2 := rfl
structure WroteAt (b y m n : Nat) (h2 : Hd) (i : Int) (size : Nat) (g : Nat → Int) (ws : Nat → Int × By) (w : World) (wb' wy' : Nat) (u : By) (row : Nat → Nat → Prop) (w' : World) : Prop where
  hd : HdAt b y h2 w'
  hf : HdFree b y w'
  po : h2.po = some ⟨wb', wy', none⟩
  hn : h2.n = n + 1
  nc : n + 1 ≤ h2.cp
  rm : ∀ o, o < h2.cp * 2 → (w'.cell? ⟨wb', wy' + o, none⟩).isSome = true ∧ w'.frozen? ⟨wb', wy' + o, none⟩ = false
  old : ∀ q, q < n → w'.cell? ⟨wb', wy' + q * 2, none⟩ = some (.int .i64 (ws q).1) ∧ w'.cell? ⟨wb', wy' + q * 2 + 1, none⟩ = some ((ws q).2.val size)
  new : w'.cell? ⟨wb', wy' + n * 2, none⟩ = some (.int .i64 i) ∧ w'.cell? ⟨wb', wy' + n * 2 + 1, none⟩ = some (u.val size)
  ua : u.At size w'
  uf : u.f = g
  fr : w.heap.size ≤ u.k
  sep : ∀ o o', o < h2.cp * 2 → o' < size → ¬ (wb' = u.k ∧ wy' + o = u.y + o')
  hs : ∀ o, o < h2.cp * 2 → ¬ hdO b y wb' (wy' + o)
  rows : w.heap.size ≤ wb' ∨ ∀ o, o < h2.cp * 2 → row wb' (wy' + o)
set_option maxHeartbeats 4000000 in
set_option maxRecDepth 100000 in
set_option cbv.maxSteps 100000000 in
theorem write_row (b y m : Nat) (wb wy : Nat) (n cp size count : Nat) (falls fuse : Int) (fused : Bool) (ws : Nat → Int × By) (i : Int) (sb sy scp : Nat) (g : Nat → Int) (w : World) (hz : 0 < size ∧ size ≤ 1000) (hn : n ≤ 1000) (hnc : n ≤ cp) (hi : 0 ≤ i ∧ i < count)
    (hh : HdAt b y ⟨size, count, m, some ⟨wb, wy, none⟩, n, cp, false, falls, fused, fuse⟩ w) (hf : HdFree b y w) (hsrc : BytesAt sb sy size g w) (hfar : ∀ o, o < size → ¬ hdO b y sb (sy + o) ∧ ¬ (sb = wb ∧ wy ≤ sy + o ∧ sy + o < wy + cp * 2))
    (hrm : ∀ o, o < cp * 2 → (w.cell? ⟨wb, wy + o, none⟩).isSome = true ∧ w.frozen? ⟨wb, wy + o, none⟩ = false) (hrow : ∀ q, q < n → w.cell? ⟨wb, wy + q * 2, none⟩ = some (.int .i64 (ws q).1) ∧ w.cell? ⟨wb, wy + q * 2 + 1, none⟩ = some ((ws q).2.val size)) (hlt : wb < w.heap.size) (hap : ∀ k o, hdO b y k o → ¬ (k = wb ∧ wy ≤ o ∧ o < wy + cp * 2)) :
    Calls Try.prog 13 #[.pointer (some ⟨b, y, none⟩), .int .i64 i, .slice (some ⟨sb, sy, none⟩) size scp] w fun e w' => ∃ (bt : Bool) (h1 h2 : Hd) (wb' wy' : Nat) (u : By), e = .returned (.int .i64 (if bt then 8 else 0)) ∧ h1.burn = (bt, h2) ∧
      h1 = ⟨size, count, m, h2.po, n + 1, h2.cp, false, falls, fused, fuse⟩ ∧ WroteAt b y m n h2 i size g ws w wb' wy' u (fun k o => k = wb ∧ wy ≤ o ∧ o < wy + cp * 2) w' ∧ Chg (fun k o => hdO b y k o ∨ (k = wb ∧ wy ≤ o ∧ o < wy + cp * 2)) w w' := by
  obtain ⟨Q, hQ⟩ : ∃ Q : Ending → World → Prop, Q = fun e w' => ∃ (bt : Bool) (h1 h2 : Hd) (wb' wy' : Nat) (u : By), e = .returned (.int .i64 (if bt then 8 else 0)) ∧ h1.burn = (bt, h2) ∧
      h1 = ⟨size, count, m, h2.po, n + 1, h2.cp, false, falls, fused, fuse⟩ ∧ WroteAt b y m n h2 i size g ws w wb' wy' u (fun k o => k = wb ∧ wy ≤ o ∧ o < wy + cp * 2) w' ∧ Chg (fun k o => hdO b y k o ∨ (k = wb ∧ wy ≤ o ∧ o < wy + cp * 2)) w w' := ⟨_, rfl⟩
  rw [← hQ]
  obtain ⟨cs, hcs⟩ : ∃ cs, cs = rowsL (fun q => wsv size (ws q)) n := ⟨_, rfl⟩
  have hlen : cs.length = n * 2 := by rw [hcs]; exact rowsL_len (fun q => wsv_len size (ws q)) n
  obtain ⟨bs, hbs⟩ : ∃ bs, bs = bytesL g size := ⟨_, rfl⟩
  have hbl : bs.length = size := by rw [hbs, bytesL_len]
  obtain ⟨n1, hn1⟩ : ∃ n1, n1 = n + 1 := ⟨_, rfl⟩
  obtain ⟨nw, hnw⟩ : ∃ nw : List SV, nw = [.int .i64 (.v i), .osl 3 0 size 1 none] := ⟨_, rfl⟩
  obtain ⟨cs2, hcs2⟩ : ∃ cs2, cs2 = cs ++ nw := ⟨_, rfl⟩
  have hhd : SV.denL [⟨b, y, 8⟩, ⟨wb, wy, cp * 2⟩, ⟨sb, sy, size⟩] [.int .i64 (.nat size), .int .i64 (.nat count), .raw (.map (some m)), .osl 1 0 n 2 none, .bool (.lit false), .int .u64 (.v falls), .bool (.lit fused), .int .i64 (.v fuse)] = some (Hd.vals ⟨size, count, m, some ⟨wb, wy, none⟩, n, cp, false, falls, fused, fuse⟩) := by
    simp [SV.denL, SV.den, SI.den, SB.den, Num.cap, Hd.vals, one?]
  refine X.begin (rg := [⟨true, [.int .i64 (.nat size), .int .i64 (.nat count), .raw (.map (some m)), .osl 1 0 n 2 none, .bool (.lit false), .int .u64 (.v falls), .bool (.lit fused), .int .i64 (.v fuse)], none⟩, ⟨true, cs, none⟩, ⟨false, bs, none⟩]) (N := [⟨b, y, 8⟩, ⟨wb, wy, cp * 2⟩, ⟨sb, sy, size⟩]) (ss := [.own 0 0, .int .i64 (.v i), .osl 2 0 size 1 (some scp)]) Try.func13 rfl B13_ok rfl rfl
    (Sat.stdL ⟨⟨hh.lt, rfl, fun j c hj => ?_, (fun _ => by simp), (fun _ j hj => hh.room hf j hj)⟩, ⟨hlt, rfl, fun j c hj => ?_, (fun _ => by show cs.length ≤ cp * 2; omega), (fun _ j hj => hrm j hj)⟩, ⟨World.block_lt_of_cell? _ _ (hsrc 0 hz.1), rfl, (fun j c hj => by rw [hbs] at hj; exact hsrc.cells _ j c hj), (fun h => by cases h), (fun h => by cases h)⟩, trivial⟩ ?_) ?_
  · obtain ⟨k1, k2⟩ := SV.denL_get _ hhd
    obtain ⟨v, k3, k4⟩ := k2 j c hj
    exact ⟨v, k3, hh j v k4⟩
  · rw [hcs] at hj
    obtain ⟨k1, k2, k3, k4⟩ := rowsL_get (fun q => wsv_len size (ws q)) (by decide) hj
    obtain ⟨q, hq⟩ : ∃ q, q = j / 2 := ⟨_, rfl⟩
    rw [← hq] at k1 k3 k4
    have hr := hrow q k1
    have k5 : j % 2 = 0 ∨ j % 2 = 1 := by omega
    rcases k5 with k5 | k5
    · rw [k5] at k4 k3
      simp [wsv] at k4; subst k4
      exact ⟨_, rfl, by rw [show wy + j = wy + q * 2 by omega]; exact hr.1⟩
    · rw [k5] at k4 k3
      simp [wsv] at k4; subst k4
      exact ⟨_, rfl, by rw [show wy + j = wy + q * 2 + 1 by omega]; exact hr.2⟩
  · refine ⟨⟨fun _ j j' hj hj' e => ?_, fun _ j j' hj hj' e => ?_, trivial⟩, ⟨fun _ j j' hj hj' e => ?_, trivial⟩, trivial, trivial⟩
    · have h1 : j < 8 := hj
      have h2 : j' < cp * 2 := hj'
      have e1 : b = wb := e.1
      have e2 : y + j = wy + j' := e.2
      exact hap b (y + j) ⟨rfl, by omega, by omega⟩ ⟨e1, by omega, by omega⟩
    · have h1 : j < 8 := hj
      have h2 : j' < bs.length := hj'
      have e1 : b = sb := e.1
      have e2 : y + j = sy + j' := e.2
      exact (hfar j' (by omega)).1 ⟨e1.symm, by omega, by omega⟩
    · have h1 : j < cp * 2 := hj
      have h2 : j' < bs.length := hj'
      have e1 : wb = sb := e.1
      have e2 : wy + j = sy + j' := e.2
      exact (hfar j' (by omega)).2 ⟨e1.symm, by omega, by omega⟩
  refine X.goC FALL_ok false T13_ok 400 _ rfl Try.results13 ?_
  conv => arg 2; cbv
  refine X.cond rfl (fun hc => ?_) (fun _ => ?_)
  · exfalso
    simp only [SB.T, SB.F, SI.den] at hc
    omega
  refine X.goC FALL_ok false T13_ok 400 _ rfl Try.results13 ?_
  conv => arg 2; cbv
  refine X.cond rfl (fun hc => ?_) (fun _ => ?_)
  · exfalso
    simp only [SB.T, SI.den] at hc
    exact hc rfl
  refine X.go T13_ok 3 _ rfl Try.results13 ?_
  conv => arg 2; cbv
  refine X.less [0, 1, 2] ?_
  show X (std Try.prog Try.f13 Q w [⟨b, y, 8⟩, ⟨wb, wy, cp * 2⟩, ⟨sb, sy, size⟩] [⟨true, [.int .i64 (.nat size), .int .i64 (.nat count), .raw (.map (some m)), .osl 1 0 n 2 none, .bool (.lit false), .int .u64 (.v falls), .bool (.lit fused), .int .i64 (.v fuse)], none⟩, ⟨true, cs, none⟩, ⟨false, bs, none⟩] B13) _ ⟨[(0, .val (.own 0 0)), (1, .val (.int .i64 (.v i))), (2, .val (.osl 2 0 size 1 (some scp)))], _⟩
  obtain ⟨pr, hpr⟩ : ∃ pr : St → List SV → Prop, pr = fun s l => s.rg[2]? = some ⟨false, bs, none⟩ ∧ l = [.osl 2 0 size 1 (some scp)] := ⟨_, rfl⟩
  have hpr0 : ∀ (f : Fr) (g0 g1 : Rg), pr ⟨f, [g0, g1, ⟨false, bs, none⟩]⟩ [.osl 2 0 size 1 (some scp)] := fun f g0 g1 => by rw [hpr]; exact ⟨rfl, rfl⟩
  refine X.drawnL (fn := Try.f13) T13_ok (callFresh 7 39 bs size 1 42 _ pr) (idxG 42 []) 10 [11, 12, 13] 10 rfl (by kernel_rfl) rfl (callFresh_ok Try.call39 (fun s l hp E N w1 args hP _ _ hS ha => ?_)) (idxG_ok [] rfl (fun q hq => absurd hq List.not_mem_nil)) 42 rfl ?_
  · rw [hpr] at hp
    obtain ⟨h1, h2⟩ := hp
    subst h2
    obtain ⟨p, hp⟩ : ∃ p, N[2]? = some p := ⟨_, List.getElem?_eq_getElem (by rw [hS.len]; exact (List.getElem?_eq_some_iff.1 h1).1)⟩
    have ha' : [Value.slice (some ⟨p.b, p.o + 0, none⟩) size scp] = args := by simpa [SV.denL, SV.den, hp, Num.cap] using ha
    subst ha'
    rw [hbs]
    refine cloneB_ok p.b p.o size scp g w1 (by omega) hz.2 (fun j hj => ?_)
    obtain ⟨v, k1, k2⟩ := hS.cell 2 _ p h1 hp j (.int .u8 (.v (g j))) (by rw [hbs]; exact bytesL_at hj)
    rw [k2, ← k1]; rfl
  generalize hfin : (fun s' => X (std Try.prog Try.f13 Q w [⟨b, y, 8⟩, ⟨wb, wy, cp * 2⟩, ⟨sb, sy, size⟩] [⟨true, [.int .i64 (.nat size), .int .i64 (.nat count), .raw (.map (some m)), .osl 1 0 n 2 none, .bool (.lit false), .int .u64 (.v falls), .bool (.lit fused), .int .i64 (.v fuse)], none⟩, ⟨true, cs, none⟩, ⟨false, bs, none⟩] B13) _ s') = fin
  conv => cbv
  repeat (first | refine ⟨rfl, ?_⟩ | refine ⟨hpr0 _ _ _, ?_⟩)
  subst hfin
  show X _ _ _
  rw [← hnw]
  have hO : ∀ k o, InR [⟨b, y, 8⟩, ⟨wb, wy, cp * 2⟩, ⟨sb, sy, size⟩] [⟨true, [.int .i64 (.nat size), .int .i64 (.nat count), .raw (.map (some m)), .osl 1 0 n 2 none, .bool (.lit false), .int .u64 (.v falls), .bool (.lit fused), .int .i64 (.v fuse)], none⟩, ⟨true, cs, none⟩, ⟨false, bs, none⟩] k o → hdO b y k o ∨ (k = wb ∧ wy ≤ o ∧ o < wy + cp * 2) := fun k o h => by
    rcases inR_cons h with ⟨_, e1, e2, e3⟩ | h
    · exact .inl ⟨e1, e2, e3⟩
    rcases inR_cons h with ⟨e0, e1, e2, e3⟩ | h
    · exact .inr ⟨e1, e2, e3⟩
    rcases inR_cons h with ⟨e0, _⟩ | h
    · cases e0
    · exact absurd h inR_nil
  refine X.namesP (fun N => ∃ p3, N[3]? = some p3 ∧ w.heap.size ≤ p3.b) (fun N w1 hN hS => ?_) (fun N1 hN1 hN1l hpf => ?_)
  · obtain ⟨p3, q3⟩ : ∃ p, N[3]? = some p := ⟨_, List.getElem?_eq_getElem (by rw [hS.len]; simp)⟩
    have q0 := hN 0 _ rfl
    have q1 := hN 1 _ rfl
    have hx3 := hS.ext 3 ⟨true, bs, none⟩ p3 rfl q3 rfl
    simp only [hbl] at hx3
    refine ⟨p3, q3, ?_⟩
    rcases hS.foot 3 ⟨true, bs, none⟩ p3 rfl q3 rfl with h | h
    · exact h
    · exfalso
      rcases hO _ _ (h 0 (by omega)) with ⟨e1, e2, e3⟩ | ⟨e1, e2, e3⟩
      · rcases hS.disj 3 0 ⟨true, bs, none⟩ _ p3 _ rfl q3 rfl q0 rfl (by decide) (p3.o + 0 - y) (by show _ < 8; omega) e1.symm with h | h <;> simp only at h <;> omega
      · rcases hS.disj 3 1 ⟨true, bs, none⟩ ⟨true, cs, none⟩ p3 _ rfl q3 rfl q1 rfl (by decide) (p3.o + 0 - wy) (by show _ < cp * 2; omega) e1.symm with h | h <;> simp only at h <;> omega
  obtain ⟨p3, hp3, hf3⟩ := hpf
  have hN1 : Nums.le [⟨b, y, 8⟩, ⟨wb, wy, cp * 2⟩, ⟨sb, sy, size⟩] N1 := hN1
  show X (mkE Try.prog Try.f13 Q w (InR [⟨b, y, 8⟩, ⟨wb, wy, cp * 2⟩, ⟨sb, sy, size⟩] [⟨true, [.int .i64 (.nat size), .int .i64 (.nat count), .raw (.map (some m)), .osl 1 0 n 2 none, .bool (.lit false), .int .u64 (.v falls), .bool (.lit fused), .int .i64 (.v fuse)], none⟩, ⟨true, cs, none⟩, ⟨false, bs, none⟩]) (elsewhere [⟨b, y, 8⟩, ⟨wb, wy, cp * 2⟩, ⟨sb, sy, size⟩] [⟨true, [.int .i64 (.nat size), .int .i64 (.nat count), .raw (.map (some m)), .osl 1 0 n 2 none, .bool (.lit false), .int .u64 (.v falls), .bool (.lit fused), .int .i64 (.v fuse)], none⟩, ⟨true, cs, none⟩, ⟨false, bs, none⟩] w) (fun _ _ => False) (fun _ => True) N1 B13) _ _
  apply X.opEq (T := T13) T13_ok
  · exact opE_append (te := ti87) (new := nw) (m := 1) rfl rfl rfl rfl rfl rfl rfl rfl (appSrc_row (g := ⟨true, nw, none⟩) rfl rfl (by rw [hnw]; rfl) (by rw [hnw]; rfl))
      (appV_hid (te := ti87) (n := n) rfl hlen (by decide) (appOk_ok (by decide) rfl (by rw [hnw]; rfl) (by rw [hnw]; rfl) (by show (2 * (n + 1) + 256) * 32 ≤ _; omega) (by omega))) rfl
  rw [← hcs2, ← hn1]
  refine X.go T13_ok 5 _ rfl Try.results13 ?_
  conv => arg 2; cbv
  refine X.names fun N hNN hNl => ?_
  have hNl : N.length = 5+1 := hNl
  have hNN : N1.le N := hNN
  have hN : Nums.le [⟨b, y, 8⟩, ⟨wb, wy, cp * 2⟩, ⟨sb, sy, size⟩] N := hN1.trans hNN
  obtain ⟨p5, hp5⟩ : ∃ p, N[5]? = some p := ⟨_, List.getElem?_eq_getElem (by omega)⟩
  have hp3 := hNN 3 _ hp3
  obtain ⟨cp', hcp'⟩ : ∃ c, c = p5.x / 2 := ⟨_, rfl⟩
  refine X.recell1 0 3 (.slv (some ⟨p5.b, p5.o, none⟩) n1 cp') rfl rfl (fun N' hN' v hv => ?_) ?_
  · have := hN' 5 p5 hp5
    simp only [SV.den, this, Num.cap, Nat.sub_zero, Nat.add_zero, ← hcp'] at hv ⊢
    exact hv
  refine X.less [0] ?_
  obtain ⟨h1, hh1⟩ : ∃ h1 : Hd, h1 = ⟨size, count, m, some ⟨p5.b, p5.o, none⟩, n1, cp', false, falls, fused, fuse⟩ := ⟨_, rfl⟩
  obtain ⟨hc0, hhc⟩ : ∃ c : List SV, c = [.int .i64 (.nat size), .int .i64 (.nat count), .raw (.map (some m)), .slv (some ⟨p5.b, p5.o, none⟩) n1 cp', .bool (.lit false), .int .u64 (.v falls), .bool (.lit fused), .int .i64 (.v fuse)] := ⟨_, rfl⟩
  have hden : ∀ N, SV.denL N hc0 = some h1.vals := fun N => by rw [hhc, hh1]; rfl
  show X (mkE Try.prog Try.f13 Q w (InR [⟨b, y, 8⟩, ⟨wb, wy, cp * 2⟩, ⟨sb, sy, size⟩] [⟨true, [.int .i64 (.nat size), .int .i64 (.nat count), .raw (.map (some m)), .osl 1 0 n 2 none, .bool (.lit false), .int .u64 (.v falls), .bool (.lit fused), .int .i64 (.v fuse)], none⟩, ⟨true, cs, none⟩, ⟨false, bs, none⟩]) (elsewhere [⟨b, y, 8⟩, ⟨wb, wy, cp * 2⟩, ⟨sb, sy, size⟩] [⟨true, [.int .i64 (.nat size), .int .i64 (.nat count), .raw (.map (some m)), .osl 1 0 n 2 none, .bool (.lit false), .int .u64 (.v falls), .bool (.lit fused), .int .i64 (.v fuse)], none⟩, ⟨true, cs, none⟩, ⟨false, bs, none⟩] w) (fun _ _ => False) (fun _ => True) N B13) _ ⟨[(0, .val (.own 0 0))], [⟨true, [.int .i64 (.nat size), .int .i64 (.nat count), .raw (.map (some m)), .slv (some ⟨p5.b, p5.o, none⟩) n1 cp', .bool (.lit false), .int .u64 (.v falls), .bool (.lit fused), .int .i64 (.v fuse)], none⟩, ⟨false, [], none⟩, ⟨false, bs, none⟩, ⟨true, bs, none⟩, ⟨true, nw, none⟩, ⟨true, cs2, none⟩]⟩
  rw [← hhc]
  refine X.go T13_ok 400 _ rfl Try.results13 ?_
  conv => arg 2; cbv
  refine X.call rfl rfl rfl rfl Try.call40 (fun N' w1 args hN' hS ha => ?_)
  have q0 := hN' 0 _ (hN 0 _ rfl)
  have ha' : [Value.pointer (some ⟨b, y, none⟩)] = args := by simpa [SV.denL, SV.den, q0] using ha
  subst ha'
  obtain ⟨br, hbr⟩ : ∃ br, br = h1.burn := ⟨_, rfl⟩
  obtain ⟨bt, h2⟩ := br
  refine (burns_ok b y h1 w1 (hd_back q0 hS (hden N')) (fun j hj => (hS.room 0 _ _ rfl q0 rfl j hj).2)).mono fun e w2 ⟨he, k1, k2⟩ => ⟨_, he, ?_⟩
  rw [← hbr] at k1 ⊢
  obtain ⟨hc2, hhc2⟩ : ∃ c : List SV, c = h2.sv := ⟨_, rfl⟩
  refine Goes.cells (r := 0) (g := ⟨true, hc0, none⟩) hN' hS rfl q0 rfl k2 hc2 (by rw [hhc2]; exact Nat.le_refl _) (fun j c hj => by rw [hhc2] at hj; exact k1.cells N' j c hj) (rv := .bool (.lit bt)) rfl rfl ?_
  have hfin : ∀ (Ne : Nums) (w' : World) (k : Int), N.le Ne → k = (if bt then 8 else 0) → Sat (mkE Try.prog Try.f13 Q w (InR [⟨b, y, 8⟩, ⟨wb, wy, cp * 2⟩, ⟨sb, sy, size⟩] [⟨true, [.int .i64 (.nat size), .int .i64 (.nat count), .raw (.map (some m)), .osl 1 0 n 2 none, .bool (.lit false), .int .u64 (.v falls), .bool (.lit fused), .int .i64 (.v fuse)], none⟩, ⟨true, cs, none⟩, ⟨false, bs, none⟩]) (elsewhere [⟨b, y, 8⟩, ⟨wb, wy, cp * 2⟩, ⟨sb, sy, size⟩] [⟨true, [.int .i64 (.nat size), .int .i64 (.nat count), .raw (.map (some m)), .osl 1 0 n 2 none, .bool (.lit false), .int .u64 (.v falls), .bool (.lit fused), .int .i64 (.v fuse)], none⟩, ⟨true, cs, none⟩, ⟨false, bs, none⟩] w) (fun _ _ => False) (fun _ => True) N B13).toEnv Ne [⟨true, hc2, none⟩, ⟨false, [], none⟩, ⟨false, bs, none⟩, ⟨true, bs, none⟩, ⟨true, nw, none⟩, ⟨true, cs2, none⟩] w' → Q (.returned (.int .i64 k)) w' := by
    intro Ne w' k hNe hk hS
    have q0 := hNe 0 _ (hN 0 _ rfl)
    have q3 := hNe 3 _ hp3
    have q5 := hNe 5 _ hp5
    obtain ⟨s1, s2, s3, s4, s5, s6⟩ := burn_same h1
    rw [← hbr, hh1] at s1 s2 s3 s4 s5 s6
    simp only at s1 s2 s3 s4 s5 s6
    have hl2 : cs2.length = n * 2 + 2 := by rw [hcs2, List.length_append, hlen, hnw]; rfl
    have hx5 := hS.ext 5 ⟨true, cs2, none⟩ p5 rfl q5 rfl
    simp only [hl2] at hx5
    have hx3 := hS.ext 3 ⟨true, bs, none⟩ p3 rfl q3 rfl
    simp only [hbl] at hx3
    have hcap : cp' * 2 ≤ p5.x := by rw [hcp']; exact Nat.div_mul_le_self _ _
    have hnwd : SV.denL Ne nw = some [.int .i64 i, .slice (some ⟨p3.b, p3.o, none⟩) size p3.x] := by
      rw [hnw]; simp [SV.denL, SV.den, SI.den, q3, Num.cap]
    have hcells : ∀ (j : Nat) (c : SV) (v : Value), cs2[j]? = some c → c.den Ne = some v → w'.cell? ⟨p5.b, p5.o + j, none⟩ = some v := fun j c v hj hv => by
      obtain ⟨v', e1, e2⟩ := hS.cell 5 ⟨true, cs2, none⟩ p5 rfl q5 j c hj
      rw [hv] at e1; cases e1; exact e2
    have hhs : ∀ o, o < cp' * 2 → ¬ hdO b y p5.b (p5.o + o) := fun o ho ⟨e1, e2, e3⟩ => by
      rcases hS.disj 5 0 ⟨true, cs2, none⟩ ⟨true, hc2, none⟩ p5 _ rfl q5 rfl q0 rfl (by decide) (p5.o + o - y) (by show _ < 8; omega) e1.symm with h | h <;> simp only at h <;> omega
    rw [hQ]
    refine ⟨bt, h1, h2, p5.b, p5.o, ⟨p3.b, p3.o, p3.x, g⟩, by rw [hk], hbr.symm, by rw [hh1, s4, s6, hn1], ⟨hd_back q0 hS (by rw [hhc2]; rfl), fun j hj => (hS.room 0 _ _ rfl q0 rfl j hj).2, s4, by rw [s5, hn1], ?_, fun o ho => ?_, fun q hq => ?_, ?_, ⟨hx3, fun j hj => ?_, fun j hj => (hS.room 3 _ p3 rfl q3 rfl j (by omega)).2⟩, rfl, ?_, fun o o' ho ho' => ?_, fun o ho => ?_, ?_⟩, hS.chg.mono fun k o _ h => hO k o h⟩
    · rw [s6, hcp']
      exact (Nat.le_div_iff_mul_le (by decide)).2 (by omega)
    · rw [s6] at ho
      exact hS.room 5 _ p5 rfl q5 rfl o (by omega)
    · have hat : ∀ t, t < 2 → cs2[q * 2 + t]? = (wsv size (ws q))[t]? := fun t ht => by
        rw [hcs2, List.getElem?_append_left (by rw [hlen]; omega), hcs]
        exact rowsL_at (fun q => wsv_len size (ws q)) ht hq
      exact ⟨hcells (q * 2 + 0) _ _ (hat 0 (by decide)) rfl, hcells (q * 2 + 1) _ _ (hat 1 (by decide)) rfl⟩
    · have hat : ∀ t, cs2[n * 2 + t]? = nw[t]? := fun t => by
        rw [hcs2, List.getElem?_append_right (by omega), hlen, Nat.add_sub_cancel_left]
      exact ⟨hcells (n * 2 + 0) (.int .i64 (.v i)) _ (by rw [hat, hnw]; rfl) rfl, hcells (n * 2 + 1) (.osl 3 0 size 1 none) _ (by rw [hat, hnw]; rfl) (by simp [SV.den, q3, Num.cap, By.val])⟩
    · exact hS.at q3 (g := ⟨true, bs, none⟩) rfl (j := j) (by rw [hbs]; exact bytesL_at hj) rfl
    · exact hf3
    · rw [s6] at ho
      rintro ⟨e1, e2⟩
      have := hS.disj 5 3 ⟨true, cs2, none⟩ ⟨true, bs, none⟩ p5 p3 rfl q5 rfl q3 rfl (by decide) o' (by show o' < p3.x; omega) e1.symm
      simp only at e2
      omega
    · rw [s6] at ho
      exact hhs o ho
    · rcases hS.foot 5 ⟨true, cs2, none⟩ p5 rfl q5 rfl with h | h
      · exact .inl h
      · refine .inr fun o ho => ?_
        rw [s6] at ho
        rcases hO _ _ (h o (by omega)) with e | e
        · exact absurd e (hhs o ho)
        · exact e
  cases bt with
  | true =>
    refine X.go T13_ok 400 _ rfl Try.results13 ?_
    conv => arg 2; cbv
    refine X.done T13_ok rfl (fun Ne w' v hNe hS hv => ?_)
    cases hv
    exact hfin Ne w' 8 hNe rfl hS
  | false =>
    refine X.go T13_ok 400 _ rfl Try.results13 ?_
    conv => arg 2; cbv
    refine X.done T13_ok rfl (fun Ne w' v hNe hS hv => ?_)
    cases hv
    exact hfin Ne w' 0 hNe rfl hS
set_option maxHeartbeats 4000000 in
set_option maxRecDepth 100000 in
set_option cbv.maxSteps 100000000 in
theorem write_nil (b y m : Nat) (n cp size count : Nat) (falls fuse : Int) (fused : Bool) (ws : Nat → Int × By) (i : Int) (sb sy scp : Nat) (g : Nat → Int) (w : World) (hz : 0 < size ∧ size ≤ 1000) (hn : n ≤ 1000) (h0 : n = 0) (h0c : cp = 0) (hi : 0 ≤ i ∧ i < count)
    (hh : HdAt b y ⟨size, count, m, none, n, cp, false, falls, fused, fuse⟩ w) (hf : HdFree b y w) (hsrc : BytesAt sb sy size g w) (hfar : ∀ o, o < size → ¬ hdO b y sb (sy + o)) :
    Calls Try.prog 13 #[.pointer (some ⟨b, y, none⟩), .int .i64 i, .slice (some ⟨sb, sy, none⟩) size scp] w fun e w' => ∃ (bt : Bool) (h1 h2 : Hd) (wb' wy' : Nat) (u : By), e = .returned (.int .i64 (if bt then 8 else 0)) ∧ h1.burn = (bt, h2) ∧
      h1 = ⟨size, count, m, h2.po, n + 1, h2.cp, false, falls, fused, fuse⟩ ∧ WroteAt b y m n h2 i size g ws w wb' wy' u (fun _ _ => False) w' ∧ Chg (fun k o => hdO b y k o) w w' := by
  obtain ⟨Q, hQ⟩ : ∃ Q : Ending → World → Prop, Q = fun e w' => ∃ (bt : Bool) (h1 h2 : Hd) (wb' wy' : Nat) (u : By), e = .returned (.int .i64 (if bt then 8 else 0)) ∧ h1.burn = (bt, h2) ∧
      h1 = ⟨size, count, m, h2.po, n + 1, h2.cp, false, falls, fused, fuse⟩ ∧ WroteAt b y m n h2 i size g ws w wb' wy' u (fun _ _ => False) w' ∧ Chg (fun k o => hdO b y k o) w w' := ⟨_, rfl⟩
  rw [← hQ]
  obtain ⟨cs, hcs⟩ : ∃ cs, cs = rowsL (fun q => wsv size (ws q)) n := ⟨_, rfl⟩
  have hlen : cs.length = n * 2 := by rw [hcs]; exact rowsL_len (fun q => wsv_len size (ws q)) n
  obtain ⟨bs, hbs⟩ : ∃ bs, bs = bytesL g size := ⟨_, rfl⟩
  have hbl : bs.length = size := by rw [hbs, bytesL_len]
  obtain ⟨n1, hn1⟩ : ∃ n1, n1 = n + 1 := ⟨_, rfl⟩
  obtain ⟨nw, hnw⟩ : ∃ nw : List SV, nw = [.int .i64 (.v i), .osl 3 0 size 1 none] := ⟨_, rfl⟩
  have hhd : SV.denL [⟨b, y, 8⟩, ⟨b, y, 0⟩, ⟨sb, sy, size⟩] [.int .i64 (.nat size), .int .i64 (.nat count), .raw (.map (some m)), .raw (.slice none 0 0), .bool (.lit false), .int .u64 (.v falls), .bool (.lit fused), .int .i64 (.v fuse)] = some (Hd.vals ⟨size, count, m, none, n, cp, false, falls, fused, fuse⟩) := by
    simp [SV.denL, SV.den, SI.den, SB.den, Hd.vals, one?, h0, h0c]
  refine X.begin (rg := [⟨true, [.int .i64 (.nat size), .int .i64 (.nat count), .raw (.map (some m)), .raw (.slice none 0 0), .bool (.lit false), .int .u64 (.v falls), .bool (.lit fused), .int .i64 (.v fuse)], none⟩, ⟨false, [], none⟩, ⟨false, bs, none⟩]) (N := [⟨b, y, 8⟩, ⟨b, y, 0⟩, ⟨sb, sy, size⟩]) (ss := [.own 0 0, .int .i64 (.v i), .osl 2 0 size 1 (some scp)]) Try.func13 rfl B13_ok rfl rfl
    (Sat.stdL ⟨⟨hh.lt, rfl, fun j c hj => ?_, (fun _ => by simp), (fun _ j hj => hh.room hf j hj)⟩, ⟨hh.lt, rfl, (fun j c hj => by simp at hj), (fun h => by cases h), (fun h => by cases h)⟩, ⟨World.block_lt_of_cell? _ _ (hsrc 0 hz.1), rfl, (fun j c hj => by rw [hbs] at hj; exact hsrc.cells _ j c hj), (fun h => by cases h), (fun h => by cases h)⟩, trivial⟩ ?_) ?_
  · obtain ⟨k1, k2⟩ := SV.denL_get _ hhd
    obtain ⟨v, k3, k4⟩ := k2 j c hj
    exact ⟨v, k3, hh j v k4⟩
  · refine ⟨⟨fun _ j j' hj hj' e => ?_, fun _ j j' hj hj' e => ?_, trivial⟩, ⟨fun h => (by rcases h with h | h <;> cases h), trivial⟩, trivial, trivial⟩
    · have h2 : j' < 0 := hj'
      omega
    · have h1 : j < 8 := hj
      have h2 : j' < bs.length := hj'
      have e1 : b = sb := e.1
      have e2 : y + j = sy + j' := e.2
      exact hfar j' (by omega) ⟨e1.symm, by omega, by omega⟩
  refine X.goC FALL_ok false T13_ok 400 _ rfl Try.results13 ?_
  conv => arg 2; cbv
  refine X.cond rfl (fun hc => ?_) (fun _ => ?_)
  · exfalso
    simp only [SB.T, SB.F, SI.den] at hc
    omega
  refine X.goC FALL_ok false T13_ok 400 _ rfl Try.results13 ?_
  conv => arg 2; cbv
  refine X.cond rfl (fun hc => ?_) (fun _ => ?_)
  · exfalso
    simp only [SB.T, SI.den] at hc
    exact hc rfl
  refine X.go T13_ok 3 _ rfl Try.results13 ?_
  conv => arg 2; cbv
  refine X.less [0, 1, 2] ?_
  show X (std Try.prog Try.f13 Q w [⟨b, y, 8⟩, ⟨b, y, 0⟩, ⟨sb, sy, size⟩] [⟨true, [.int .i64 (.nat size), .int .i64 (.nat count), .raw (.map (some m)), .raw (.slice none 0 0), .bool (.lit false), .int .u64 (.v falls), .bool (.lit fused), .int .i64 (.v fuse)], none⟩, ⟨false, [], none⟩, ⟨false, bs, none⟩] B13) _ ⟨[(0, .val (.own 0 0)), (1, .val (.int .i64 (.v i))), (2, .val (.osl 2 0 size 1 (some scp)))], _⟩
  obtain ⟨pr, hpr⟩ : ∃ pr : St → List SV → Prop, pr = fun s l => s.rg[2]? = some ⟨false, bs, none⟩ ∧ l = [.osl 2 0 size 1 (some scp)] := ⟨_, rfl⟩
  have hpr0 : ∀ (f : Fr) (g0 g1 : Rg), pr ⟨f, [g0, g1, ⟨false, bs, none⟩]⟩ [.osl 2 0 size 1 (some scp)] := fun f g0 g1 => by rw [hpr]; exact ⟨rfl, rfl⟩
  refine X.drawnL (fn := Try.f13) T13_ok (callFresh 7 39 bs size 1 42 _ pr) (idxG 42 []) 10 [11, 12, 13] 10 rfl (by kernel_rfl) rfl (callFresh_ok Try.call39 (fun s l hp E N w1 args hP _ _ hS ha => ?_)) (idxG_ok [] rfl (fun q hq => absurd hq List.not_mem_nil)) 42 rfl ?_
  · rw [hpr] at hp
    obtain ⟨h1, h2⟩ := hp
    subst h2
    obtain ⟨p, hp⟩ : ∃ p, N[2]? = some p := ⟨_, List.getElem?_eq_getElem (by rw [hS.len]; exact (List.getElem?_eq_some_iff.1 h1).1)⟩
    have ha' : [Value.slice (some ⟨p.b, p.o + 0, none⟩) size scp] = args := by simpa [SV.denL, SV.den, hp, Num.cap] using ha
    subst ha'
    rw [hbs]
    refine cloneB_ok p.b p.o size scp g w1 (by omega) hz.2 (fun j hj => ?_)
    obtain ⟨v, k1, k2⟩ := hS.cell 2 _ p h1 hp j (.int .u8 (.v (g j))) (by rw [hbs]; exact bytesL_at hj)
    rw [k2, ← k1]; rfl
  generalize hfin : (fun s' => X (std Try.prog Try.f13 Q w [⟨b, y, 8⟩, ⟨b, y, 0⟩, ⟨sb, sy, size⟩] [⟨true, [.int .i64 (.nat size), .int .i64 (.nat count), .raw (.map (some m)), .raw (.slice none 0 0), .bool (.lit false), .int .u64 (.v falls), .bool (.lit fused), .int .i64 (.v fuse)], none⟩, ⟨false, [], none⟩, ⟨false, bs, none⟩] B13) _ s') = fin
  conv => cbv
  repeat (first | refine ⟨rfl, ?_⟩ | refine ⟨hpr0 _ _ _, ?_⟩)
  subst hfin
  show X _ _ _
  rw [← hnw]
  have hO : ∀ k o, InR [⟨b, y, 8⟩, ⟨b, y, 0⟩, ⟨sb, sy, size⟩] [⟨true, [.int .i64 (.nat size), .int .i64 (.nat count), .raw (.map (some m)), .raw (.slice none 0 0), .bool (.lit false), .int .u64 (.v falls), .bool (.lit fused), .int .i64 (.v fuse)], none⟩, ⟨false, [], none⟩, ⟨false, bs, none⟩] k o → hdO b y k o := fun k o h => by
    rcases inR_cons h with ⟨_, e1, e2, e3⟩ | h
    · exact ⟨e1, e2, e3⟩
    rcases inR_cons h with ⟨e0, e1, e2, e3⟩ | h
    · cases e0
    rcases inR_cons h with ⟨e0, _⟩ | h
    · cases e0
    · exact absurd h inR_nil
  refine X.namesP (fun N => ∃ p3, N[3]? = some p3 ∧ w.heap.size ≤ p3.b) (fun N w1 hN hS => ?_) (fun N1 hN1 hN1l hpf => ?_)
  · obtain ⟨p3, q3⟩ : ∃ p, N[3]? = some p := ⟨_, List.getElem?_eq_getElem (by rw [hS.len]; simp)⟩
    have q0 := hN 0 _ rfl
    have q1 := hN 1 _ rfl
    have hx3 := hS.ext 3 ⟨true, bs, none⟩ p3 rfl q3 rfl
    simp only [hbl] at hx3
    refine ⟨p3, q3, ?_⟩
    rcases hS.foot 3 ⟨true, bs, none⟩ p3 rfl q3 rfl with h | h
    · exact h
    · exfalso
      rcases hO _ _ (h 0 (by omega)) with ⟨e1, e2, e3⟩
      · rcases hS.disj 3 0 ⟨true, bs, none⟩ _ p3 _ rfl q3 rfl q0 rfl (by decide) (p3.o + 0 - y) (by show _ < 8; omega) e1.symm with h | h <;> simp only at h <;> omega
  obtain ⟨p3, hp3, hf3⟩ := hpf
  have hN1 : Nums.le [⟨b, y, 8⟩, ⟨b, y, 0⟩, ⟨sb, sy, size⟩] N1 := hN1
  show X (mkE Try.prog Try.f13 Q w (InR [⟨b, y, 8⟩, ⟨b, y, 0⟩, ⟨sb, sy, size⟩] [⟨true, [.int .i64 (.nat size), .int .i64 (.nat count), .raw (.map (some m)), .raw (.slice none 0 0), .bool (.lit false), .int .u64 (.v falls), .bool (.lit fused), .int .i64 (.v fuse)], none⟩, ⟨false, [], none⟩, ⟨false, bs, none⟩]) (elsewhere [⟨b, y, 8⟩, ⟨b, y, 0⟩, ⟨sb, sy, size⟩] [⟨true, [.int .i64 (.nat size), .int .i64 (.nat count), .raw (.map (some m)), .raw (.slice none 0 0), .bool (.lit false), .int .u64 (.v falls), .bool (.lit fused), .int .i64 (.v fuse)], none⟩, ⟨false, [], none⟩, ⟨false, bs, none⟩] w) (fun _ _ => False) (fun _ => True) N1 B13) _ _
  apply X.opEq (T := T13) T13_ok
  · exact opE_append (te := ti87) (new := nw) (m := 1) rfl rfl rfl rfl rfl rfl rfl rfl (appSrc_row (g := ⟨true, nw, none⟩) rfl rfl (by rw [hnw]; rfl) (by rw [hnw]; rfl))
      (appV_nil (te := ti87) (by decide) (appOk_ok (by decide) rfl (by rw [hnw]; rfl) (by rw [hnw]; rfl) (by show (2 * (0 + 1) + 256) * 32 ≤ _; omega) (by omega))) rfl
  refine X.go T13_ok 5 _ rfl Try.results13 ?_
  conv => arg 2; cbv
  refine X.names fun N hNN hNl => ?_
  have hNl : N.length = 5+1 := hNl
  have hNN : N1.le N := hNN
  have hN : Nums.le [⟨b, y, 8⟩, ⟨b, y, 0⟩, ⟨sb, sy, size⟩] N := hN1.trans hNN
  obtain ⟨p5, hp5⟩ : ∃ p, N[5]? = some p := ⟨_, List.getElem?_eq_getElem (by omega)⟩
  have hp3 := hNN 3 _ hp3
  obtain ⟨cp', hcp'⟩ : ∃ c, c = p5.x / 2 := ⟨_, rfl⟩
  refine X.recell1 0 3 (.slv (some ⟨p5.b, p5.o, none⟩) 1 cp') rfl rfl (fun N' hN' v hv => ?_) ?_
  · have := hN' 5 p5 hp5
    simp only [SV.den, this, Num.cap, Nat.sub_zero, Nat.add_zero, ← hcp'] at hv ⊢
    exact hv
  refine X.less [0] ?_
  obtain ⟨h1, hh1⟩ : ∃ h1 : Hd, h1 = ⟨size, count, m, some ⟨p5.b, p5.o, none⟩, 1, cp', false, falls, fused, fuse⟩ := ⟨_, rfl⟩
  obtain ⟨hc0, hhc⟩ : ∃ c : List SV, c = [.int .i64 (.nat size), .int .i64 (.nat count), .raw (.map (some m)), .slv (some ⟨p5.b, p5.o, none⟩) 1 cp', .bool (.lit false), .int .u64 (.v falls), .bool (.lit fused), .int .i64 (.v fuse)] := ⟨_, rfl⟩
  have hden : ∀ N, SV.denL N hc0 = some h1.vals := fun N => by rw [hhc, hh1]; rfl
  show X (mkE Try.prog Try.f13 Q w (InR [⟨b, y, 8⟩, ⟨b, y, 0⟩, ⟨sb, sy, size⟩] [⟨true, [.int .i64 (.nat size), .int .i64 (.nat count), .raw (.map (some m)), .raw (.slice none 0 0), .bool (.lit false), .int .u64 (.v falls), .bool (.lit fused), .int .i64 (.v fuse)], none⟩, ⟨false, [], none⟩, ⟨false, bs, none⟩]) (elsewhere [⟨b, y, 8⟩, ⟨b, y, 0⟩, ⟨sb, sy, size⟩] [⟨true, [.int .i64 (.nat size), .int .i64 (.nat count), .raw (.map (some m)), .raw (.slice none 0 0), .bool (.lit false), .int .u64 (.v falls), .bool (.lit fused), .int .i64 (.v fuse)], none⟩, ⟨false, [], none⟩, ⟨false, bs, none⟩] w) (fun _ _ => False) (fun _ => True) N B13) _ ⟨[(0, .val (.own 0 0))], [⟨true, [.int .i64 (.nat size), .int .i64 (.nat count), .raw (.map (some m)), .slv (some ⟨p5.b, p5.o, none⟩) 1 cp', .bool (.lit false), .int .u64 (.v falls), .bool (.lit fused), .int .i64 (.v fuse)], none⟩, ⟨false, [], none⟩, ⟨false, bs, none⟩, ⟨true, bs, none⟩, ⟨true, nw, none⟩, ⟨true, nw, none⟩]⟩
  rw [← hhc]
  refine X.go T13_ok 400 _ rfl Try.results13 ?_
  conv => arg 2; cbv
  refine X.call rfl rfl rfl rfl Try.call40 (fun N' w1 args hN' hS ha => ?_)
  have q0 := hN' 0 _ (hN 0 _ rfl)
  have ha' : [Value.pointer (some ⟨b, y, none⟩)] = args := by simpa [SV.denL, SV.den, q0] using ha
  subst ha'
  obtain ⟨br, hbr⟩ : ∃ br, br = h1.burn := ⟨_, rfl⟩
  obtain ⟨bt, h2⟩ := br
  refine (burns_ok b y h1 w1 (hd_back q0 hS (hden N')) (fun j hj => (hS.room 0 _ _ rfl q0 rfl j hj).2)).mono fun e w2 ⟨he, k1, k2⟩ => ⟨_, he, ?_⟩
  rw [← hbr] at k1 ⊢
  obtain ⟨hc2, hhc2⟩ : ∃ c : List SV, c = h2.sv := ⟨_, rfl⟩
  refine Goes.cells (r := 0) (g := ⟨true, hc0, none⟩) hN' hS rfl q0 rfl k2 hc2 (by rw [hhc2]; exact Nat.le_refl _) (fun j c hj => by rw [hhc2] at hj; exact k1.cells N' j c hj) (rv := .bool (.lit bt)) rfl rfl ?_
  have hfin : ∀ (Ne : Nums) (w' : World) (k : Int), N.le Ne → k = (if bt then 8 else 0) → Sat (mkE Try.prog Try.f13 Q w (InR [⟨b, y, 8⟩, ⟨b, y, 0⟩, ⟨sb, sy, size⟩] [⟨true, [.int .i64 (.nat size), .int .i64 (.nat count), .raw (.map (some m)), .raw (.slice none 0 0), .bool (.lit false), .int .u64 (.v falls), .bool (.lit fused), .int .i64 (.v fuse)], none⟩, ⟨false, [], none⟩, ⟨false, bs, none⟩]) (elsewhere [⟨b, y, 8⟩, ⟨b, y, 0⟩, ⟨sb, sy, size⟩] [⟨true, [.int .i64 (.nat size), .int .i64 (.nat count), .raw (.map (some m)), .raw (.slice none 0 0), .bool (.lit false), .int .u64 (.v falls), .bool (.lit fused), .int .i64 (.v fuse)], none⟩, ⟨false, [], none⟩, ⟨false, bs, none⟩] w) (fun _ _ => False) (fun _ => True) N B13).toEnv Ne [⟨true, hc2, none⟩, ⟨false, [], none⟩, ⟨false, bs, none⟩, ⟨true, bs, none⟩, ⟨true, nw, none⟩, ⟨true, nw, none⟩] w' → Q (.returned (.int .i64 k)) w' := by
    intro Ne w' k hNe hk hS
    have q0 := hNe 0 _ (hN 0 _ rfl)
    have q3 := hNe 3 _ hp3
    have q5 := hNe 5 _ hp5
    obtain ⟨s1, s2, s3, s4, s5, s6⟩ := burn_same h1
    rw [← hbr, hh1] at s1 s2 s3 s4 s5 s6
    simp only at s1 s2 s3 s4 s5 s6
    have hl2 : nw.length = 2 := by rw [hnw]; rfl
    have hx5 := hS.ext 5 ⟨true, nw, none⟩ p5 rfl q5 rfl
    simp only [hl2] at hx5
    have hx3 := hS.ext 3 ⟨true, bs, none⟩ p3 rfl q3 rfl
    simp only [hbl] at hx3
    have hcap : cp' * 2 ≤ p5.x := by rw [hcp']; exact Nat.div_mul_le_self _ _
    have hnwd : SV.denL Ne nw = some [.int .i64 i, .slice (some ⟨p3.b, p3.o, none⟩) size p3.x] := by
      rw [hnw]; simp [SV.denL, SV.den, SI.den, q3, Num.cap]
    have hcells : ∀ (j : Nat) (c : SV) (v : Value), nw[j]? = some c → c.den Ne = some v → w'.cell? ⟨p5.b, p5.o + j, none⟩ = some v := fun j c v hj hv => by
      obtain ⟨v', e1, e2⟩ := hS.cell 5 ⟨true, nw, none⟩ p5 rfl q5 j c hj
      rw [hv] at e1; cases e1; exact e2
    have hhs : ∀ o, o < cp' * 2 → ¬ hdO b y p5.b (p5.o + o) := fun o ho ⟨e1, e2, e3⟩ => by
      rcases hS.disj 5 0 ⟨true, nw, none⟩ ⟨true, hc2, none⟩ p5 _ rfl q5 rfl q0 rfl (by decide) (p5.o + o - y) (by show _ < 8; omega) e1.symm with h | h <;> simp only at h <;> omega
    rw [hQ]
    refine ⟨bt, h1, h2, p5.b, p5.o, ⟨p3.b, p3.o, p3.x, g⟩, by rw [hk], hbr.symm, by rw [hh1, s4, s6, h0], ⟨hd_back q0 hS (by rw [hhc2]; rfl), fun j hj => (hS.room 0 _ _ rfl q0 rfl j hj).2, s4, by rw [s5, h0], ?_, fun o ho => ?_, fun q hq => ?_, ?_, ⟨hx3, fun j hj => ?_, fun j hj => (hS.room 3 _ p3 rfl q3 rfl j (by omega)).2⟩, rfl, ?_, fun o o' ho ho' => ?_, fun o ho => ?_, ?_⟩, hS.chg.mono fun k o _ h => hO k o h⟩
    · rw [s6, hcp']
      exact (Nat.le_div_iff_mul_le (by decide)).2 (by omega)
    · rw [s6] at ho
      exact hS.room 5 _ p5 rfl q5 rfl o (by omega)
    · omega
    · rw [h0]
      have hat : ∀ t, nw[0 * 2 + t]? = nw[t]? := fun t => by rw [Nat.zero_mul, Nat.zero_add]
      exact ⟨hcells (0 * 2 + 0) (.int .i64 (.v i)) _ (by rw [hat, hnw]; rfl) rfl, hcells (0 * 2 + 1) (.osl 3 0 size 1 none) _ (by rw [hat, hnw]; rfl) (by simp [SV.den, q3, Num.cap, By.val])⟩
    · exact hS.at q3 (g := ⟨true, bs, none⟩) rfl (j := j) (by rw [hbs]; exact bytesL_at hj) rfl
    · exact hf3
    · rw [s6] at ho
      rintro ⟨e1, e2⟩
      have := hS.disj 5 3 ⟨true, nw, none⟩ ⟨true, bs, none⟩ p5 p3 rfl q5 rfl q3 rfl (by decide) o' (by show o' < p3.x; omega) e1.symm
      simp only at e2
      omega
    · rw [s6] at ho
      exact hhs o ho
    · rcases hS.foot 5 ⟨true, nw, none⟩ p5 rfl q5 rfl with h | h
      · exact .inl h
      · refine .inr fun o ho => ?_
        rw [s6] at ho
        rcases hO _ _ (h o (by omega)) with e
        · exact absurd e (hhs o ho)
  cases bt with
  | true =>
    refine X.go T13_ok 400 _ rfl Try.results13 ?_
    conv => arg 2; cbv
    refine X.done T13_ok rfl (fun Ne w' v hNe hS hv => ?_)
    cases hv
    exact hfin Ne w' 8 hNe rfl hS
  | false =>
    refine X.go T13_ok 400 _ rfl Try.results13 ?_
    conv => arg 2; cbv
    refine X.done T13_ok rfl (fun Ne w' v hNe hS hv => ?_)
    cases hv
    exact hfin Ne w' 0 hNe rfl hS
end Go.Proofs.Ytkjhpaeminegoaa

namespace Go.Proofs.Ytkjhpaeminegoaa
open Go.Eng
theorem updA_at {α : Type} (f : Nat → α) (i : Nat) (x : α) : updA f i x i = x := by simp [updA]
theorem updA_ne {α : Type} (f : Nat → α) {i j : Nat} (x : α) (h : j ≠ i) : updA f i x j = f j := by simp [updA, h]
def Dk.wrote (d : Dk) (h2 : Hd) (wb' wy' : Nat) (i : Int) (u : By) : Dk := ⟨d.b, d.y, h2, wb', wy', updA d.ws d.h.n (i, u), d.kept⟩
theorem By.At.lt {u : By} {z : Nat} {w : World} (h : u.At z w) {k o : Nat} (hd : u.D z k o) : k < w.heap.size := (h.there hd).lt
theorem DiskAt.hlt {d : Dk} {w : World} (h : DiskAt d w) : d.b < w.heap.size := h.hd.lt
theorem DiskAt.mapNe {d : Dk} {w : World} (h : DiskAt d w) {k o : Nat} (hc : (w.cell? ⟨k, o, none⟩).isSome = true) : k ≠ d.h.m := fun e => by
  obtain ⟨x, hx⟩ := Option.isSome_iff_exists.1 h.mp.ob
  rw [e, cell_obj hx] at hc; cases hc
theorem wrote_disk {d : Dk} {w w' : World} {h1 h2 : Hd} {bt : Bool} {wb' wy' : Nat} {i : Int} {u : By} {g : Nat → Int} {row : Nat → Nat → Prop} (hD : DiskAt d w) (ok : d.Ok) (hn : d.h.n < 1000) (hi : d.h.has i) (hb : h1.burn = (bt, h2))
    (hh1 : h1 = ⟨d.h.size, d.h.count, d.h.m, h2.po, d.h.n + 1, h2.cp, d.h.off, d.h.falls, d.h.fused, d.h.fuse⟩) (W : WroteAt d.b d.y d.h.m d.h.n h2 i d.h.size g d.ws w wb' wy' u row w') (hrow : ∀ k o, row k o → d.rowD k o) (hc : Chg (fun k o => hdO d.b d.y k o ∨ row k o) w w') :
    DiskAt (d.wrote h2 wb' wy' i u) w' ∧ (d.wrote h2 wb' wy' i u).Ok ∧ Chg d.D w w' ∧ ∀ k o, (d.wrote h2 wb' wy' i u).D k o → d.D k o ∨ w.heap.size ≤ k := by
  obtain ⟨s1, s2, s3, s4, s5, s6⟩ := burn_same h1
  rw [hb, hh1] at s1 s2 s3
  simp only at s1 s2 s3
  have hsz := s1
  -- the new row
  have hrow' : ∀ k o, (d.wrote h2 wb' wy' i u).rowD k o → d.rowD k o ∨ w.heap.size ≤ k := fun k o ⟨e1, e2, e3⟩ => by
    have e1 : k = wb' := e1
    have e2 : wy' ≤ o := e2
    have e3 : o < wy' + h2.cp * 2 := e3
    rcases W.rows with h | h
    · right; rw [e1]; exact h
    · left
      have := hrow _ _ (h (o - wy') (by omega))
      rw [show wy' + (o - wy') = o by omega] at this
      rw [e1]; exact this
  have hnh : ∀ k o, (d.wrote h2 wb' wy' i u).rowD k o → ¬ hdO d.b d.y k o := fun k o ⟨e1, e2, e3⟩ hd => by
    have e1 : k = wb' := e1
    have e2 : wy' ≤ o := e2
    have e3 : o < wy' + h2.cp * 2 := e3
    refine W.hs (o - wy') (by omega) ?_
    rw [show wy' + (o - wy') = o by omega, ← e1]; exact hd
  have hun : ∀ k o, u.D d.h.size k o → w.heap.size ≤ k := fun k o ⟨e1, _, _⟩ => by rw [e1]; exact W.fr
  have hur : ∀ k o, u.D d.h.size k o → ¬ (d.wrote h2 wb' wy' i u).rowD k o := fun k o ⟨e1, e2, e3⟩ ⟨f1, f2, f3⟩ => by
    have f1 : k = wb' := f1
    have f2 : wy' ≤ o := f2
    have f3 : o < wy' + h2.cp * 2 := f3
    exact W.sep (o - wy') (o - u.y) (by omega) (by omega) ⟨f1.symm.trans e1, by omega⟩
  have hws : ∀ q, q < d.h.n → (d.wrote h2 wb' wy' i u).ws q = d.ws q := fun q hq => updA_ne _ _ (by omega)
  have hwn : (d.wrote h2 wb' wy' i u).ws d.h.n = (i, u) := updA_at _ _ _
  have keep : ∀ {v : By}, v.At d.h.size w → (∀ k o, v.D d.h.size k o → ¬ hdO d.b d.y k o ∧ ¬ d.rowD k o) → v.At d.h.size w' := fun hv hs => hv.chg hc fun o ho h => h.elim (hs _ _ ho).1 (fun h => (hs _ _ ho).2 (hrow _ _ h))
  have hn' : (d.wrote h2 wb' wy' i u).h.n = d.h.n + 1 := W.hn
  have hg : (d.wrote h2 wb' wy' i u).g = d.g := by
    funext q
    show (d.kept q).map (·.val h2.size) = (d.kept q).map (·.val d.h.size)
    rw [hsz]
  refine ⟨⟨by rw [hn']; exact W.nc, W.hd, W.hf, ?_, W.rm, fun q hq => ?_, fun q hq => ?_, fun q v hq => ?_⟩, ⟨⟨?_, ?_, by rw [hn']; omega, ?_, fun q hq => ?_, fun k o h1 h2 => hnh k o h2 h1, fun q hq k o hk => ?_, fun q v hq k o hk => ?_, fun q q' hq hq' hne k o hk hk' => ?_⟩, fun q q' v hq hq' k o hk hk' => ?_⟩, ?_, fun k o hd => ?_⟩
  · rw [hg]
    show MapAt h2.m d.g w'
    rw [s3]
    refine hD.mp.at (objAt_chg hc hD.mp.ob fun o h => ?_)
    rcases h with ⟨e1, e2, e3⟩ | h
    · exact hD.mapNe (k := d.b) (o := o) (by have := (hD.hd.room hD.hf (o - d.y) (by omega)).1; rwa [show d.y + (o - d.y) = o by omega] at this) e1.symm
    · obtain ⟨e1, e2, e3⟩ := hrow _ _ h
      exact hD.mapNe (k := d.wb) (o := o) (by have := (hD.rm (o - d.wy) (by omega)).1; rwa [show d.wy + (o - d.wy) = o by omega] at this) e1.symm
  · rw [hn'] at hq
    show w'.cell? ⟨wb', wy' + q * 2, none⟩ = _ ∧ w'.cell? ⟨wb', wy' + q * 2 + 1, none⟩ = some ((((d.wrote h2 wb' wy' i u).ws q).2).val h2.size)
    rw [hsz]
    rcases Nat.lt_or_ge q d.h.n with h | h
    · rw [hws q h]; exact W.old q h
    · obtain rfl : q = d.h.n := by omega
      rw [hwn]; exact W.new
  · rw [hn'] at hq
    show (((d.wrote h2 wb' wy' i u).ws q).2).At h2.size w'
    rw [hsz]
    rcases Nat.lt_or_ge q d.h.n with h | h
    · rw [hws q h]; exact keep (hD.wa q h) (ok.a2 q h)
    · obtain rfl : q = d.h.n := by omega
      rw [hwn]; exact W.ua
  · show v.At h2.size w'
    rw [hsz]
    exact keep (hD.ka q v hq) (ok.a3 q v hq)
  · show 64 ≤ h2.size ∧ h2.size ≤ 512
    rw [hsz]; exact ok.sz
  · show 1 ≤ h2.count ∧ h2.count ≤ 4096
    rw [s2]; exact ok.ct
  · exact .inr ⟨W.po, by have := W.nc; show 0 < h2.cp; omega⟩
  · rw [hn'] at hq
    show 0 ≤ ((d.wrote h2 wb' wy' i u).ws q).1 ∧ ((d.wrote h2 wb' wy' i u).ws q).1 < h2.count
    rw [s2]
    rcases Nat.lt_or_ge q d.h.n with h | h
    · rw [hws q h]; exact ok.wi q h
    · obtain rfl : q = d.h.n := by omega
      rw [hwn]; exact hi
  · rw [hn'] at hq
    have hk : (((d.wrote h2 wb' wy' i u).ws q).2).D h2.size k o := hk
    rw [hsz] at hk
    rcases Nat.lt_or_ge q d.h.n with h | h
    · rw [hws q h] at hk
      refine ⟨(ok.a2 q h k o hk).1, fun hr => ?_⟩
      rcases hrow' k o hr with h' | h'
      · exact (ok.a2 q h k o hk).2 h'
      · have := (hD.wa q h).lt hk; omega
    · obtain rfl : q = d.h.n := by omega
      rw [hwn] at hk
      refine ⟨fun ⟨e1, _, _⟩ => ?_, hur k o hk⟩
      have h1 := hun k o hk
      have h2 := hD.hlt
      have e1 : k = d.b := e1
      omega
  · have hk : v.D h2.size k o := hk
    rw [hsz] at hk
    refine ⟨(ok.a3 q v hq k o hk).1, fun hr => ?_⟩
    rcases hrow' k o hr with h' | h'
    · exact (ok.a3 q v hq k o hk).2 h'
    · have := (hD.ka q v hq).lt hk; omega
  · rw [hn'] at hq hq'
    have hk : (((d.wrote h2 wb' wy' i u).ws q).2).D h2.size k o := hk
    have hk' : (((d.wrote h2 wb' wy' i u).ws q').2).D h2.size k o := hk'
    rw [hsz] at hk hk'
    rcases Nat.lt_or_ge q d.h.n with h | h <;> rcases Nat.lt_or_ge q' d.h.n with h' | h'
    · rw [hws q h] at hk; rw [hws q' h'] at hk'
      exact ok.a4 q q' h h' hne k o hk hk'
    · obtain rfl : q' = d.h.n := by omega
      rw [hws q h] at hk; rw [hwn] at hk'
      have := (hD.wa q h).lt hk; have := hun k o hk'; omega
    · obtain rfl : q = d.h.n := by omega
      rw [hws q' h'] at hk'; rw [hwn] at hk
      have := (hD.wa q' h').lt hk'; have := hun k o hk; omega
    · omega
  · rw [hn'] at hq
    have hk : v.D h2.size k o := hk
    have hk' : (((d.wrote h2 wb' wy' i u).ws q).2).D h2.size k o := hk'
    rw [hsz] at hk hk'
    rcases Nat.lt_or_ge q d.h.n with h | h
    · rw [hws q h] at hk'
      exact ok.a5 q q' v h hq' k o hk hk'
    · obtain rfl : q = d.h.n := by omega
      rw [hwn] at hk'
      have := (hD.ka q' v hq').lt hk; have := hun k o hk'; omega
  · exact hc.mono fun k o _ h => h.elim .inl (fun h => .inr (.inr (.inl (hrow _ _ h))))
  · rcases hd with h | h | h | ⟨q, hq, h⟩ | ⟨q, v, hq, h⟩
    · exact .inl (.inl h)
    · have h : k = h2.m := h
      rw [s3] at h
      exact .inl (.inr (.inl h))
    · exact (hrow' k o h).imp (fun h => .inr (.inr (.inl h))) id
    · rw [hn'] at hq
      have h : (((d.wrote h2 wb' wy' i u).ws q).2).D h2.size k o := h
      rw [hsz] at h
      rcases Nat.lt_or_ge q d.h.n with h' | h'
      · rw [hws q h'] at h
        exact .inl (.inr (.inr (.inr (.inl ⟨q, h', h⟩))))
      · obtain rfl : q = d.h.n := by omega
        rw [hwn] at h
        exact .inr (hun k o h)
    · have h : v.D h2.size k o := h
      rw [hsz] at h
      exact .inl (.inr (.inr (.inr (.inr ⟨q, v, hq, h⟩))))
theorem write_ok (d : Dk) (i : Int) (sb sy scp : Nat) (g : Nat → Int) (w : World) (hD : DiskAt d w) (ok : d.Ok) (hoff : d.h.off = false) (hi : d.h.has i) (hn : d.h.n < 1000) (hsrc : BytesAt sb sy d.h.size g w) (hfar : ∀ o, o < d.h.size → ¬ d.D sb (sy + o)) :
    Calls Try.prog 13 #[.pointer (some ⟨d.b, d.y, none⟩), .int .i64 i, .slice (some ⟨sb, sy, none⟩) d.h.size scp] w fun e w' => ∃ (bt : Bool) (h1 h2 : Hd) (wb' wy' : Nat) (u : By), e = .returned (.int .i64 (if bt then 8 else 0)) ∧ h1.burn = (bt, h2) ∧
      h1 = ⟨d.h.size, d.h.count, d.h.m, h2.po, d.h.n + 1, h2.cp, d.h.off, d.h.falls, d.h.fused, d.h.fuse⟩ ∧ u.f = g ∧ DiskAt (d.wrote h2 wb' wy' i u) w' ∧ (d.wrote h2 wb' wy' i u).Ok ∧ Chg d.D w w' ∧ ∀ k o, (d.wrote h2 wb' wy' i u).D k o → d.D k o ∨ w.heap.size ≤ k := by
  obtain ⟨b, y, ⟨size, count, m, po, n, cp, off, falls, fused, fuse⟩, wb, wy, ws, kept⟩ := d
  obtain rfl : off = false := hoff
  have hsz : 64 ≤ size ∧ size ≤ 512 := ok.sz
  have hn : n < 1000 := hn
  have hnc : n ≤ cp := hD.nc
  rcases ok.po with ⟨h1, h2, h3⟩ | h1
  · obtain rfl : po = none := h1
    refine (write_nil b y m n cp size count falls fuse fused ws i sb sy scp g w ⟨by omega, by omega⟩ (by omega) h2 h3 hi hD.hd hD.hf hsrc (fun o ho h => hfar o ho (.inl h))).mono fun e w' ⟨bt, q1, q2, wb', wy', u, he, k1, k2, k3, k4⟩ => ?_
    exact ⟨bt, q1, q2, wb', wy', u, he, k1, k2, k3.uf, wrote_disk hD ok hn hi k1 k2 k3 (fun _ _ h => h.elim) (k4.mono fun _ _ _ h => .inl h)⟩
  · obtain rfl : po = some ⟨wb, wy, none⟩ := h1.1
    have hcp : 0 < cp := h1.2
    have hlt : wb < w.heap.size := by
      have := (hD.rm 0 (by show 0 < cp * 2; omega)).1
      obtain ⟨v, hv⟩ := Option.isSome_iff_exists.1 this
      exact World.block_lt_of_cell? _ _ hv
    refine (write_row b y m wb wy n cp size count falls fuse fused ws i sb sy scp g w ⟨by omega, by omega⟩ (by omega) hnc hi hD.hd hD.hf hsrc (fun o ho => ⟨fun h => hfar o ho (.inl h), fun h => hfar o ho (.inr (.inr (.inl h)))⟩) hD.rm hD.rw hlt ok.a1).mono fun e w' ⟨bt, q1, q2, wb', wy', u, he, k1, k2, k3, k4⟩ => ?_
    exact ⟨bt, q1, q2, wb', wy', u, he, k1, k2, k3.uf, wrote_disk hD ok hn hi k1 k2 k3 (fun _ _ h => h) k4⟩
end Go.Proofs.Ytkjhpaeminegoaa

namespace Go.Proofs.Ytkjhpaeminegoaa
open Go.RowKit Go.Shelf
attribute [local go_sem] Oper.semAt_some
def downs (n k : Nat) : List Nat := (List.range k).map fun j => n - 1 - j
theorem downs_succ (n k : Nat) : downs n (k + 1) = downs n k ++ [n - 1 - k] := by simp [downs, List.range_succ]
theorem downs_len (n k : Nat) : (downs n k).length = k := by simp [downs]
set_option maxRecDepth 100000 in
set_option maxHeartbeats 2000000 in
theorem back1_in (F : Fence) (n : Nat) (hf : F.fn 65) (hro : F.round = none) (hn : 1 ≤ n) (l Bs n₀ b off len cap size : Nat) (ws : Nat → Int × By) (hreach : len ≤ 1000) (hb : b < n₀) (hBn : Bs < n₀) (J Jx : List {q : Nat // q < len} → World → Prop)
    (hY : ∀ (pre : List {q : Nat // q < len}) (x : {q : Nat // q < len}) W, J pre W → pre.length < len → YieldAt F (n - 1) Try.prog l #[.int .i64 (x.1 : Int), wv size (ws x.1)] W fun e W' =>
      (e = .returned (.bool true) ∧ J (pre ++ [x]) W' ∧ Below n₀ W W') ∨ (e = .returned (.bool false) ∧ Jx (pre ++ [x]) W'))
    (W : World) (hBs : W.cell? ⟨Bs, 0, none⟩ = some (.slice (some ⟨b, off, none⟩) len cap)) (hc : ∀ j, j < len → W.cell? ⟨b, off + j * 2, none⟩ = some (.int .i64 (ws j).1) ∧ W.cell? ⟨b, off + j * 2 + 1, none⟩ = some ((ws j).2.val size)) (h0 : J [] W) :
    CallsIn F n Try.prog 65 #[.func (.yield l) #[] #[], .pointer (some ⟨Bs, 0, none⟩)] W fun e W' => (∃ v, e = .returned v) ∧
      ((∃ ys : List {q : Nat // q < len}, ys.map (·.1) = downs len len ∧ J ys W') ∨ (∃ pre : List {q : Nat // q < len}, (∃ k, k ≤ len ∧ pre.map (·.1) = downs len k) ∧ Jx pre W')) := by
  refine callsIn_of_wp Try.func65 rfl hf ?_ hro
  simp only [Try.ntmps65, List.size_toArray, List.length_cons, List.length_nil, Nat.reduceAdd, Nat.reduceSub, Array.replicate_succ, Array.replicate_zero, List.push_toArray, List.append_toArray, List.nil_append, List.cons_append]
  gi_wp2
  gi_loopw [3] (fun i wr => ∃ (k : Nat) (pre : List {q : Nat // q < len}), k ≤ len ∧ i = .int .i64 ((len : Int) - 1 - k) ∧ pre.map (·.1) = downs len k ∧ J pre wr ∧ Below n₀ W wr)
    (fun i _ => (intOf i + 1).toNat)
  case atStart =>
    exact ⟨0, [], Nat.zero_le _, by simp, rfl, h0, Below.refl _ _⟩
  case round =>
    obtain ⟨k, pre, hk, rfl, hpre, hJs, hnx⟩ := hrel
    have hBx : wr.cell? ⟨Bs, 0, none⟩ = some (.slice (some ⟨b, off, none⟩) len cap) := (hnx.cell (p := ⟨Bs, 0, none⟩) hBn).trans hBs
    by_cases hlt : k < len
    · obtain ⟨q, hq⟩ : ∃ q, q = len - 1 - k := ⟨_, rfl⟩
      have hqi : (len : Int) - 1 - k = (q : Nat) := by omega
      have hql : q < len := by omega
      have h1 := (hnx.cell (p := ⟨b, off + q * 2, none⟩) hb).trans (hc q hql).1
      have h2 := (hnx.cell (p := ⟨b, off + q * 2 + 1, none⟩) hb).trans (hc q hql).2
      obtain ⟨fn, tmps, assign, body, hy, hR⟩ := hY pre ⟨q, hql⟩ wr hJs (by rw [← List.length_map (f := fun x : {q : Nat // q < len} => x.1), hpre, downs_len]; exact hlt)
      rw [hqi]
      have hds : (pre ++ [(⟨q, hql⟩ : {q : Nat // q < len})]).map (·.1) = downs len (k + 1) := by rw [downs_succ, ← hq, List.map_append, hpre]; rfl
      have hqi2 : (q : Int) - 1 = (len : Int) - 1 - ((k + 1 : Nat) : Int) := by omega
      have hq1 : q ≤ 1000 := by omega
      clear hq hqi
      simp only [wv] at hy
      gi_wp2
      refine hR.mono ?_
      rintro e W3 (⟨rfl, hJ3, hk3⟩ | ⟨rfl, hJx3⟩)
      · gi_wp2
        go_roundw
        case rel => exact ⟨k + 1, _, by omega, by simp, hds, hJ3, hnx.trans hk3⟩
        case measure => simp [intOf]; omega
      · gi_wp2
        refine bodyPost_ret (results_none rfl _ _ _) rfl ?_
        exact ⟨⟨_, rfl⟩, .inr ⟨_, ⟨k + 1, by omega, hds⟩, hJx3⟩⟩
    · obtain rfl : k = len := by omega
      have hneg : (k : Int) - 1 - k = -1 := by omega
      rw [hneg]
      gi_wp2
      go_end0
      exact ⟨⟨_, rfl⟩, .inl ⟨_, hpre, hJs⟩⟩
set_option maxRecDepth 100000 in
set_option maxHeartbeats 1000000 in
theorem back1_nil (F : Fence) (n : Nat) (hf : F.fn 65) (hro : F.round = none) {α : Type} (l Bs : Nat) (J : List α → World → Prop) (W : World) (hBs : W.cell? ⟨Bs, 0, none⟩ = some (.slice none 0 0)) (h0 : J [] W) :
    CallsIn F n Try.prog 65 #[.func (.yield l) #[] #[], .pointer (some ⟨Bs, 0, none⟩)] W fun e W' => (∃ v, e = .returned v) ∧ J [] W' := by
  refine callsIn_of_wp Try.func65 rfl hf ?_ hro
  simp only [Try.ntmps65, List.size_toArray, List.length_cons, List.length_nil, Nat.reduceAdd, Nat.reduceSub, Array.replicate_succ, Array.replicate_zero, List.push_toArray, List.append_toArray, List.nil_append, List.cons_append]
  gi_wp2
  gi_loopw [3] (fun i wr => i = .int .i64 (-1) ∧ J [] wr) (fun _ _ => 0)
  case atStart => exact ⟨rfl, h0⟩
  case round =>
    obtain ⟨rfl, hJs⟩ := hrel
    gi_wp2
    go_end0
    exact ⟨⟨_, rfl⟩, hJs⟩
set_option maxHeartbeats 1000000 in
theorem back_in (F : Fence) (n : Nat) (hf : F.fn 42) (hro : F.round = none) (a : Option Addr) (len cap : Nat) (w : World) :
    CallsIn F n Try.prog 42 #[.slice a len cap] w fun e w' => e = .returned (.func (.func 65) #[] #[.pointer (some ⟨w.heap.size, 0, none⟩)]) ∧ w' = w.alloc (.cells #[.slice a len cap] 81) := by
  refine callsIn_of_wp Try.func42 rfl hf ?_ hro
  simp only [Try.ntmps42, List.size_toArray, List.length_cons, List.length_nil, Nat.reduceAdd, Nat.reduceSub, Array.replicate_succ, Array.replicate_zero, List.push_toArray, List.append_toArray, List.nil_append, List.cons_append]
  gi_wp2
  go_ret
  exact ⟨rfl, rfl⟩
theorem back_stops (F : Fence) (n : Nat) (hf : F.fn 65) (hro : F.round = none) (hn : 1 ≤ n) (Bs n₀ : Nat) (po : Option Addr) (b off len cap size : Nat) (ws : Nat → Int × By) (hreach : len ≤ 1000) (w : World) (hBs : Bs < n₀) (hn₀ : n₀ ≤ w.heap.size)
    (hpo : (po = none ∧ len = 0 ∧ cap = 0) ∨ (po = some ⟨b, off, none⟩ ∧ b < n₀)) (hc : w.cell? ⟨Bs, 0, none⟩ = some (.slice po len cap)) (hr : ∀ j, j < len → w.cell? ⟨b, off + j * 2, none⟩ = some (.int .i64 (ws j).1) ∧ w.cell? ⟨b, off + j * 2 + 1, none⟩ = some ((ws j).2.val size)) :
    SeqStopsK F n Try.prog 65 #[.pointer (some ⟨Bs, 0, none⟩)] (fun x : {q : Nat // q < len} => #[Value.int .i64 (x.1 : Int), wv size (ws x.1)]) (Below n₀) (fun ys => ys.map (·.1) = downs len len) (fun pre => ∃ k, k ≤ len ∧ pre.map (·.1) = downs len k) len w := fun l J Jx W hW _ _ hY h0 => by
  have hc' := (hW.cell (p := ⟨Bs, 0, none⟩) (by show Bs < _; omega)).trans hc
  rcases hpo with ⟨rfl, rfl, rfl⟩ | ⟨rfl, hb⟩
  · exact (back1_nil F n hf hro l Bs J W hc' h0).mono fun e W' ⟨he, hj⟩ => ⟨he, .inl ⟨_, rfl, hj⟩⟩
  · refine (back1_in F n hf hro hn l Bs n₀ b off len cap size ws hreach hb hBs J Jx hY W hc' (fun j hj => ⟨(hW.cell (p := ⟨b, off + j * 2, none⟩) (by show b < _; omega)).trans (hr j hj).1, (hW.cell (p := ⟨b, off + j * 2 + 1, none⟩) (by show b < _; omega)).trans (hr j hj).2⟩) h0).mono ?_
    rintro e W' ⟨he, h | h⟩
    · exact ⟨he, .inl h⟩
    · exact ⟨he, .inr h⟩
set_option maxRecDepth 100000 in
set_option maxHeartbeats 1000000 in
theorem may_in (F : Fence) (n : Nat) (hf : F.fn 37) (hro : F.round = none) (b y : Nat) (w : World) (ho : w.cell? ⟨b, y + 4, none⟩ = some (.bool false)) :
    CallsIn F n Try.prog 37 #[.pointer (some ⟨b, y, none⟩)] w fun e w' => e = .returned (.int .i64 0) ∧ w' = w := by
  refine callsIn_of_wp Try.func37 rfl hf ?_ hro
  simp only [Try.ntmps37, List.size_toArray, List.length_cons, List.length_nil, Nat.reduceAdd, Nat.reduceSub, Array.replicate_succ, Array.replicate_zero, List.push_toArray, List.append_toArray, List.nil_append, List.cons_append]
  gi_wp2
  go_ret
  exact ⟨rfl, rfl⟩
set_option maxRecDepth 100000 in
set_option maxHeartbeats 1000000 in
theorem has_in (F : Fence) (n : Nat) (hf : F.fn 38) (hro : F.round = none) (b y : Nat) (i : Int) (c : Nat) (w : World) (ho : w.cell? ⟨b, y + 1, none⟩ = some (.int .i64 (c : Int))) (h1 : 0 ≤ i) (h2 : i < c) :
    CallsIn F n Try.prog 38 #[.pointer (some ⟨b, y, none⟩), .int .i64 i] w fun e w' => e = .returned (.bool true) ∧ w' = w := by
  refine callsIn_of_wp Try.func38 rfl hf ?_ hro
  simp only [Try.ntmps38, List.size_toArray, List.length_cons, List.length_nil, Nat.reduceAdd, Nat.reduceSub, Array.replicate_succ, Array.replicate_zero, List.push_toArray, List.append_toArray, List.nil_append, List.cons_append]
  gi_wp2
  go_ret
  simp
end Go.Proofs.Ytkjhpaeminegoaa

namespace Go.Proofs.Ytkjhpaeminegoaa
open Go.RowKit Go.Shelf
attribute [local go_sem] Oper.semAt_some
theorem chg_of_below {w w' : World} (h : Below w.heap.size w w') : Eng.Chg (fun _ _ => False) w w' :=
  ⟨h.os, h.tape, h.output, h.size, fun k hk _ => h.block k hk, fun k c e f hc => ⟨c, by rw [h.block k (Array.getElem?_eq_some_iff.1 hc).1]; exact hc, rfl, fun _ _ => rfl⟩⟩
theorem below_of_chg {w w' : World} (h : Eng.Chg (fun _ _ => False) w w') : Below w.heap.size w w' :=
  ⟨h.os, h.tape, h.output, h.size, fun k hk => h.same k hk (fun _ h => h)⟩
theorem four_heap (w : World) (a b c e : Obj) : ((((w.alloc a).alloc b).alloc c).alloc e).heap[w.heap.size]? = some a ∧ ((((w.alloc a).alloc b).alloc c).alloc e).heap[w.heap.size + 1]? = some b ∧
    ((((w.alloc a).alloc b).alloc c).alloc e).heap[w.heap.size + 1 + 1]? = some c ∧ ((((w.alloc a).alloc b).alloc c).alloc e).heap[w.heap.size + 1 + 1 + 1]? = some e := by
  simp only [Eng.alloc_heap, Array.getElem?_push, Array.size_push]
  refine ⟨?_, ?_, ?_, ?_⟩ <;> (repeat (first | rfl | rw [if_pos (by omega)] | rw [if_neg (by omega)]))
def rdF (st : Nat → Int) (ws : Nat → Int × By) (i : Int) : Nat → Nat → Int
  | 0 => st
  | n + 1 => if (ws n).1 = i then (ws n).2.f else rdF st ws i n
theorem rdF_hit {st : Nat → Int} {ws : Nat → Int × By} {i : Int} {q : Nat} (hq : (ws q).1 = i) : ∀ {n : Nat}, q < n → (∀ q', q < q' → q' < n → (ws q').1 ≠ i) → rdF st ws i n = (ws q).2.f
  | 0, h, _ => by omega
  | n + 1, h, hno => by
    by_cases e : q = n
    · subst e; simp [rdF, hq]
    · have := hno n (by omega) (by omega)
      simp only [rdF, if_neg this]
      exact rdF_hit hq (by omega) fun q' h1 h2 => hno q' h1 (by omega)
theorem rdF_miss {st : Nat → Int} {ws : Nat → Int × By} {i : Int} : ∀ {n : Nat}, (∀ q, q < n → (ws q).1 ≠ i) → rdF st ws i n = st
  | 0, _ => rfl
  | n + 1, h => by
    simp only [rdF, if_neg (h n (by omega))]
    exact rdF_miss fun q hq => h q (by omega)
def Dk.rd (d : Dk) (i : Int) : Nat → Int := rdF (d.st i) d.ws i d.h.n
def ReadRet (g : Nat → Int) (n : Nat) (w : World) (e : Ending) (w' : World) : Prop :=
  ∃ k y x : Nat, e = .returned (.tuple #[.slice (some ⟨k, y, none⟩) n x, .int .i64 0]) ∧ w.heap.size ≤ k ∧ n ≤ x ∧ BytesAt k y n g w' ∧ (∀ j, j < x → (w'.cell? ⟨k, y + j, none⟩).isSome = true ∧ w'.frozen? ⟨k, y + j, none⟩ = false) ∧ Eng.Chg (fun _ _ => False) w w'
theorem box_kept {W0 W w2 : World} {k : Nat} {v : Value} {t : TypeId} (hk : W0.heap[k]? = some (.cells #[v] t (0, 0))) (h : Below W0.heap.size W0 W) (hc : Eng.Chg (fun _ _ => False) W w2) : w2.cell? ⟨k, 0, none⟩ = some v ∧ w2.frozen? ⟨k, 0, none⟩ = false ∧ W.heap[k]? = some (.cells #[v] t (0, 0)) := by
  have hlt := (Array.getElem?_eq_some_iff.1 hk).1
  have h1 : W.heap[k]? = some (.cells #[v] t (0, 0)) := (h.block k hlt).trans hk
  have h2 : w2.heap[k]? = some (.cells #[v] t (0, 0)) := ((below_of_chg hc).block k (Array.getElem?_eq_some_iff.1 h1).1).trans h1
  exact ⟨by simp [World.cell?, h2], by simp [World.frozen?, h2], h1⟩
structure ResAt (w : World) (g : Nat → Int) (n k y x : Nat) (W : World) : Prop where
  c4 : W.cell? ⟨w.heap.size + 1, 0, none⟩ = some (.slice (some ⟨k, y, none⟩) n x)
  c5 : W.cell? ⟨w.heap.size + 1 + 1, 0, none⟩ = some (.int .i64 0)
  fr : w.heap.size ≤ k
  nx : n ≤ x
  by' : BytesAt k y n g W
  room : ∀ j, j < x → (W.cell? ⟨k, y + j, none⟩).isSome = true ∧ W.frozen? ⟨k, y + j, none⟩ = false
  bl : Below w.heap.size w W
theorem ResAt.own {w : World} {g : Nat → Int} {n k y x : Nat} {W W' : World} {row : Option Nat} {B : Nat} (h : ResAt w g n k y x W) (hg : W.grownBy W' row) (hr : ∀ r, row = some r → B ≤ r ∧ ∃ o : Obj, W.heap[r]? = some o ∧ o.isCells = false) (hB : w.heap.size ≤ B) : ResAt w g n k y x W' := by
  have hr2 := fun r e => (hr r e).2
  refine ⟨cell_kept h.c4 hg hr2, cell_kept h.c5 hg hr2, h.fr, h.nx, fun j hj => cell_kept (h.by' j hj) hg hr2, fun j hj => ?_, h.bl.grown hg h.bl.size (fun r e => Nat.le_trans hB (hr r e).1)⟩
  obtain ⟨h1, h2⟩ := h.room j hj
  obtain ⟨v, hv⟩ := Option.isSome_iff_exists.1 h1
  exact ⟨by rw [cell_kept hv hg hr2]; rfl, (frozen_kept hv hg hr2).trans h2⟩
theorem ResAt.of {w W w2 : World} {g : Nat → Int} {n b o x : Nat} {v4 v5 : Value} (hl : w.heap.size + 1 + 1 < W.heap.size) (h4 : W.heap[w.heap.size + 1]? = some (.cells #[v4] 30 (0, 0))) (h5 : W.heap[w.heap.size + 1 + 1]? = some (.cells #[v5] 26 (0, 0))) (hB : Below w.heap.size w W) (hfr : W.heap.size ≤ b) (hx : n ≤ x)
    (hc : ∀ j, j < n → w2.cell? ⟨b, o + j, none⟩ = some (.int .u8 (g j))) (hro : ∀ j, j < x → (w2.cell? ⟨b, o + j, none⟩).isSome = true ∧ w2.frozen? ⟨b, o + j, none⟩ = false) (hch : Eng.Chg (fun _ _ => False) W w2) :
    ResAt w g n b o x ((w2.setCell ⟨w.heap.size + 1, 0, none⟩ (.slice (some ⟨b, o, none⟩) n x)).setCell ⟨w.heap.size + 1 + 1, 0, none⟩ (.int .i64 0)) := by
  have hs := below_of_chg hch
  have k4 : w2.cell? ⟨w.heap.size + 1, 0, none⟩ = some v4 := by simp [World.cell?, hs.block (w.heap.size + 1) (by omega), h4]
  have k5 : w2.cell? ⟨w.heap.size + 1 + 1, 0, none⟩ = some v5 := by simp [World.cell?, hs.block (w.heap.size + 1 + 1) hl, h5]
  have ne : ∀ j (k : Nat), k < W.heap.size → (⟨k, 0, none⟩ : Addr) ≠ ⟨b, o + j, none⟩ := fun j k hk e => by have := congrArg Addr.block e; simp at this; omega
  have far : ∀ j, ((w2.setCell ⟨w.heap.size + 1, 0, none⟩ (.slice (some ⟨b, o, none⟩) n x)).setCell ⟨w.heap.size + 1 + 1, 0, none⟩ (.int .i64 0)).cell? ⟨b, o + j, none⟩ = w2.cell? ⟨b, o + j, none⟩ := fun j => by
    rw [World.cell?_setCell_other _ _ _ _ (ne j _ hl), World.cell?_setCell_other _ _ _ _ (ne j _ (by omega))]
  refine ⟨?_, ?_, by have := hB.size; omega, hx, fun j hj => by rw [far]; exact hc j hj, fun j hj => ?_, (((hB.trans (hs.mono hB.size)).setCell (p := ⟨w.heap.size + 1, 0, none⟩) (by simp) _).setCell (p := ⟨w.heap.size + 1 + 1, 0, none⟩) (by simp; omega) _)⟩
  · rw [World.cell?_setCell_other _ _ _ _ (fun e => by have := congrArg Addr.block e; simp at this)]
    exact World.cell?_setCell_same _ _ _ k4
  · refine World.cell?_setCell_same _ _ _ (u := v5) ?_
    rw [World.cell?_setCell_other _ _ _ _ (fun e => by have := congrArg Addr.block e; simp at this)]; exact k5
  · rw [far, World.frozen?_setCell, World.frozen?_setCell]; exact hro j hj
set_option maxRecDepth 100000 in
set_option maxHeartbeats 2000000 in
theorem read_in (d : Dk) (i : Int) (w : World) (hD : DiskAt d w) (ok : d.Ok0) (hoff : d.h.off = false) (hi : d.h.has i) :
    CallsIn Fence.wide 5 Try.prog 15 #[.pointer (some ⟨d.b, d.y, none⟩), .int .i64 i] w (ReadRet (d.rd i) d.h.size w) := by
  have h0 := hD.hd 4 (.bool false) (by rw [← hoff]; rfl)
  have h1 := hD.hd 1 _ rfl
  have h3 := hD.hd 3 _ rfl
  have hbl := hD.hlt
  refine callsIn_of_wp_marks Try.func15 rfl trivial ?_ rfl
  simp only [Try.ntmps15, List.size_toArray, List.length_cons, List.length_nil, Nat.reduceAdd, Nat.reduceSub, Array.replicate_succ, Array.replicate_zero, List.push_toArray, List.append_toArray, List.nil_append, List.cons_append]
  have up : ∀ (a b c : Obj) (o : Nat) (v : Value), w.cell? ⟨d.b, o, none⟩ = some v → (((w.alloc a).alloc b).alloc c).cell? ⟨d.b, o, none⟩ = some v := fun a b c o v h => by
    rw [World.cell?_alloc_lt _ _ _ (by simp; omega), World.cell?_alloc_lt _ _ _ (by simp; omega), World.cell?_alloc_lt _ _ _ hbl]; exact h
  have h3' := up (.cells #[.int .i64 i] 3) (.cells #[.slice none 0 0] 30) (.cells #[.int .i64 0] 26) _ _ h3
  gi_wp2_with (first
    | (refine ⟨trivial, ?_⟩; gi_at_call 37; refine (may_in Fence.wide _ trivial rfl d.b d.y _ (up _ _ _ _ _ h0)).mono ?_; rintro e w' ⟨rfl, rfl⟩)
    | (refine ⟨trivial, ?_⟩; gi_at_call 38; refine (has_in Fence.wide _ trivial rfl d.b d.y i d.h.count _ (up _ _ _ _ _ h1) hi.1 hi.2).mono ?_; rintro e w' ⟨rfl, rfl⟩)
    | (refine ⟨trivial, ?_⟩; gi_at_call 42; refine (back_in Fence.wide _ trivial rfl _ _ _ _).mono ?_; rintro e w' ⟨rfl, rfl⟩))
  obtain ⟨W0, hW0⟩ : ∃ W0, (((w.alloc (.cells #[.int .i64 i] 3)).alloc (.cells #[.slice none 0 0] 30)).alloc (.cells #[.int .i64 0] 26)).alloc (.cells #[.slice d.h.po d.h.n d.h.cp] 81) = W0 := ⟨_, rfl⟩
  have hs0 : W0.heap.size = w.heap.size + 4 := by rw [← hW0]; simp
  have hB0 : Below w.heap.size w W0 := by
    rw [← hW0]; exact ((((Below.refl _ w).alloc (Nat.le_refl _) _).alloc (by simp) _).alloc (by simp; omega) _).alloc (by simp; omega) _
  obtain ⟨g3, g4, g5, g6⟩ := four_heap w (.cells #[.int .i64 i] 3) (.cells #[.slice none 0 0] 30) (.cells #[.int .i64 0] 26) (.cells #[.slice d.h.po d.h.n d.h.cp] 81)
  rw [hW0] at g3 g4 g5 g6
  have c6 : W0.cell? ⟨w.heap.size + 1 + 1 + 1, 0, none⟩ = some (.slice d.h.po d.h.n d.h.cp) := by simp [World.cell?, g6]
  rw [hW0]
  have cel : ∀ {k o : Nat} {v : Value} {W : World}, Below w.heap.size w W → w.cell? ⟨k, o, none⟩ = some v → W.cell? ⟨k, o, none⟩ = some v := fun {k o v W} hB h => (hB.cell (p := ⟨k, o, none⟩) (World.block_lt_of_cell? _ _ h)).trans h
  refine wpIn_rangeFunc_ownH (w0 := W0) (α := {q : Nat // q < d.h.n}) rfl (by omega) (gf := 65) (lb := #[.pointer (some ⟨w.heap.size + 1 + 1 + 1, 0, none⟩)]) rfl trivial (enters_of Try.func65 (by kernel_rfl) rfl)
    (back_stops Fence.wide (5 - 1) trivial rfl (by omega) (w.heap.size + 1 + 1 + 1) W0.heap.size d.h.po d.wb d.wy d.h.n d.h.cp d.h.size d.ws ok.nn W0 (by omega) (Nat.le_refl _) (ok.po.imp id fun h => ⟨h.1, ?wbl⟩) c6 (fun j hj => ⟨cel hB0 (hD.rw j hj).1, cel hB0 (hD.rw j hj).2⟩)) belowK_t (belowK_b (Nat.le_refl _)) (Below.refl _ _) (fun _ => rfl)
    (fun pre W => (∀ q ∈ pre, (d.ws q.1).1 ≠ i) ∧ Below W0.heap.size W0 W)
    (fun c pre W => (c = .ret ∧ ∃ (pre' : List {q : Nat // q < d.h.n}) (q : {q : Nat // q < d.h.n}), pre = pre' ++ [q] ∧ (∀ q' ∈ pre', (d.ws q'.1).1 ≠ i) ∧ (d.ws q.1).1 = i ∧ ∃ k y x : Nat, ResAt w (d.ws q.1).2.f d.h.size k y x W))
    (OwnFrom.and (ownFrom_pure _ _) (ownFrom_below (Nat.le_refl _) (Nat.le_refl _))) (fun c s A B row hs hg hr => ?hIx) ⟨fun q h => (by cases h), Below.refl _ _⟩
    (fun q a' W => ∃ Bx : Nat, W0.heap.size ≤ Bx ∧ W.heap[Bx]? = some (.cells #[.int .i64 (d.ws q.1).1, .slice (some ⟨(d.ws q.1).2.k, (d.ws q.1).2.y, none⟩) d.h.size (d.ws q.1).2.cp] 87 (0, 0)) ∧ a' = (⟨#[.pointer (some ⟨d.b, d.y, none⟩), .int .i64 i, undef, .pointer (some ⟨w.heap.size, 0, none⟩), .pointer (some ⟨w.heap.size + 1, 0, none⟩), .pointer (some ⟨w.heap.size + 1 + 1, 0, none⟩), .int .i64 0, undef, .pointer (some ⟨Bx, 0, none⟩), .pointer (some ⟨d.b, d.y, none⟩), .int .i64 0, .bool false, .int .i64 0, .bool false, undef, .bool false,
      .pointer (some ⟨d.b, d.y, none⟩), .int .i64 i, .bool true, .bool false, .pointer (some ⟨d.b, d.y, none⟩), .pointer (some ⟨d.b, d.y, none⟩), .pointer (some ⟨d.b, d.y + 3, none⟩), .slice d.h.po d.h.n d.h.cp, .func (.func 65) #[] #[.pointer (some ⟨w.heap.size + 1 + 1 + 1, 0, none⟩)], .int .i64 (q.1 : Int),
      .agg #[.int .i64 (d.ws q.1).1, .slice (some ⟨(d.ws q.1).2.k, (d.ws q.1).2.y, none⟩) d.h.size (d.ws q.1).2.cp], undef, undef, undef, undef, undef, undef, undef, undef, undef, undef], []⟩ : Act)) (fun x a' _ A B row hs hg hr => ?hAx) ?assign ?body ?done ?stop
  case wbl =>
    have := (hD.rm 0 (by have := h.2; omega)).1
    obtain ⟨v, hv⟩ := Option.isSome_iff_exists.1 this
    have := World.block_lt_of_cell? _ _ hv
    simp only at this
    omega
  case hIx =>
    obtain ⟨e, pre', q, h1, h2, h3, k, y, x, h4⟩ := hs
    exact ⟨e, pre', q, h1, h2, h3, k, y, x, h4.own hg hr (by omega)⟩
  case hAx =>
    obtain ⟨Bx, h1, h2, h3⟩ := hs
    refine ⟨Bx, h1, (hg.block Bx (Array.getElem?_eq_some_iff.1 h2).1 (fun e => ?_)).trans h2, h3⟩
    obtain ⟨_, o, ho, hc⟩ := hr Bx e.symm
    rw [h2] at ho; cases ho; cases hc
  case assign =>
    intro l pre x W K ⟨hi1, hi2⟩ hK
    simp only [wv, By.val]
    gi_wp2
    exact hK _ _ ((KeepsOthers.alloc _ _).from _) ((Below.refl _ W).alloc hi2.size _) ⟨hi1, hi2.alloc hi2.size _⟩ ⟨W.heap.size, hi2.size, by simp [Eng.alloc_heap], rfl⟩
  case body =>
    rintro l pre x a' W hl hrec ⟨hi1, hi2⟩ ⟨Bx, hBx, hbx, rfl⟩ hlen
    have hBw : Below w.heap.size w W := hB0.trans (hi2.mono (by omega))
    have x0 : W.cell? ⟨Bx, 0, none⟩ = some (.int .i64 (d.ws x.1).1) := by simp [World.cell?, hbx]
    have x1 : W.cell? ⟨Bx, 1, none⟩ = some (.slice (some ⟨(d.ws x.1).2.k, (d.ws x.1).2.y, none⟩) d.h.size (d.ws x.1).2.cp) := by simp [World.cell?, hbx]
    have y3 : W.cell? ⟨w.heap.size, 0, none⟩ = some (.int .i64 i) := by simp [World.cell?, hi2.block w.heap.size (by omega), g3]
    have hsz : 0 < d.h.size ∧ d.h.size ≤ 1000 := by have := ok.sz; omega
    gi_wp2_with (refine ⟨trivial, ?_⟩; gi_at_call 39; refine (CallsIn.inRound l (callsIn_wide.2 (cloneB_ok (d.ws x.1).2.k (d.ws x.1).2.y d.h.size (d.ws x.1).2.cp (d.ws x.1).2.f W (by omega) hsz.2 (fun j hj => cel hBw ((hD.wa x.1 x.2).bytes j hj))))).mono ?_; rintro e w2 ⟨b, o, z, rfl, hfr, hzl, hz0, hcs, hro, hch⟩; obtain ⟨e4, f4, k4⟩ := box_kept g4 hi2 hch; obtain ⟨e5, f5, k5⟩ := box_kept g5 hi2 hch)
    · rename_i hx
      have hx' : (d.ws x.1).1 = i := eq_of_beq hx
      have hres : ResAt w (d.ws x.1).2.f d.h.size b o z ((w2.setCell ⟨w.heap.size + 1, 0, none⟩ (.slice (some ⟨b, o, none⟩) d.h.size z)).setCell ⟨w.heap.size + 1 + 1, 0, none⟩ (.int .i64 0)) := by
        refine .of (by have := (Array.getElem?_eq_some_iff.1 k5).1; omega) k4 k5 hBw hfr (by rw [bytesL_len] at hzl; exact hzl) (fun j hj => ?_) hro hch
        obtain ⟨v, q1, q2⟩ := hcs j _ (bytesL_at hj)
        rw [q2, ← q1]; rfl
      refine ⟨((KeepsFrom.trans ⟨hch.size, fun k ob _ hk _ => ?_⟩ ((KeepsOthers.setCell _ _ _).from _)).trans ((KeepsOthers.setCell _ _ _).from _)), rfl, pre, x, rfl, hi1, hx', b, o, z, hres⟩
      exact (hch.same k (Array.getElem?_eq_some_iff.1 hk).1 (fun _ h => h)).trans hk
    · rename_i hx
      refine ⟨KeepsFrom.refl _ _, Below.refl _ _, fun q hq => ?_, hi2⟩
      rcases List.mem_append.1 hq with hq | hq
      · exact hi1 q hq
      · simp at hq; subst hq
        exact fun e => by rw [e] at hx; simp at hx
  case done =>
    rintro D xs W hDl hS ⟨hi1, hi2⟩ hK
    have hS : xs.map (·.1) = downs d.h.n d.h.n := hS
    have hBw : Below w.heap.size w W := hB0.trans (hi2.mono (by omega))
    have y3 : W.cell? ⟨w.heap.size, 0, none⟩ = some (.int .i64 i) := by simp [World.cell?, hi2.block w.heap.size (by omega), g3]
    have hsz : 0 < d.h.size ∧ d.h.size ≤ 1000 := by have := ok.sz; omega
    have hmiss : d.rd i = d.st i := rdF_miss fun q hq => by
      have : q ∈ xs.map (·.1) := by
        rw [hS]; simp only [downs, List.mem_map, List.mem_range]
        exact ⟨d.h.n - 1 - q, by omega, by omega⟩
      obtain ⟨x, hx, rfl⟩ := List.mem_map.1 this
      exact hi1 x hx
    have hmp : Eng.MapAt d.h.m d.g W := hD.mp.at (Eng.objAt_same (hBw.block d.h.m (Eng.objAt_lt hD.mp.ob)))
    have hka : ∀ u, d.kept i = some u → u.At d.h.size W := fun u hu => (hD.ka i u hu).at fun o ho => by
      have hlt := ((hD.ka i u hu).there ho).lt
      exact ⟨by unfold World.cell?; simp only [hBw.block u.k hlt], by unfold World.frozen?; simp only [hBw.block u.k hlt]⟩
    have hhd : HdAt d.b d.y d.h W := fun j v hj => cel hBw (hD.hd j v hj)
    gi_wp2_with (refine ⟨trivial, ?_⟩; gi_at_call 43; refine (callsIn_wide.2 (stays_ok d i W hsz hhd hmp hka)).mono ?_; rintro e w2 ⟨b, o, z, rfl, hfr, hzl, hz0, hcs, hro, hch⟩; obtain ⟨e4, f4, k4⟩ := box_kept g4 hi2 hch; obtain ⟨e5, f5, k5⟩ := box_kept g5 hi2 hch)
    have hres : ResAt w (d.st i) d.h.size b o z ((w2.setCell ⟨w.heap.size + 1, 0, none⟩ (.slice (some ⟨b, o, none⟩) d.h.size z)).setCell ⟨w.heap.size + 1 + 1, 0, none⟩ (.int .i64 0)) := by
      refine .of (by have := (Array.getElem?_eq_some_iff.1 k5).1; omega) k4 k5 hBw hfr (by rw [bytesL_len] at hzl; exact hzl) (fun j hj => ?_) hro hch
      obtain ⟨v, q1, q2⟩ := hcs j _ (bytesL_at hj)
      rw [q2, ← q1]; rfl
    have hK1 : w2.heap[D]? = some (.deferred (some [])) := (hch.same D (Array.getElem?_eq_some_iff.1 hK).1 (fun _ h => h)).trans hK
    have hK2 := (KeepsOthers.setCell _ ⟨w.heap.size + 1 + 1, 0, none⟩ (.int .i64 0)).same D _ ((KeepsOthers.setCell w2 ⟨w.heap.size + 1, 0, none⟩ (.slice (some ⟨b, o, none⟩) d.h.size z)).same D _ hK1 rfl) rfl
    refine ⟨by simp, .inl ⟨_, _, rfl, run_takeDeferred hK2, ?_⟩⟩
    have hr2 := hres.own (B := w.heap.size) (grownBy_putObj' _ D (.deferred none)) (fun r e => by cases e; exact ⟨by omega, _, hK2, rfl⟩) (Nat.le_refl _)
    refine ⟨.tuple #[.slice (some ⟨b, o, none⟩) d.h.size z, .int .i64 0], ?_, b, o, z, rfl, hr2.fr, hr2.nx, ?_, hr2.room, chg_of_below hr2.bl⟩
    · simp [results, Try.f15, go_sem, hr2.c4, hr2.c5]
    · first | (rw [hmiss]; exact hr2.by') | exact hr2.by'
  case stop =>
    rintro D c pre W hDl ⟨kk, hkk, hpre⟩ ⟨rfl, pre', q, rfl, hno, hq, k, y, x, hres⟩ hK
    have hhit : d.rd i = (d.ws q.1).2.f := rdF_hit hq q.2 fun q' h1 h2 => by
      have hpre : (pre' ++ [q]).map (·.1) = downs d.h.n kk := hpre
      have hk0 : 0 < kk := by
        rcases Nat.eq_zero_or_pos kk with h | h
        · subst h; simp [downs] at hpre
        · exact h
      obtain ⟨k', rfl⟩ : ∃ k', kk = k' + 1 := ⟨kk - 1, by omega⟩
      rw [downs_succ, List.map_append] at hpre
      have h5 := List.append_inj' hpre (by simp)
      have e1 : q.1 = d.h.n - 1 - k' := by simpa using h5.2
      have : q' ∈ pre'.map (·.1) := by
        rw [h5.1]; simp only [downs, List.mem_map, List.mem_range]
        exact ⟨d.h.n - 1 - q', by omega, by omega⟩
      obtain ⟨x, hx, rfl⟩ := List.mem_map.1 this
      exact hno x hx
    gi_wp2
    refine ⟨by simp, .inl ⟨_, _, rfl, run_takeDeferred hK, ?_⟩⟩
    have hr2 := hres.own (B := w.heap.size) (grownBy_putObj' _ D (.deferred none)) (fun r e => by cases e; exact ⟨by omega, _, hK, rfl⟩) (Nat.le_refl _)
    refine ⟨.tuple #[.slice (some ⟨k, y, none⟩) d.h.size x, .int .i64 0], ?_, k, y, x, rfl, hr2.fr, hr2.nx, ?_, hr2.room, chg_of_below hr2.bl⟩
    · simp [results, Try.f15, go_sem, hr2.c4, hr2.c5]
    · first | (rw [hhit]; exact hr2.by') | exact hr2.by'
theorem read_ok (d : Dk) (i : Int) (w : World) (hD : DiskAt d w) (ok : d.Ok0) (hoff : d.h.off = false) (hi : d.h.has i) :
    Calls Try.prog 15 #[.pointer (some ⟨d.b, d.y, none⟩), .int .i64 i] w (ReadRet (d.rd i) d.h.size w) := callsIn_wide.1 (read_in d i w hD ok hoff hi)
end Go.Proofs.Ytkjhpaeminegoaa
