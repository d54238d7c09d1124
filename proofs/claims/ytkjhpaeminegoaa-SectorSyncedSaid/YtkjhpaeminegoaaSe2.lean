/- The sector's functions: those that look at the disk's own cells alone, or write them. -/
import Derived.Test.YtkjhpaeminegoaaSe1

namespace Go.Proofs.Ytkjhpaeminegoaa
open Go.Eng

/-- a disk's own cells -/
structure Hd where
  (size count m : Nat) (po : Option Addr) (n cp : Nat) (off : Bool) (falls : Int) (fused : Bool) (fuse : Int)

def Hd.sv (h : Hd) : List SV := [.int .i64 (.nat h.size), .int .i64 (.nat h.count), .raw (.map (some h.m)), .slv h.po h.n h.cp, .bool (.lit h.off), .int .u64 (.v h.falls), .bool (.lit h.fused), .int .i64 (.v h.fuse)]
def Hd.vals (h : Hd) : List Value := [.int .i64 h.size, .int .i64 h.count, .map (some h.m), .slice h.po h.n h.cp, .bool h.off, .int .u64 h.falls, .bool h.fused, .int .i64 h.fuse]
theorem Hd.den (h : Hd) (N : Nums) : SV.denL N h.sv = some h.vals := rfl

def HdAt (b y : Nat) (h : Hd) (w : World) : Prop := ∀ (j : Nat) (v : Value), h.vals[j]? = some v → w.cell? ⟨b, y + j, none⟩ = some v
def HdFree (b y : Nat) (w : World) : Prop := ∀ j, j < 8 → w.frozen? ⟨b, y + j, none⟩ = false
/-- the disk's own cells -/
def hdO (b y : Nat) (k o : Nat) : Prop := k = b ∧ y ≤ o ∧ o < y + 8

def Hd.fall (h : Hd) : Hd := if h.off then h else { h with off := true, falls := IntKind.u64.wrap (h.falls + 1) }
def Hd.lit (h : Hd) (n : Int) : Hd := { h with fused := true, fuse := if n < 0 then 0 else n }
/-- behind a step of the fuse: whether it falls, the cells -/
def Hd.burn (h : Hd) : Bool × Hd := if h.fused then (if h.fuse = 0 then (true, h.fall) else (false, { h with fuse := IntKind.i64.wrap (h.fuse - 1) })) else (false, h)

theorem HdAt.cells {b y : Nat} {h : Hd} {w : World} (hh : HdAt b y h w) (N : Nums) (j : Nat) (c : SV) (hj : h.sv[j]? = some c) : ∃ v, c.den N = some v ∧ w.cell? ⟨b, y + j, none⟩ = some v := by
  obtain ⟨_, h2⟩ := SV.denL_get _ (h.den N)
  obtain ⟨v, k1, k2⟩ := h2 j c hj
  exact ⟨v, k1, hh j v k2⟩

theorem HdAt.lt {b y : Nat} {h : Hd} {w : World} (hh : HdAt b y h w) : b < w.heap.size := World.block_lt_of_cell? _ _ (hh 0 _ rfl)

theorem HdAt.room {b y : Nat} {h : Hd} {w : World} (hh : HdAt b y h w) (hf : HdFree b y w) (j : Nat) (hj : j < 8) : (w.cell? ⟨b, y + j, none⟩).isSome = true ∧ w.frozen? ⟨b, y + j, none⟩ = false := by
  refine ⟨?_, hf j hj⟩
  obtain ⟨v, hv⟩ : ∃ v, h.vals[j]? = some v := ⟨_, List.getElem?_eq_getElem (by simpa [Hd.vals] using hj)⟩
  rw [hh j v hv]; rfl

/-- the disk's own cells lie so, behind a body whose only region they are -/
theorem hd_back {E : Env} {b y : Nat} {h : Hd} {w : World} {N : Nums} {g : Rg} {rg : List Rg} (hp : N[0]? = some ⟨b, y, 8⟩) (hS : Sat E N (g :: rg) w) (hd : SV.denL N g.cells = some h.vals) : HdAt b y h w := fun j v hj => hS.row (r := 0) rfl hp hd j v hj

theorem own1_chg {b y x : Nat} {cs : List SV} {w w' : World} (h : Chg (InR [⟨b, y, x⟩] [⟨true, cs, none⟩]) w w') : Chg (fun k o => k = b ∧ y ≤ o ∧ o < y + x) w w' := h.mono fun k o _ hr => by
  obtain ⟨r, g, q, hg, hq, _, e1, e2, e3⟩ := hr
  cases r with
  | zero => simp at hq; subst hq; exact ⟨e1, e2, e3⟩
  | succ r => simp at hg

set_option maxRecDepth 100000 in
set_option cbv.maxSteps 100000000 in
theorem may_ok (b y : Nat) (h : Hd) (w : World) (hh : HdAt b y h w) : Calls Try.prog 37 #[.pointer (some ⟨b, y, none⟩)] w fun e w' => e = .returned (.int .i64 (if h.off then 8 else 0)) ∧ Chg (fun _ _ => False) w w' := by
  refine X.begin (rg := [⟨false, h.sv, none⟩]) (N := [⟨b, y, 8⟩]) (ss := [.own 0 0]) Try.func37 rfl B37_ok rfl rfl (Sat.std1 false hh.lt (hh.cells _) (fun h => by cases h)) ?_
  obtain ⟨size, count, m, po, n, cp, off, falls, fused, fuse⟩ := h
  cases off with
  | true =>
    refine X.go T37_ok 400 _ rfl Try.results37 ?_
    conv => arg 2; cbv
    refine X.done T37_ok rfl (fun N w' v hN hS hv => ?_)
    simp [resV, SV.den, SI.den] at hv
    exact ⟨by subst hv; rfl, hS.chg.ro1⟩
  | false =>
    refine X.go T37_ok 400 _ rfl Try.results37 ?_
    conv => arg 2; cbv
    refine X.done T37_ok rfl (fun N w' v hN hS hv => ?_)
    simp [resV, SV.den, SI.den] at hv
    exact ⟨by subst hv; rfl, hS.chg.ro1⟩

set_option maxRecDepth 100000 in
set_option cbv.maxSteps 100000000 in
theorem has_ok (b y : Nat) (h : Hd) (i : Int) (w : World) (hh : HdAt b y h w) : Calls Try.prog 38 #[.pointer (some ⟨b, y, none⟩), .int .i64 i] w fun e w' => e = .returned (.bool (decide (0 ≤ i) && decide (i < h.count))) ∧ Chg (fun _ _ => False) w w' := by
  refine X.begin (rg := [⟨false, h.sv, none⟩]) (N := [⟨b, y, 8⟩]) (ss := [.own 0 0, .int .i64 (.v i)]) Try.func38 rfl B38_ok rfl rfl (Sat.std1 false hh.lt (hh.cells _) (fun h => by cases h)) ?_
  refine X.go T38_ok 400 _ rfl Try.results38 ?_
  conv => arg 2; cbv
  refine X.done T38_ok rfl (fun N w' v hN hS hv => ?_)
  simp [resV, SV.den, SI.den, SB.den] at hv
  exact ⟨by subst hv; rfl, hS.chg.ro1⟩

set_option maxRecDepth 100000 in
set_option cbv.maxSteps 100000000 in
theorem size_ok (b y : Nat) (h : Hd) (w : World) (hh : HdAt b y h w) : Calls Try.prog 17 #[.pointer (some ⟨b, y, none⟩)] w fun e w' => e = .returned (.int .i64 h.size) ∧ Chg (fun _ _ => False) w w' := by
  refine X.begin (rg := [⟨false, h.sv, none⟩]) (N := [⟨b, y, 8⟩]) (ss := [.own 0 0]) Try.func17 rfl B17_ok rfl rfl (Sat.std1 false hh.lt (hh.cells _) (fun h => by cases h)) ?_
  refine X.go T17_ok 400 _ rfl Try.results17 ?_
  conv => arg 2; cbv
  refine X.done T17_ok rfl (fun N w' v hN hS hv => ?_)
  simp [resV, SV.den, SI.den, SB.den] at hv
  exact ⟨by subst hv; rfl, hS.chg.ro1⟩

set_option maxRecDepth 100000 in
set_option cbv.maxSteps 100000000 in
theorem count_ok (b y : Nat) (h : Hd) (w : World) (hh : HdAt b y h w) : Calls Try.prog 18 #[.pointer (some ⟨b, y, none⟩)] w fun e w' => e = .returned (.int .i64 h.count) ∧ Chg (fun _ _ => False) w w' := by
  refine X.begin (rg := [⟨false, h.sv, none⟩]) (N := [⟨b, y, 8⟩]) (ss := [.own 0 0]) Try.func18 rfl B18_ok rfl rfl (Sat.std1 false hh.lt (hh.cells _) (fun h => by cases h)) ?_
  refine X.go T18_ok 400 _ rfl Try.results18 ?_
  conv => arg 2; cbv
  refine X.done T18_ok rfl (fun N w' v hN hS hv => ?_)
  simp [resV, SV.den, SI.den, SB.den] at hv
  exact ⟨by subst hv; rfl, hS.chg.ro1⟩

set_option maxRecDepth 100000 in
set_option cbv.maxSteps 100000000 in
theorem ison_ok (b y : Nat) (h : Hd) (w : World) (hh : HdAt b y h w) : Calls Try.prog 21 #[.pointer (some ⟨b, y, none⟩)] w fun e w' => e = .returned (.bool (!h.off)) ∧ Chg (fun _ _ => False) w w' := by
  refine X.begin (rg := [⟨false, h.sv, none⟩]) (N := [⟨b, y, 8⟩]) (ss := [.own 0 0]) Try.func21 rfl B21_ok rfl rfl (Sat.std1 false hh.lt (hh.cells _) (fun h => by cases h)) ?_
  refine X.go T21_ok 400 _ rfl Try.results21 ?_
  conv => arg 2; cbv
  refine X.done T21_ok rfl (fun N w' v hN hS hv => ?_)
  simp [resV, SV.den, SI.den, SB.den] at hv
  exact ⟨by subst hv; rfl, hS.chg.ro1⟩

set_option maxRecDepth 100000 in
set_option cbv.maxSteps 100000000 in
theorem falls_ok (b y : Nat) (h : Hd) (w : World) (hh : HdAt b y h w) : Calls Try.prog 22 #[.pointer (some ⟨b, y, none⟩)] w fun e w' => e = .returned (.int .u64 h.falls) ∧ Chg (fun _ _ => False) w w' := by
  refine X.begin (rg := [⟨false, h.sv, none⟩]) (N := [⟨b, y, 8⟩]) (ss := [.own 0 0]) Try.func22 rfl B22_ok rfl rfl (Sat.std1 false hh.lt (hh.cells _) (fun h => by cases h)) ?_
  refine X.go T22_ok 400 _ rfl Try.results22 ?_
  conv => arg 2; cbv
  refine X.done T22_ok rfl (fun N w' v hN hS hv => ?_)
  simp [resV, SV.den, SI.den, SB.den] at hv
  exact ⟨by subst hv; rfl, hS.chg.ro1⟩

set_option maxRecDepth 100000 in
set_option cbv.maxSteps 100000000 in
theorem waits_ok (b y : Nat) (h : Hd) (w : World) (hh : HdAt b y h w) : Calls Try.prog 23 #[.pointer (some ⟨b, y, none⟩)] w fun e w' => e = .returned (.int .i64 h.n) ∧ Chg (fun _ _ => False) w w' := by
  refine X.begin (rg := [⟨false, h.sv, none⟩]) (N := [⟨b, y, 8⟩]) (ss := [.own 0 0]) Try.func23 rfl B23_ok rfl rfl (Sat.std1 false hh.lt (hh.cells _) (fun h => by cases h)) ?_
  refine X.go T23_ok 400 _ rfl Try.results23 ?_
  conv => arg 2; cbv
  refine X.done T23_ok rfl (fun N w' v hN hS hv => ?_)
  simp [resV, SV.den, SI.den, SB.den] at hv
  exact ⟨by subst hv; rfl, hS.chg.ro1⟩

set_option maxRecDepth 100000 in
set_option cbv.maxSteps 100000000 in
theorem fall_ok (b y : Nat) (h : Hd) (w : World) (hh : HdAt b y h w) (hf : HdFree b y w) : Calls Try.prog 26 #[.pointer (some ⟨b, y, none⟩)] w fun e w' => e = .returned (.tuple #[]) ∧ HdAt b y h.fall w' ∧ Chg (hdO b y) w w' := by
  refine X.begin (rg := [⟨true, h.sv, none⟩]) (N := [⟨b, y, 8⟩]) (ss := [.own 0 0]) Try.func26 rfl B26_ok rfl rfl (Sat.std1 true hh.lt (hh.cells _) (fun _ => hf)) ?_
  obtain ⟨size, count, m, po, n, cp, off, falls, fused, fuse⟩ := h
  cases off with
  | true =>
    refine X.go T26_ok 400 _ rfl Try.results26 ?_
    conv => arg 2; cbv
    refine X.over T26_ok rfl (fun N w' v hN hS hv => ?_)
    simp [resV, SV.den, SV.denL] at hv
    exact ⟨by subst hv; rfl, hd_back (hN 0 _ rfl) hS rfl, own1_chg hS.chg⟩
  | false =>
    refine X.go T26_ok 400 _ rfl Try.results26 ?_
    conv => arg 2; cbv
    refine X.over T26_ok rfl (fun N w' v hN hS hv => ?_)
    simp [resV, SV.den, SV.denL] at hv
    exact ⟨by subst hv; rfl, hd_back (hN 0 _ rfl) hS rfl, own1_chg hS.chg⟩

set_option maxRecDepth 100000 in
set_option cbv.maxSteps 100000000 in
theorem fuse_ok (b y : Nat) (h : Hd) (n : Int) (w : World) (hh : HdAt b y h w) (hf : HdFree b y w) : Calls Try.prog 25 #[.pointer (some ⟨b, y, none⟩), .int .i64 n] w fun e w' => e = .returned (.tuple #[]) ∧ HdAt b y (h.lit n) w' ∧ Chg (hdO b y) w w' := by
  refine X.begin (rg := [⟨true, h.sv, none⟩]) (N := [⟨b, y, 8⟩]) (ss := [.own 0 0, .int .i64 (.v n)]) Try.func25 rfl B25_ok rfl rfl (Sat.std1 true hh.lt (hh.cells _) (fun _ => hf)) ?_
  obtain ⟨size, count, m, po, n', cp, off, falls, fused, fuse⟩ := h
  refine X.go T25_ok 400 _ rfl Try.results25 ?_
  conv => arg 2; cbv
  refine X.over T25_ok rfl (fun N w' v hN hS hv => ?_)
  simp [resV, SV.den, SV.denL] at hv
  exact ⟨by subst hv; rfl, hd_back (hN 0 _ rfl) hS rfl, own1_chg hS.chg⟩

set_option maxRecDepth 100000 in
set_option cbv.maxSteps 100000000 in
theorem burns_ok (b y : Nat) (h : Hd) (w : World) (hh : HdAt b y h w) (hf : HdFree b y w) : Calls Try.prog 40 #[.pointer (some ⟨b, y, none⟩)] w fun e w' => e = .returned (.bool h.burn.1) ∧ HdAt b y h.burn.2 w' ∧ Chg (hdO b y) w w' := by
  refine X.begin (rg := [⟨true, h.sv, none⟩]) (N := [⟨b, y, 8⟩]) (ss := [.own 0 0]) Try.func40 rfl B40_ok rfl rfl (Sat.std1 true hh.lt (hh.cells _) (fun _ => hf)) ?_
  obtain ⟨size, count, m, po, n, cp, off, falls, fused, fuse⟩ := h
  cases fused with
  | false =>
    refine X.go T40_ok 400 _ rfl Try.results40 ?_
    conv => arg 2; cbv
    refine X.done T40_ok rfl (fun N w' v hN hS hv => ?_)
    simp [resV, SV.den, SB.den] at hv
    exact ⟨by subst hv; rfl, hd_back (hN 0 _ rfl) hS rfl, own1_chg hS.chg⟩
  | true =>
    refine X.go T40_ok 400 _ rfl Try.results40 ?_
    conv => arg 2; cbv
    refine X.cond rfl (fun hc => ?_) (fun hc => ?_)
    · simp only [SB.T, SI.den] at hc
      subst hc
      cases off with
      | true =>
        refine X.goC FALL_ok false T40_ok 400 _ rfl Try.results40 ?_
        conv => arg 2; cbv
        refine X.done T40_ok rfl (fun N w' v hN hS hv => ?_)
        simp [resV, SV.den, SB.den] at hv
        exact ⟨by subst hv; rfl, hd_back (hN 0 _ rfl) hS rfl, own1_chg hS.chg⟩
      | false =>
        refine X.goC FALL_ok false T40_ok 400 _ rfl Try.results40 ?_
        conv => arg 2; cbv
        refine X.done T40_ok rfl (fun N w' v hN hS hv => ?_)
        simp [resV, SV.den, SB.den] at hv
        exact ⟨by subst hv; rfl, hd_back (hN 0 _ rfl) hS rfl, own1_chg hS.chg⟩
    · simp only [SB.F, SI.den] at hc
      refine X.go T40_ok 400 _ rfl Try.results40 ?_
      conv => arg 2; cbv
      refine X.done T40_ok rfl (fun N w' v hN hS hv => ?_)
      simp [resV, SV.den, SB.den] at hv
      have hb : Hd.burn ⟨size, count, m, po, n, cp, off, falls, true, fuse⟩ = (false, ⟨size, count, m, po, n, cp, off, falls, true, IntKind.i64.wrap (fuse - 1)⟩) := by
        unfold Hd.burn; rw [if_pos rfl, if_neg hc]
      rw [hb]
      exact ⟨by subst hv; rfl, hd_back (hN 0 _ rfl) hS rfl, own1_chg hS.chg⟩

end Go.Proofs.Ytkjhpaeminegoaa
