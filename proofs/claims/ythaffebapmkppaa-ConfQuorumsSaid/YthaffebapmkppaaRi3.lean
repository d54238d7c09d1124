/- The ring: points compared. -/
import Derived.Test.YthaffebapmkppaaRi2

namespace Go.Proofs.Ythaffebapmkppaa
open Go Go.Eng Go.Sort

theorem _root_.Go.Eng.Chg.grown {w w' : World} (h : Chg (fun _ _ => False) w w') : ∃ q os', w' = Go.Sort.grow (w.drewN q) os' := by
  refine ⟨w'.drawn - w.drawn, w'.heap.extract w.heap.size w'.heap.size, ?_⟩
  have hh : w'.heap = w.heap ++ w'.heap.extract w.heap.size w'.heap.size := by
    apply Array.ext_getElem?
    intro i
    by_cases hi : i < w.heap.size
    · rw [Array.getElem?_append_left hi]
      exact h.same i hi (fun _ ho => ho)
    · rw [Array.getElem?_append_right (by omega), Array.getElem?_extract]
      split
      · congr 1; omega
      · exact Array.getElem?_eq_none (by omega)
  have hd : w.drawn + (w'.drawn - w.drawn) = w'.drawn := by have := h.dr; omega
  have h1 := h.os
  have h2 := h.tape
  have h3 := h.output
  cases w
  cases w'
  simp only [Go.Sort.grow, World.drewN] at *
  subst h1 h2 h3
  rw [← hh, hd]

set_option maxHeartbeats 4000000 in
set_option maxRecDepth 100000 in
set_option cbv.maxSteps 100000000 in
theorem cmp8_ok (x y : Int) (w : World) : Calls Try.prog 65 #[.int .u8 x, .int .u8 y] w fun e w' => e = .returned (.int .i64 (Lib.compareInt x y)) ∧ Chg (fun _ _ => False) w w' := by
  refine X.begin (rg := []) (N := []) (ss := [.int .u8 (.v x), .int .u8 (.v y)]) Try.func65 rfl B65_ok rfl rfl Sat.std0 ?_
  refine X.goP ([(8, .bool (.lit false)), (10, .bool (.lit false))]) T65_ok 400 _ rfl Try.results65 (fun pr fin hpr hfin => ?_)
  conv => cbv
  refine ⟨hpr _ (.of Try.call93 [.int .u8 y] (.bool false) (fun _ => rfl) (fun _ => rfl) fun _ w1 _ => nan8_ok y w1), hpr _ (.of Try.call93 [.int .u8 x] (.bool false) (fun _ => rfl) (fun _ => rfl) fun _ w1 _ => nan8_ok x w1), hfin _ _ ?_⟩
  refine X.cond rfl (fun hlt => ?_) (fun hge => ?_)
  · simp only [SB.T, SI.den] at hlt
    have hlt : x < y := hlt
    refine X.go T65_ok 400 _ rfl Try.results65 ?_
    conv => arg 2; cbv
    refine X.done T65_ok rfl (fun N w' v hN hS hv => ⟨fin_int hv ?_, hS.chg.mono fun k o _ h => inR_nil h⟩)
    simp [SI.den, Lib.compareInt, hlt]
  · simp only [SB.F, SI.den] at hge
    have hge : y ≤ x := by omega
    refine X.go T65_ok 400 _ rfl Try.results65 ?_
    conv => arg 2; cbv
    refine X.cond rfl (fun hlt => ?_) (fun hge2 => ?_)
    · simp only [SB.T, SI.den] at hlt
      have hlt : y < x := by omega
      have h2 : ¬ x < y := by omega
      refine X.go T65_ok 400 _ rfl Try.results65 ?_
      conv => arg 2; cbv
      refine X.done T65_ok rfl (fun N w' v hN hS hv => ⟨fin_int hv ?_, hS.chg.mono fun k o _ h => inR_nil h⟩)
      simp [SI.den, Lib.compareInt, hlt, h2]
    · simp only [SB.F, SI.den] at hge2
      have h1 : ¬ y < x := by omega
      have h2 : ¬ x < y := by omega
      refine X.go T65_ok 400 _ rfl Try.results65 ?_
      conv => arg 2; cbv
      refine X.done T65_ok rfl (fun N w' v hN hS hv => ⟨fin_int hv ?_, hS.chg.mono fun k o _ h => inR_nil h⟩)
      simp [SI.den, Lib.compareInt, h1, h2]

set_option maxRecDepth 100000 in
set_option cbv.maxSteps 100000000 in
theorem nan64_ok (x : Int) (w : World) : Calls Try.prog 92 #[.int .u64 x] w fun e w' => e = .returned (.bool false) ∧ Chg (fun _ _ => False) w w' := by
  refine X.begin (rg := []) (N := []) (ss := [.int .u64 (.v x)]) Try.func92 rfl B92_ok rfl rfl Sat.std0 ?_
  refine X.go T92_ok 400 _ rfl Try.results92 ?_
  conv => arg 2; cbv
  refine X.done T92_ok rfl (fun N w' v hN hS hv => ⟨fin_bool hv ?_, hS.chg.mono fun k o _ h => inR_nil h⟩)
  simp [SB.den, SI.den]

set_option maxHeartbeats 4000000 in
set_option maxRecDepth 100000 in
set_option cbv.maxSteps 100000000 in
theorem cmp64_ok (x y : Int) (w : World) : Calls Try.prog 64 #[.int .u64 x, .int .u64 y] w fun e w' => e = .returned (.int .i64 (Lib.compareInt x y)) ∧ Chg (fun _ _ => False) w w' := by
  refine X.begin (rg := []) (N := []) (ss := [.int .u64 (.v x), .int .u64 (.v y)]) Try.func64 rfl B64_ok rfl rfl Sat.std0 ?_
  refine X.goP ([(8, .bool (.lit false)), (10, .bool (.lit false))]) T64_ok 400 _ rfl Try.results64 (fun pr fin hpr hfin => ?_)
  conv => cbv
  refine ⟨hpr _ (.of Try.call92 [.int .u64 y] (.bool false) (fun _ => rfl) (fun _ => rfl) fun _ w1 _ => nan64_ok y w1), hpr _ (.of Try.call92 [.int .u64 x] (.bool false) (fun _ => rfl) (fun _ => rfl) fun _ w1 _ => nan64_ok x w1), hfin _ _ ?_⟩
  refine X.cond rfl (fun hlt => ?_) (fun hge => ?_)
  · simp only [SB.T, SI.den] at hlt
    have hlt : x < y := hlt
    refine X.go T64_ok 400 _ rfl Try.results64 ?_
    conv => arg 2; cbv
    refine X.done T64_ok rfl (fun N w' v hN hS hv => ⟨fin_int hv ?_, hS.chg.mono fun k o _ h => inR_nil h⟩)
    simp [SI.den, Lib.compareInt, hlt]
  · simp only [SB.F, SI.den] at hge
    have hge : y ≤ x := by omega
    refine X.go T64_ok 400 _ rfl Try.results64 ?_
    conv => arg 2; cbv
    refine X.cond rfl (fun hlt => ?_) (fun hge2 => ?_)
    · simp only [SB.T, SI.den] at hlt
      have hlt : y < x := by omega
      have h2 : ¬ x < y := by omega
      refine X.go T64_ok 400 _ rfl Try.results64 ?_
      conv => arg 2; cbv
      refine X.done T64_ok rfl (fun N w' v hN hS hv => ⟨fin_int hv ?_, hS.chg.mono fun k o _ h => inR_nil h⟩)
      simp [SI.den, Lib.compareInt, hlt, h2]
    · simp only [SB.F, SI.den] at hge2
      have h1 : ¬ y < x := by omega
      have h2 : ¬ x < y := by omega
      refine X.go T64_ok 400 _ rfl Try.results64 ?_
      conv => arg 2; cbv
      refine X.done T64_ok rfl (fun N w' v hN hS hv => ⟨fin_int hv ?_, hS.chg.mono fun k o _ h => inR_nil h⟩)
      simp [SI.den, Lib.compareInt, h1, h2]

set_option maxHeartbeats 4000000 in
set_option maxRecDepth 100000 in
set_option cbv.maxSteps 100000000 in
theorem or2_ok (b y cp : Nat) (u v : Int) (w : World) (h0 : w.cell? ⟨b, y, none⟩ = some (.int .i64 u)) (h1 : w.cell? ⟨b, y + 1, none⟩ = some (.int .i64 v)) :
    Calls Try.prog 63 #[.slice (some ⟨b, y, none⟩) 2 cp] w fun e w' => e = .returned (.int .i64 (if u = 0 then v else u)) ∧ Chg (fun _ _ => False) w w' := by
  refine X.begin (rg := [⟨false, [.int .i64 (.v u), .int .i64 (.v v)], none⟩]) (N := [⟨b, y, 2⟩]) (ss := [.osl 0 0 2 1 (some cp)]) Try.func63 rfl B63_ok rfl rfl
    (Sat.std1 false (World.block_lt_of_cell? _ _ h0) (fun j c hj => by
      match j, hj with
      | 0, hj => simp at hj; subst hj; exact ⟨_, rfl, h0⟩
      | 1, hj => simp at hj; subst hj; exact ⟨_, rfl, h1⟩) (fun h => by cases h)) ?_
  refine X.goC FALL_ok true T63_ok 4000 _ rfl Try.results63 ?_
  conv => arg 2; cbv
  refine X.cond rfl (fun hlt => ?_) (fun hge => ?_)
  · simp only [SB.T, SI.den] at hlt
    have hlt : ¬ u = 0 := hlt
    refine X.goC FALL_ok true T63_ok 4000 _ rfl Try.results63 ?_
    conv => arg 2; cbv
    refine X.done T63_ok rfl (fun N w' v hN hS hv => ⟨fin_int hv ?_, hS.chg.ro1⟩)
    simp [SI.den, hlt]
  · simp only [SB.F, SI.den] at hge
    have hge : u = 0 := by omega
    refine X.goC FALL_ok true T63_ok 4000 _ rfl Try.results63 ?_
    conv => arg 2; cbv
    refine X.cond rfl (fun hlt => ?_) (fun hge => ?_)
    · refine X.go T63_ok 400 _ rfl Try.results63 ?_
      conv => arg 2; cbv
      refine X.done T63_ok rfl (fun N w' v hN hS hv => ⟨fin_int hv ?_, hS.chg.ro1⟩)
      simp [SI.den, hge]
    · simp only [SB.F, SI.den] at hge
      refine X.goC FALL_ok true T63_ok 4000 _ rfl Try.results63 ?_
      conv => arg 2; cbv
      refine X.done T63_ok rfl (fun N w' v hN hS hv => ⟨fin_int hv ?_, hS.chg.ro1⟩)
      simp [SI.den]
      omega

def ptC (x : Int × Int) : List Value := [.int .u64 x.1, .int .u8 x.2]
def cfP (x y : Int × Int) : Int := if Lib.compareInt x.1 y.1 = 0 then Lib.compareInt x.2 y.2 else Lib.compareInt x.1 y.1

theorem or_call {E : Env} (hE : E.P = Try.prog) {N0 : Nums} {rg : List Rg} {k : GK} {r : Nat} {ow : Bool} {a b u : Int} (hr : rg[r]? = some ⟨ow, [.int .i64 (.v a), .int .i64 (.v b)], none⟩) (hu : u = if a = 0 then b else a) (cp : Option Nat) : CallOk E N0 rg k 63 [.osl r 0 2 1 cp] (.int .i64 (.v u)) := fun _ => ⟨by rw [hE]; exact Try.call63, fun N w args hN hS ha => by
    obtain ⟨p, hp⟩ : ∃ p, N[r]? = some p := ⟨_, List.getElem?_eq_getElem (by rw [hS.len]; exact (List.getElem?_eq_some_iff.1 hr).1)⟩
    obtain ⟨_, e0, c0⟩ := hS.cell r _ p hr hp 0 _ rfl
    obtain ⟨_, e1, c1⟩ := hS.cell r _ p hr hp 1 _ rfl
    simp only [SV.den, SI.den, Option.some.injEq] at e0 e1
    subst e0 e1
    have ha' : ∃ c, args = [.slice (some ⟨p.b, p.o + 0, none⟩) 2 c] := by
      simp only [SV.denL, SV.den, hp] at ha
      exact ⟨_, (Option.some.inj ha).symm⟩
    obtain ⟨c, rfl⟩ := ha'
    rw [hE, hu]
    exact (or2_ok p.b p.o c a b w c0 c1).mono fun e w' ⟨h1, h2⟩ => ⟨_, h1, rfl, h2⟩⟩

set_option maxHeartbeats 4000000 in
set_option maxRecDepth 100000 in
set_option cbv.maxSteps 100000000 in
theorem compare_ok (x y : Int × Int) (w : World) : Calls Try.prog 40 #[.agg (ptC x).toArray, .agg (ptC y).toArray] w fun e w' => e = .returned (.int .i64 (cfP x y)) ∧ Chg (fun _ _ => False) w w' := by
  obtain ⟨x1, x2⟩ := x
  obtain ⟨y1, y2⟩ := y
  obtain ⟨c1, hc1⟩ : ∃ c, c = Lib.compareInt x1 y1 := ⟨_, rfl⟩
  obtain ⟨c2, hc2⟩ : ∃ c, c = Lib.compareInt x2 y2 := ⟨_, rfl⟩
  obtain ⟨u, hu⟩ : ∃ u, u = if c1 = 0 then c2 else c1 := ⟨_, rfl⟩
  refine X.begin (rg := []) (N := []) (ss := [.agg [.int .u64 (.v x1), .int .u8 (.v x2)], .agg [.int .u64 (.v y1), .int .u8 (.v y2)]]) Try.func40 rfl B40_ok rfl rfl Sat.std0 ?_
  refine X.goP ([(9, .int .i64 (.v c1)), (14, .int .i64 (.v c2)), (16, .int .i64 (.v u))]) T40_ok 400 _ rfl Try.results40 (fun pr fin hpr hfin => ?_)
  conv => cbv
  refine ⟨hpr _ (or_call rfl rfl hu _), hpr _ (.of Try.call65 [.int .u8 x2, .int .u8 y2] (.int .i64 c2) (fun _ => rfl) (fun _ => rfl) fun _ w1 _ => by rw [hc2]; exact cmp8_ok x2 y2 w1), hpr _ (.of Try.call64 [.int .u64 x1, .int .u64 y1] (.int .i64 c1) (fun _ => rfl) (fun _ => rfl) fun _ w1 _ => by rw [hc1]; exact cmp64_ok x1 y1 w1), hfin _ _ ?_⟩
  refine X.done T40_ok rfl (fun N w' v hN hS hv => ⟨fin_int hv ?_, hS.chg.mono fun k o _ h => inR_nil h⟩)
  simp only [SI.den]
  rw [hu, hc1, hc2]
  rfl

theorem cmpLaysP (blk off size : Nat) (w : World) : CmpLays Try.prog 40 #[] ptC 2 cfP blk off size w :=
  fun _ _ _ _ x y => (compare_ok x y _).mono fun _ _ ⟨h1, h2⟩ => ⟨h1, h2.grown⟩

end Go.Proofs.Ythaffebapmkppaa
