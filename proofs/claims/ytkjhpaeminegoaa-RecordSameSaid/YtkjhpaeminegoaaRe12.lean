/- The records' functions: may a record be? -/
import Derived.Test.YtkjhpaeminegoaaRe11

namespace Go.Proofs.Ytkjhpaeminegoaa
open Go Go.Eng

def RegP.zero : RegP := ⟨0, 0, 0, [], [], [], 0, []⟩
def ConfP.zero : ConfP := ⟨0, [], []⟩
def BalP.zero : BalP := ⟨0, 0, 0⟩
def regV0 : List Value := [.int .u8 0, .int .u64 0, .int .i64 0, .slice none 0 0, .slice none 0 0, .slice none 0 0, .int .u64 0, .slice none 0 0]
def confV0 : List Value := [.int .u64 0, .slice none 0 0, .slice none 0 0]
def balV0 : List Value := [.int .u64 0, .int .u8 0, .int .u32 0]

theorem RepC.nil0 {M : Mem} : RepC M (.list []) (.slice none 0 0) := by
  simp only [RepC]
  exact ⟨none, 0, rfl, ⟨Nat.le_refl _, Nat.zero_le _⟩, .inl trivial⟩

theorem reg_zero (M : Mem) : RepL M RegP.zero.toD regV0 := by
  refine ⟨_, _, rfl, rfl, _, _, rfl, rfl, _, _, rfl, rfl, _, _, rfl, RepC.nil0, _, _, rfl, RepC.nil0, _, _, rfl, RepC.nil0, _, _, rfl, rfl, _, _, rfl, RepC.nil0, rfl⟩
theorem conf_zero (M : Mem) : RepL M ConfP.zero.toD confV0 := ⟨_, _, rfl, rfl, _, _, rfl, RepC.nil0, _, _, rfl, RepC.nil0, rfl⟩
theorem bal_zero (M : Mem) : RepL M BalP.zero.toD balV0 := ⟨_, _, rfl, rfl, _, _, rfl, rfl, _, _, rfl, rfl, rfl⟩

def mayR (kind key fence life rk : Int) (np na rz cz ls rm cm : Bool) : Prop :=
  (kind ≠ 1 → np = true ∧ na = true ∧ rz = true) ∧ (kind ≠ 3 → fence = 0) ∧ (kind ≠ 4 → life = 0) ∧ (kind ≠ 5 → cz = true) ∧ (2 < kind → key = 0) ∧ key ≤ 15 ∧
    (kind = 1 ∧ np = false ∧ ls = false ∧ rm = true ∧ (rk = 0 ∨ na = false) ∨ kind = 2 ∨ kind = 3 ∧ fence ≠ 0 ∨ kind = 4 ∧ life ≠ 0 ∨ kind = 5 ∧ cm = true)
def RecP.may (r : RecP) : Prop := mayR r.kind r.key r.fence r.life r.reg.kind r.promise.none r.acc.none (B (r.reg = RegP.zero)) (B (r.conf = ConfP.zero)) (r.promise.less r.acc) (B r.reg.may) (B r.conf.may)

set_option maxHeartbeats 8000000 in
set_option maxRecDepth 100000 in
set_option cbv.maxSteps 100000000 in
theorem may14_ok (a : RecP) (va : List Value) (w : World) (ha : RepL (wm w) a.toD va) (u1 : U8 a.conf.old) (u2 : U8 a.conf.new) :
    Calls Try.prog 36 #[.agg va.toArray] w fun e w' => e = .returned (.bool (B a.may)) ∧ Chg (fun _ _ => False) w w' := by
  obtain ⟨rv, cv, rfl, hr, hc⟩ := RecP.open ha
  clear ha
  have e1 := fun (w1 : World) => none14_ok a.promise w1
  have e2 := fun (w1 : World) => none14_ok a.acc w1
  have e3 := fun (w1 : World) => less_ok a.promise a.acc w1
  have e4 := fun (w1 : World) hi1 => may06_ok a.reg rv w1 (hr.later (im := elsewhere [] [] w) rfl hi1)
  have e5 := fun (w1 : World) hi1 => may10_ok a.conf cv w1 (hc.later (im := elsewhere [] [] w) rfl hi1)
  have e6 := fun (w1 : World) hi1 => regSameR_ok a.reg RegP.zero rv regV0 w1 (hr.later (im := elsewhere [] [] w) rfl hi1) (reg_zero _)
  have e7 := fun (w1 : World) hi1 => confSameR_ok a.conf ConfP.zero cv confV0 w1 (hc.later (im := elsewhere [] [] w) rfl hi1) (conf_zero _) u1 u2 (fun _ h => by cases h) (fun _ h => by cases h)
  obtain ⟨q, hq⟩ : ∃ q : Bool, q = B a.may := ⟨_, rfl⟩
  rw [← hq]
  unfold RecP.may at hq
  obtain ⟨np, hnp⟩ : ∃ h, h = a.promise.none := ⟨_, rfl⟩
  obtain ⟨na, hna⟩ : ∃ h, h = a.acc.none := ⟨_, rfl⟩
  obtain ⟨rz, hrz⟩ : ∃ h, h = B (a.reg = RegP.zero) := ⟨_, rfl⟩
  obtain ⟨cz, hcz⟩ : ∃ h, h = B (a.conf = ConfP.zero) := ⟨_, rfl⟩
  obtain ⟨ls, hls⟩ : ∃ h, h = a.promise.less a.acc := ⟨_, rfl⟩
  obtain ⟨rm, hrm⟩ : ∃ h, h = B a.reg.may := ⟨_, rfl⟩
  obtain ⟨cm, hcm⟩ : ∃ h, h = B a.conf.may := ⟨_, rfl⟩
  rw [← hnp, ← hna, ← hrz, ← hcz, ← hls, ← hrm, ← hcm] at hq
  rw [← hnp] at e1
  rw [← hna] at e2
  rw [← hls] at e3
  rw [← hrm] at e4
  rw [← hcm] at e5
  rw [← hrz] at e6
  rw [← hcz] at e7
  clear hnp hna hrz hcz hls hrm hcm
  obtain ⟨p1, c1, p2, c2, p3, c3, p4, c4, rfl, _⟩ := RegP.open hr
  obtain ⟨p5, c5, p6, c6, rfl, _⟩ := ConfP.open hc
  obtain ⟨kd, ky, ⟨bc, bn, bl⟩, ⟨ac, an, al⟩, ⟨k1, i1, s1, v1, o1, u1, l1, m1⟩, fe, li, ⟨cc, co, cn⟩⟩ := a
  clear hr hc u1 u2
  simp only [BalP.vals] at e1 e2 e3 e4 e5 e6 e7 hq ⊢
  obtain ⟨n1, hn1⟩ : ∃ n, n = v1.length := ⟨_, rfl⟩
  obtain ⟨n2, hn2⟩ : ∃ n, n = o1.length := ⟨_, rfl⟩
  obtain ⟨n3, hn3⟩ : ∃ n, n = u1.length := ⟨_, rfl⟩
  obtain ⟨n4, hn4⟩ : ∃ n, n = m1.length := ⟨_, rfl⟩
  obtain ⟨n5, hn5⟩ : ∃ n, n = co.length := ⟨_, rfl⟩
  obtain ⟨n6, hn6⟩ : ∃ n, n = cn.length := ⟨_, rfl⟩
  rw [← hn1, ← hn2, ← hn3, ← hn4] at e4 e6
  rw [← hn5, ← hn6] at e5 e7
  rw [← hn1, ← hn2, ← hn3, ← hn4, ← hn5, ← hn6]
  clear hn1 hn2 hn3 hn4 hn5 hn6
  refine X.begin (rg := []) (N := []) (ss := [.agg [.int .u8 (.v kd), .int .u8 (.v ky), .int .u64 (.v bc), .int .u8 (.v bn), .int .u32 (.v bl), .int .u64 (.v ac), .int .u8 (.v an), .int .u32 (.v al), .int .u8 (.v k1), .int .u64 (.v i1), .int .i64 (.v s1), .slv p1 n1 c1, .slv p2 n2 c2, .slv p3 n3 c3, .int .u64 (.v l1), .slv p4 n4 c4, .int .u64 (.v fe), .int .u32 (.v li), .int .u64 (.v cc), .slv p5 n5 c5, .slv p6 n6 c6]]) Try.func36 rfl B36_ok rfl rfl Sat.std0 ?_
  obtain ⟨im, hime⟩ : ∃ im, im = elsewhere [] [] w := ⟨_, rfl⟩
  show X (mkE Try.prog Try.f36 _ w (InR [] []) (elsewhere [] [] w) (fun _ _ => False) (fun _ => True) [] B36) _ _
  rw [← hime] at e4 e5 e6 e7 ⊢
  refine X.goP ([(7, .bool (.v np)), (12, .bool (.v na)), (19, .bool (.v rz)), (25, .bool (.v cz))]) T36_ok 400 _ rfl Try.results36 (fun pr fin hpr hfin => ?_)
  conv => cbv
  refine ⟨hpr _ (.of Try.call56 [.agg _, .agg _] (.bool cz) (fun _ => rfl) (fun _ => rfl) fun _ w1 hi1 => e7 w1 hi1), hpr _ (.of Try.call61 [.agg _, .agg _] (.bool rz) (fun _ => rfl) (fun _ => rfl) fun _ w1 hi1 => e6 w1 hi1), hpr _ (.of Try.call60 [.agg _] (.bool na) (fun _ => rfl) (fun _ => rfl) fun _ w1 hi1 => e2 w1), hpr _ (.of Try.call60 [.agg _] (.bool np) (fun _ => rfl) (fun _ => rfl) fun _ w1 hi1 => e1 w1), hfin _ _ ?_⟩
  refine X.cond rfl (fun h0 => ?_) (fun h0 => ?_)
  · refine X.go T36_ok 400 _ rfl Try.results36 ?_
    conv => arg 2; cbv
    refine X.done T36_ok rfl (fun N w' v hN hS hv => ⟨fin_bool hv ?_, hS.chg.mono fun k o _ h => inR_nil h⟩)
    simp only [SB.T, SB.F, SI.den] at h0
    rw [hq]
    refine (B_neg fun h => ?_).symm
    unfold mayR at h
    grind
  simp only [SB.T, SB.F, SI.den] at h0
  refine X.go T36_ok 400 _ rfl Try.results36 ?_
  conv => arg 2; cbv
  refine X.cond rfl (fun h1 => ?_) (fun h1 => ?_)
  · simp only [SB.T, SB.F, SI.den] at h1
    subst h1
    refine X.goP ([(82, .bool (.v np)), (89, .bool (.v ls)), (95, .bool (.v rm)), (105, .bool (.v na))]) T36_ok 400 _ rfl Try.results36 (fun pr fin hpr hfin => ?_)
    conv => cbv
    refine ⟨hpr _ (.of Try.call60 [.agg _] (.bool na) (fun _ => rfl) (fun _ => rfl) fun _ w1 hi1 => e2 w1), hpr _ (.of Try.call63 [.agg _] (.bool rm) (fun _ => rfl) (fun _ => rfl) fun _ w1 hi1 => e4 w1 hi1), hpr _ (.of Try.call62 [.agg _, .agg _] (.bool ls) (fun _ => rfl) (fun _ => rfl) fun _ w1 hi1 => e3 w1), hpr _ (.of Try.call60 [.agg _] (.bool np) (fun _ => rfl) (fun _ => rfl) fun _ w1 hi1 => e1 w1), hfin _ _ ?_⟩
    refine X.done T36_ok rfl (fun N w' v hN hS hv => ⟨fin_bool hv ?_, hS.chg.mono fun k o _ h => inR_nil h⟩)
    refine den_of ?_
    simp only [SB.T, SB.F, SI.den]
    rw [hq, B_iff]
    unfold mayR
    grind
  simp only [SB.T, SB.F, SI.den] at h1
  refine X.go T36_ok 400 _ rfl Try.results36 ?_
  conv => arg 2; cbv
  refine X.cond rfl (fun h2 => ?_) (fun h2 => ?_)
  · simp only [SB.T, SB.F, SI.den] at h2
    refine X.go T36_ok 400 _ rfl Try.results36 ?_
    conv => arg 2; cbv
    refine X.done T36_ok rfl (fun N w' v hN hS hv => ⟨fin_bool hv ?_, hS.chg.mono fun k o _ h => inR_nil h⟩)
    rw [hq]
    refine (B_pos ?_).symm
    unfold mayR
    grind
  simp only [SB.T, SB.F, SI.den] at h2
  refine X.go T36_ok 400 _ rfl Try.results36 ?_
  conv => arg 2; cbv
  refine X.cond rfl (fun h3 => ?_) (fun h3 => ?_)
  · simp only [SB.T, SB.F, SI.den] at h3
    refine X.go T36_ok 400 _ rfl Try.results36 ?_
    conv => arg 2; cbv
    refine X.done T36_ok rfl (fun N w' v hN hS hv => ⟨fin_bool hv ?_, hS.chg.mono fun k o _ h => inR_nil h⟩)
    refine den_of ?_
    simp only [SB.T, SB.F, SI.den]
    rw [hq, B_iff]
    unfold mayR
    grind
  simp only [SB.T, SB.F, SI.den] at h3
  refine X.go T36_ok 400 _ rfl Try.results36 ?_
  conv => arg 2; cbv
  refine X.cond rfl (fun h4 => ?_) (fun h4 => ?_)
  · simp only [SB.T, SB.F, SI.den] at h4
    refine X.go T36_ok 400 _ rfl Try.results36 ?_
    conv => arg 2; cbv
    refine X.done T36_ok rfl (fun N w' v hN hS hv => ⟨fin_bool hv ?_, hS.chg.mono fun k o _ h => inR_nil h⟩)
    refine den_of ?_
    simp only [SB.T, SB.F, SI.den]
    rw [hq, B_iff]
    unfold mayR
    grind
  simp only [SB.T, SB.F, SI.den] at h4
  refine X.go T36_ok 400 _ rfl Try.results36 ?_
  conv => arg 2; cbv
  refine X.cond rfl (fun h5 => ?_) (fun h5 => ?_)
  · simp only [SB.T, SB.F, SI.den] at h5
    subst h5
    refine X.goP ([(125, .bool (.v cm))]) T36_ok 400 _ rfl Try.results36 (fun pr fin hpr hfin => ?_)
    conv => cbv
    refine ⟨hpr _ (.of Try.call64 [.agg _] (.bool cm) (fun _ => rfl) (fun _ => rfl) fun _ w1 hi1 => e5 w1 hi1), hfin _ _ ?_⟩
    refine X.done T36_ok rfl (fun N w' v hN hS hv => ⟨fin_bool hv ?_, hS.chg.mono fun k o _ h => inR_nil h⟩)
    refine den_of ?_
    simp only [SB.T, SB.F, SI.den]
    rw [hq, B_iff]
    unfold mayR
    grind
  simp only [SB.T, SB.F, SI.den] at h5
  refine X.go T36_ok 400 _ rfl Try.results36 ?_
  conv => arg 2; cbv
  refine X.done T36_ok rfl (fun N w' v hN hS hv => ⟨fin_bool hv ?_, hS.chg.mono fun k o _ h => inR_nil h⟩)
  rw [hq]
  refine (B_neg fun h => ?_).symm
  unfold mayR at h
  grind

end Go.Proofs.Ytkjhpaeminegoaa
