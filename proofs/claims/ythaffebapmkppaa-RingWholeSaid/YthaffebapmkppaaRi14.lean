/- RingMoves. -/
import Derived.Test.YthaffebapmkppaaRi13
import Derived.Test.YthaffebapmkppaaRp1

namespace Go.Proofs.Ythaffebapmkppaa
open Go Go.Eng Go.Sort

theorem take_mem {b : List Int} {k : Nat} (hk : k < b.length) (y : Int) : y ∈ b.take (k + 1) ↔ y ∈ b.take k ∨ y = b[k]! := by
  rw [List.take_add_one, List.mem_append, List.getElem?_eq_getElem hk, getElem!_pos b k hk, Option.toList_some, List.mem_singleton]
theorem take_dec {b : List Int} {k : Nat} {y z : Int} (hk : k < b.length) (hz : z = b[k]!) : (decide (y ∈ b.take k) || (y == z)) = decide (y ∈ b.take (k + 1)) := by
  rw [Bool.eq_iff_iff]
  simp only [Bool.or_eq_true, decide_eq_true_eq, beq_iff_eq, take_mem hk, hz]
def lostTo (a b : List Int) (i : Nat) : Nat := (a.take i).countP fun y => decide (y ∉ b)
theorem lostTo_succ {a b : List Int} {i : Nat} (hi : i < a.length) : lostTo a b (i + 1) = lostTo a b i + if a[i]! ∈ b then 0 else 1 := by
  unfold lostTo
  rw [List.take_add_one, List.getElem?_eq_getElem hi, List.countP_append, getElem!_pos a i hi]
  simp only [Option.toList, List.countP_cons, List.countP_nil]
  split <;> simp_all

set_option maxHeartbeats 8000000 in
set_option maxRecDepth 100000 in
set_option cbv.maxSteps 100000000 in
theorem moves_loops (x : Int) (pa pb : Option Addr) (qa ca qb cb ba ya bb yb : Nat) (a b : List Int) (w : World) (im : Mem) (Q : Ending → World → Prop) (hQ : Q = fun e w' => e = .returned (.bool true) ∧ Chg (fun _ _ => False) w w')
    (hpa : 0 < qa → pa = some ⟨ba, ya, none⟩) (hpb : 0 < qb → pb = some ⟨bb, yb, none⟩) (hqa : a.length = qa) (hqb : b.length = qb) (ha8 : qa ≤ 1000) (hb8 : qb ≤ 1000) (hai : ∀ j, j < qa → im ba (ya + j) = some (.int .u8 a[j]!)) (hbi : ∀ j, j < qb → im bb (yb + j) = some (.int .u8 b[j]!))
    (h1 : a.countP (fun y => decide (y ∉ b)) ≤ 1) (h2 : ∀ y ∈ b, y = x ∨ y ∈ a) (h3 : a.length ≤ b.length) :
    X (mkE Try.prog Try.f3 Q w (InR [] []) im (fun _ _ => False) (fun _ => True) [] B3) [It.code (sndC (sndC (sndC (Try.f3.body.getD .skip))))] ⟨[(8, .val (.slv pb qb cb)), (7, .val (.slv pa qa ca)), (1, .val (.int .u8 (.v x)))], []⟩ := by
  refine X.go T3_ok 400 _ rfl Try.results3 ?_
  conv => arg 2; cbv
  refine X.loop (fun _ : {i : Nat // i ≤ qa} => mkE Try.prog Try.f3 Q w (InR [] []) im (fun _ _ => False) (fun _ => True) [] B3)
    (fun g => ⟨[(1, .val (.int .u8 (.v x))), (7, .val (.slv pa qa ca)), (8, .val (.slv pb qb cb)), (9, .val (.int .i64 (.nat (lostTo a b g.1)))), (10, .val (.int .i64 (.nat g.1)))], []⟩) (fun g => qa - g.1) (fun _ => ⟨rfl, rfl, rfl, rfl⟩) (fun N ac w' hN hf hS => ⟨⟨0, Nat.zero_le _⟩, ?_⟩) (fun g q hq => ?_)
  · exact At.again hf hS (by repeat first | exact trivial | refine ⟨⟨_, rfl, .inl ⟨rfl, rfl⟩⟩, ?_⟩ | refine ⟨⟨_, rfl, .inr ⟨_, rfl, rfl⟩⟩, ?_⟩ | refine ⟨⟨_, rfl, .inr ⟨_, rfl, by simp (disch := omega) [SV.den, SI.den, wrapU, wrapD] <;> omega⟩⟩, ?_⟩) trivial
  obtain ⟨i, hi⟩ := g
  obtain ⟨lo, hlo⟩ : ∃ q, q = lostTo a b i := ⟨_, rfl⟩
  have hlo1 : lo ≤ 1000 := by
    rw [hlo]
    exact Nat.le_trans List.countP_le_length (by simp; omega)
  show X (mkE Try.prog Try.f3 Q w (InR [] []) im (fun _ _ => False) (fun _ => True) [] B3) _ ⟨[(1, .val (.int .u8 (.v x))), (7, .val (.slv pa qa ca)), (8, .val (.slv pb qb cb)), (9, .val (.int .i64 (.nat (lostTo a b i)))), (10, .val (.int .i64 (.nat i)))], []⟩
  rw [← hlo]
  refine X.go T3_ok 400 _ rfl Try.results3 ?_
  conv => arg 2; cbv
  refine X.cond rfl (fun hlt => ?_) (fun hge => ?_)
  · simp only [SB.T, SI.den] at hlt
    have hlt : i < qa := by omega
    obtain ⟨ai, hai1⟩ : ∃ z, z = a[i]! := ⟨_, rfl⟩
    obtain ⟨oi, hoi⟩ : ∃ o, o = ya + i := ⟨_, rfl⟩
    have hia : im ba (oi + 0) = some (.int .u8 ai) := by rw [Nat.add_zero, hoi, hai1]; exact hai i hlt
    refine X.go T3_ok 400 _ rfl Try.results3 ?_
    conv => arg 2; cbv
    refine X.loop (fun _ : {k : Nat // k ≤ qb} => mkE Try.prog Try.f3 Q w (InR [] []) im (fun _ _ => False) (fun _ => True) [] B3)
      (fun g => ⟨[(1, .val (.int .u8 (.v x))), (7, .val (.slv pa qa ca)), (8, .val (.slv pb qb cb)), (9, .val (.int .i64 (.nat lo))), (10, .val (.int .i64 (.nat i))), (11, .val (.bool (.v (decide (ai ∈ b.take g.1))))), (12, .val (.int .i64 (.nat g.1)))], []⟩) (fun g => qb - g.1) (fun _ => ⟨rfl, rfl, rfl, rfl⟩) (fun N ac w' hN hf hS => ⟨⟨0, Nat.zero_le _⟩, ?_⟩) (fun g q2 hq2 => ?_)
    · exact At.again hf hS (by repeat first | exact trivial | refine ⟨⟨_, rfl, .inl ⟨rfl, rfl⟩⟩, ?_⟩ | refine ⟨⟨_, rfl, .inr ⟨_, rfl, by simp [SV.den, SB.den, SI.den]⟩⟩, ?_⟩) trivial
    obtain ⟨k, hk⟩ := g
    obtain ⟨f, hf0⟩ : ∃ f, f = decide (ai ∈ b.take k) := ⟨_, rfl⟩
    show X (mkE Try.prog Try.f3 Q w (InR [] []) im (fun _ _ => False) (fun _ => True) [] B3) _ ⟨[(1, .val (.int .u8 (.v x))), (7, .val (.slv pa qa ca)), (8, .val (.slv pb qb cb)), (9, .val (.int .i64 (.nat lo))), (10, .val (.int .i64 (.nat i))), (11, .val (.bool (.v (decide (ai ∈ b.take k))))), (12, .val (.int .i64 (.nat k)))], []⟩
    rw [← hf0]
    refine X.go T3_ok 400 _ rfl Try.results3 ?_
    conv => arg 2; cbv
    refine X.cond rfl (fun hlt2 => ?_) (fun hge2 => ?_)
    · simp only [SB.T, SI.den] at hlt2
      have hlt2 : k < qb := by omega
      obtain ⟨bk, hbk⟩ : ∃ z, z = b[k]! := ⟨_, rfl⟩
      obtain ⟨ok, hok⟩ : ∃ o, o = yb + k := ⟨_, rfl⟩
      have hib : im bb (ok + 0) = some (.int .u8 bk) := by rw [Nat.add_zero, hok, hbk]; exact hbi k hlt2
      refine X.goP ([(47, .ext ba oi 0), (48, .int .u8 (.v ai)), (51, .ext bb ok 0), (52, .int .u8 (.v bk))]) T3_ok 400 _ rfl Try.results3 (fun pr fin hpr hfin => ?_)
      conv => cbv
      refine ⟨hpr _ (ValOk.im1 rfl Try.isAgg5 (fun _ => rfl) fun _ => hib), hpr _ (ValOk.im1 rfl Try.isAgg5 (fun _ => rfl) fun _ => hia), hpr _ (ValOk.at (z := k) rfl rfl (fun _ => rfl) Try.underlying22 Try.sizeOf5 (fun _ => hlt2) (hpb (by omega)) (by omega)), hpr _ (ValOk.at (z := i) rfl rfl (fun _ => rfl) Try.underlying22 Try.sizeOf5 (fun _ => hlt) (hpa (by omega)) (by omega)), hfin _ _ ?_⟩
      refine X.back (fun N ac w' hN hf hS => hq2 ⟨k + 1, hlt2⟩ ac w' (by simp only; omega) ?_)
      have hT : decide (ai ∈ b.take (k + 1)) = (f || (ai == bk)) := by rw [hf0]; exact (take_dec (by omega) hbk).symm
      show At (mkE Try.prog Try.f3 Q w (InR [] []) im (fun _ _ => False) (fun _ => True) [] B3) ⟨[(1, .val (.int .u8 (.v x))), (7, .val (.slv pa qa ca)), (8, .val (.slv pb qb cb)), (9, .val (.int .i64 (.nat lo))), (10, .val (.int .i64 (.nat i))), (11, .val (.bool (.v (decide (ai ∈ b.take (k + 1)))))), (12, .val (.int .i64 (.nat (k + 1))))], []⟩ ac w'
      rw [hT]
      exact At.again hf hS (by repeat first | exact trivial | refine ⟨⟨_, rfl, .inl ⟨rfl, rfl⟩⟩, ?_⟩ | refine ⟨⟨_, rfl, .inr ⟨_, rfl, rfl⟩⟩, ?_⟩ | refine ⟨⟨_, rfl, .inr ⟨_, rfl, by simp (disch := omega) [SV.den, SI.den, wrapU, wrapD] <;> omega⟩⟩, ?_⟩) trivial
    · simp only [SB.F, SI.den] at hge2
      have hke : k = qb := by omega
      have hf1 : f = decide (ai ∈ b) := by rw [hf0, List.take_of_length_le (by omega)]
      have hls := lostTo_succ (b := b) (show i < a.length by omega)
      rw [← hlo, ← hai1] at hls
      refine X.go T3_ok 400 _ rfl Try.results3 ?_
      conv => arg 2; cbv
      refine X.cond rfl (fun hn => ?_) (fun hy => ?_)
      · have hn : ¬ ai ∈ b := by simpa [SB.T, SB.F, hf1] using hn
        rw [if_neg hn] at hls
        refine X.go T3_ok 400 _ rfl Try.results3 ?_
        conv => arg 2; cbv
        refine X.back (fun N ac w' hN hf hS => hq ⟨i + 1, hlt⟩ ac w' (by simp only; omega) ?_)
        show At (mkE Try.prog Try.f3 Q w (InR [] []) im (fun _ _ => False) (fun _ => True) [] B3) ⟨[(1, .val (.int .u8 (.v x))), (7, .val (.slv pa qa ca)), (8, .val (.slv pb qb cb)), (9, .val (.int .i64 (.nat (lostTo a b (i + 1))))), (10, .val (.int .i64 (.nat (i + 1))))], []⟩ ac w'
        rw [hls]
        exact At.again hf hS (by repeat first | exact trivial | refine ⟨⟨_, rfl, .inl ⟨rfl, rfl⟩⟩, ?_⟩ | refine ⟨⟨_, rfl, .inr ⟨_, rfl, rfl⟩⟩, ?_⟩ | refine ⟨⟨_, rfl, .inr ⟨_, rfl, by simp (disch := omega) [SV.den, SI.den, wrapU, wrapD] <;> omega⟩⟩, ?_⟩) trivial
      · have hy : ai ∈ b := by simpa [SB.T, SB.F, hf1] using hy
        rw [if_pos hy] at hls
        refine X.go T3_ok 400 _ rfl Try.results3 ?_
        conv => arg 2; cbv
        refine X.back (fun N ac w' hN hf hS => hq ⟨i + 1, hlt⟩ ac w' (by simp only; omega) ?_)
        show At (mkE Try.prog Try.f3 Q w (InR [] []) im (fun _ _ => False) (fun _ => True) [] B3) ⟨[(1, .val (.int .u8 (.v x))), (7, .val (.slv pa qa ca)), (8, .val (.slv pb qb cb)), (9, .val (.int .i64 (.nat (lostTo a b (i + 1))))), (10, .val (.int .i64 (.nat (i + 1))))], []⟩ ac w'
        rw [hls, Nat.add_zero]
        exact At.again hf hS (by repeat first | exact trivial | refine ⟨⟨_, rfl, .inl ⟨rfl, rfl⟩⟩, ?_⟩ | refine ⟨⟨_, rfl, .inr ⟨_, rfl, rfl⟩⟩, ?_⟩ | refine ⟨⟨_, rfl, .inr ⟨_, rfl, by simp (disch := omega) [SV.den, SI.den, wrapU, wrapD] <;> omega⟩⟩, ?_⟩) trivial
  · simp only [SB.F, SI.den] at hge
    have hie : i = qa := by omega
    have hl1 : lo ≤ 1 := by rw [hlo, lostTo, List.take_of_length_le (by omega)]; exact h1
    refine X.go T3_ok 400 _ rfl Try.results3 ?_
    conv => arg 2; cbv
    refine X.loop (fun _ : {k : Nat // k ≤ qb} => mkE Try.prog Try.f3 Q w (InR [] []) im (fun _ _ => False) (fun _ => True) [] B3)
      (fun g => ⟨[(1, .val (.int .u8 (.v x))), (7, .val (.slv pa qa ca)), (8, .val (.slv pb qb cb)), (9, .val (.int .i64 (.nat lo))), (13, .val (.int .i64 (.nat g.1)))], []⟩) (fun g => qb - g.1) (fun _ => ⟨rfl, rfl, rfl, rfl⟩) (fun N ac w' hN hf hS => ⟨⟨0, Nat.zero_le _⟩, ?_⟩) (fun g q hq => ?_)
    · exact At.again hf hS (by repeat first | exact trivial | refine ⟨⟨_, rfl, .inl ⟨rfl, rfl⟩⟩, ?_⟩ | refine ⟨⟨_, rfl, .inr ⟨_, rfl, rfl⟩⟩, ?_⟩ | refine ⟨⟨_, rfl, .inr ⟨_, rfl, by simp (disch := omega) [SV.den, SI.den, wrapU, wrapD] <;> omega⟩⟩, ?_⟩) trivial
    obtain ⟨k, hk⟩ := g
    show X (mkE Try.prog Try.f3 Q w (InR [] []) im (fun _ _ => False) (fun _ => True) [] B3) _ ⟨[(1, .val (.int .u8 (.v x))), (7, .val (.slv pa qa ca)), (8, .val (.slv pb qb cb)), (9, .val (.int .i64 (.nat lo))), (13, .val (.int .i64 (.nat k)))], []⟩
    refine X.go T3_ok 400 _ rfl Try.results3 ?_
    conv => arg 2; cbv
    refine X.cond rfl (fun hlt => ?_) (fun hge => ?_)
    · simp only [SB.T, SI.den] at hlt
      have hlt : k < qb := by omega
      obtain ⟨bk, hbk⟩ : ∃ z, z = b[k]! := ⟨_, rfl⟩
      obtain ⟨ok, hok⟩ : ∃ o, o = yb + k := ⟨_, rfl⟩
      have hib : im bb (ok + 0) = some (.int .u8 bk) := by rw [Nat.add_zero, hok, hbk]; exact hbi k hlt
      have hbm : bk ∈ b := by rw [hbk, getElem!_pos b k (by omega)]; exact List.getElem_mem _
      refine X.goP ([(67, .ext bb ok 0), (68, .int .u8 (.v bk))]) T3_ok 400 _ rfl Try.results3 (fun pr fin hpr hfin => ?_)
      conv => cbv
      refine ⟨hpr _ (ValOk.im1 rfl Try.isAgg5 (fun _ => rfl) fun _ => hib), hpr _ (ValOk.at (z := k) rfl rfl (fun _ => rfl) Try.underlying22 Try.sizeOf5 (fun _ => hlt) (hpb (by omega)) (by omega)), hfin _ _ ?_⟩
      refine X.loop (fun _ : {i : Nat // i ≤ qa} => mkE Try.prog Try.f3 Q w (InR [] []) im (fun _ _ => False) (fun _ => True) [] B3)
        (fun g => ⟨[(1, .val (.int .u8 (.v x))), (7, .val (.slv pa qa ca)), (8, .val (.slv pb qb cb)), (9, .val (.int .i64 (.nat lo))), (13, .val (.int .i64 (.nat k))), (14, .val (.bool (.v (bk == x || decide (bk ∈ a.take g.1))))), (15, .val (.int .i64 (.nat g.1)))], []⟩) (fun g => qa - g.1) (fun _ => ⟨rfl, rfl, rfl, rfl⟩) (fun N ac w' hN hf hS => ⟨⟨0, Nat.zero_le _⟩, ?_⟩) (fun g q2 hq2 => ?_)
      · exact At.again hf hS (by repeat first | exact trivial | refine ⟨⟨_, rfl, .inl ⟨rfl, rfl⟩⟩, ?_⟩ | refine ⟨⟨_, rfl, .inr ⟨_, rfl, by simp [SV.den, SB.den, SI.den]⟩⟩, ?_⟩) trivial
      obtain ⟨i, hi⟩ := g
      obtain ⟨f, hf0⟩ : ∃ f, f = (bk == x || decide (bk ∈ a.take i)) := ⟨_, rfl⟩
      show X (mkE Try.prog Try.f3 Q w (InR [] []) im (fun _ _ => False) (fun _ => True) [] B3) _ ⟨[(1, .val (.int .u8 (.v x))), (7, .val (.slv pa qa ca)), (8, .val (.slv pb qb cb)), (9, .val (.int .i64 (.nat lo))), (13, .val (.int .i64 (.nat k))), (14, .val (.bool (.v (bk == x || decide (bk ∈ a.take i))))), (15, .val (.int .i64 (.nat i)))], []⟩
      rw [← hf0]
      refine X.go T3_ok 400 _ rfl Try.results3 ?_
      conv => arg 2; cbv
      refine X.cond rfl (fun hlt2 => ?_) (fun hge2 => ?_)
      · simp only [SB.T, SI.den] at hlt2
        have hlt2 : i < qa := by omega
        obtain ⟨ai, hai1⟩ : ∃ z, z = a[i]! := ⟨_, rfl⟩
        obtain ⟨oi, hoi⟩ : ∃ o, o = ya + i := ⟨_, rfl⟩
        have hia : im ba (oi + 0) = some (.int .u8 ai) := by rw [Nat.add_zero, hoi, hai1]; exact hai i hlt2
        refine X.goP ([(81, .ext ba oi 0), (82, .int .u8 (.v ai)), (85, .ext bb ok 0), (86, .int .u8 (.v bk))]) T3_ok 400 _ rfl Try.results3 (fun pr fin hpr hfin => ?_)
        conv => cbv
        refine ⟨hpr _ (ValOk.im1 rfl Try.isAgg5 (fun _ => rfl) fun _ => hib), hpr _ (ValOk.im1 rfl Try.isAgg5 (fun _ => rfl) fun _ => hia), hpr _ (ValOk.at (z := k) rfl rfl (fun _ => rfl) Try.underlying22 Try.sizeOf5 (fun _ => hlt) (hpb (by omega)) (by omega)), hpr _ (ValOk.at (z := i) rfl rfl (fun _ => rfl) Try.underlying22 Try.sizeOf5 (fun _ => hlt2) (hpa (by omega)) (by omega)), hfin _ _ ?_⟩
        refine X.back (fun N ac w' hN hf hS => hq2 ⟨i + 1, hlt2⟩ ac w' (by simp only; omega) ?_)
        have hT : (bk == x || decide (bk ∈ a.take (i + 1))) = (f || (ai == bk)) := by rw [hf0, Bool.or_assoc, ← take_dec (by omega) hai1, show (bk == ai) = (ai == bk) from Bool.beq_comm]
        show At (mkE Try.prog Try.f3 Q w (InR [] []) im (fun _ _ => False) (fun _ => True) [] B3) ⟨[(1, .val (.int .u8 (.v x))), (7, .val (.slv pa qa ca)), (8, .val (.slv pb qb cb)), (9, .val (.int .i64 (.nat lo))), (13, .val (.int .i64 (.nat k))), (14, .val (.bool (.v (bk == x || decide (bk ∈ a.take (i + 1)))))), (15, .val (.int .i64 (.nat (i + 1))))], []⟩ ac w'
        rw [hT]
        exact At.again hf hS (by repeat first | exact trivial | refine ⟨⟨_, rfl, .inl ⟨rfl, rfl⟩⟩, ?_⟩ | refine ⟨⟨_, rfl, .inr ⟨_, rfl, rfl⟩⟩, ?_⟩ | refine ⟨⟨_, rfl, .inr ⟨_, rfl, by simp (disch := omega) [SV.den, SI.den, wrapU, wrapD] <;> omega⟩⟩, ?_⟩) trivial
      · simp only [SB.F, SI.den] at hge2
        have hft : f = true := by
          rw [hf0, List.take_of_length_le (by omega)]
          rcases h2 bk hbm with h | h
          · simp [h]
          · simp [h]
        refine X.go T3_ok 400 _ rfl Try.results3 ?_
        conv => arg 2; cbv
        refine X.cond rfl (fun hn => ?_) (fun hy => ?_)
        · simp [SB.T, SB.F, hft] at hn
        · skip
          refine X.go T3_ok 400 _ rfl Try.results3 ?_
          conv => arg 2; cbv
          refine X.back (fun N ac w' hN hf hS => hq ⟨k + 1, hlt⟩ ac w' (by simp only; omega) ?_)
          exact At.again hf hS (by repeat first | exact trivial | refine ⟨⟨_, rfl, .inl ⟨rfl, rfl⟩⟩, ?_⟩ | refine ⟨⟨_, rfl, .inr ⟨_, rfl, rfl⟩⟩, ?_⟩ | refine ⟨⟨_, rfl, .inr ⟨_, rfl, by simp (disch := omega) [SV.den, SI.den, wrapU, wrapD] <;> omega⟩⟩, ?_⟩) trivial
    · simp only [SB.F, SI.den] at hge
      refine X.goP ([(101, .bool (.lit true))]) T3_ok 400 _ rfl Try.results3 (fun pr fin hpr hfin => ?_)
      conv => cbv
      refine ⟨hpr _ (.of Try.call11 [] (.bool true) (fun _ => rfl) (fun _ => rfl) fun _ w1 _ => awake_ok w1), hfin _ _ ?_⟩
      refine X.done T3_ok rfl (fun N w' v hN hS hv => ?_)
      rw [hQ]
      refine ⟨fin_bool hv ?_, hS.chg.none⟩
      have : qa ≤ qb := by omega
      simp [SB.den, SI.den]
      exact ⟨decide_eq_true (by omega), this⟩


def fstC : Code → Code
  | .seq a _ => a
  | c => c
def opsC : Code → Array Oper
  | .region _ o _ => o
  | _ => #[]

/-- all regions given up -/
theorem X.noRegs {E : Ctx} {k : List It} {f : Fr} (f' : Fr) {rg : List Rg} (h0 : E.N0 = []) (hs : ∀ N : Nums, N.length = rg.length → Sh N [] f f') (h : X E k ⟨f', []⟩) : X E k ⟨f, rg⟩ := by
  refine X.conv fun N a w hN hf hS => ⟨E, ⟨f', []⟩, rfl, rfl, rfl, rfl, ⟨[], by rw [h0]; exact nil_le _, hf.sh (hs N hS.len), ?_⟩, h⟩
  exact { hS with
    len := rfl
    lt := fun r q hq => by simp at hq
    cell := fun r g q hg hq => by simp at hg
    ext := fun r g q hg hq => by simp at hg
    room := fun r g q hg hq => by simp at hg
    disj := fun r r' g g' q q' hg hq => by simp at hg
    obj := fun r g q ob hg hq => by simp at hg
    odisj := fun r r' g g' q q' hg hq => by simp at hg
    imd := fun r g q hg hq => by simp at hg
    dd := fun r g q hg hq => by simp at hg
    foot := fun r g q hg hq => by simp at hg }

theorem ofL_perm (d : Array Int) (key : Int) : (ofL d key).Perm (keepL (ringP d) key 3) := by
  unfold ofL
  exact srtA_perm _
theorem of_moves {d d' : Array Int} {x : Int} (h : ∀ y, y ∈ d'.toList ↔ y ∈ d.toList ∨ y = x) (key : Int) :
    ((ofL d key).countP fun y => decide (y ∉ ofL d' key)) ≤ 1 ∧ (∀ y ∈ ofL d' key, y = x ∨ y ∈ ofL d key) ∧ (ofL d key).length ≤ (ofL d' key).length := by
  obtain ⟨h1, h2, h3⟩ := keep_moves h key
  have e : (fun y : Int => decide (y ∉ ofL d' key)) = fun y => decide (y ∉ keepL (ringP d') key 3) := by
    funext y
    simp only [(ofL_perm d' key).mem_iff]
  refine ⟨?_, fun y hy => ?_, ?_⟩
  · rw [e, (ofL_perm d key).countP_eq]
    exact h1
  · rw [(ofL_perm d key).mem_iff]
    exact h2 y ((ofL_perm d' key).mem_iff.1 hy)
  · rw [(ofL_perm d key).length_eq, (ofL_perm d' key).length_eq]
    exact h3
theorem ofL_len (d : Array Int) (key : Int) (h : d.size ≤ 100) : (ofL d key).length ≤ 1000 := by
  rw [(ofL_perm d key).length_eq]
  have h1 := keepL_len (ringP d) key 3
  have h2 := ringP_len d
  omega

set_option maxHeartbeats 8000000 in
set_option maxRecDepth 100000 in
set_option cbv.maxSteps 100000000 in
theorem moves_mid (m r : Nat) (rg : List Rg) (d l : Array Int) (ls : List SV) (pa : Option Addr) (qa ca : Nat) (more key : Int) (w : World) (im : Mem) (Q : Ending → World → Prop) (hQ : Q = fun e w' => e = .returned (.bool true) ∧ Chg (fun _ _ => False) w w') (hr0 : rg[r]? = some ⟨true, ls, none⟩) (hm : m ≤ 100) (hln : l.size = m) (hlm : ∀ y, y ∈ l.toList ↔ y ∈ d.toList ∨ y = more) (hd8 : d.size ≤ 100)
    (hl : ∀ x ∈ l.toList, 0 ≤ x ∧ x < 256) (hls : ls = byL l) (hqa : (ofL d key).length = qa) (hpa : 0 < qa → ∃ ba ya, pa = some ⟨ba, ya, none⟩ ∧ ∀ j, j < qa → im ba (ya + j) = some (.int .u8 (ofL d key)[j]!)) :
    X (mkE Try.prog Try.f3 Q w (InR [] []) im (fun _ _ => False) (fun _ => True) [] B3) [It.ops (opsC (fstC (sndC (sndC (Try.f3.body.getD .skip))))) [10, 11, 12], It.code (sndC (sndC (sndC (Try.f3.body.getD .skip))))] ⟨[(29, .val (.int .u8 (.v key))), (28, .val (.osl r 0 m 1 none)), (22, .val (.slv pa qa ca)), (1, .val (.int .u8 (.v more)))], rg⟩ := by
  refine X.call rfl rfl rfl rfl Try.call12 (fun N w1 args hN hS ha => ?_)
  obtain ⟨p, hp⟩ := num_of hS hr0
  obtain ⟨c, ha⟩ : ∃ c, args = [.slice (some ⟨p.b, p.o + 0, none⟩) m c, .int .u8 key] := by
    simp only [SV.denL, SV.den, SI.den, hp] at ha
    exact ⟨_, (Option.some.inj ha).symm⟩
  rw [ha]
  refine (of_ok _ m c l key w1 (by omega) (inB_of hS hr0 hp hls hln) hl).mono fun e w2 ⟨pb, cb, he, hcb, hr, hch⟩ => ⟨_, he, ?_⟩
  obtain ⟨F, hF⟩ : ∃ F, F = ofL l key := ⟨_, rfl⟩
  obtain ⟨qb, hqb⟩ : ∃ q, q = F.length := ⟨_, rfl⟩
  rw [← hF] at hr hcb
  rw [← hF, ← hqb]
  refine Goes.newMem hN hS hch (r := .slv pb qb cb) rfl rfl (fun hold hnew => ?_)
  obtain ⟨im2, him⟩ : ∃ im2, im2 = imNew im w1 w2 := ⟨_, rfl⟩
  have hpb : 0 < qb → ∃ bb yb, pb = some ⟨bb, yb, none⟩ ∧ ∀ j, j < qb → im2 bb (yb + j) = some (.int .u8 F[j]!) := fun h0 => by
    rcases hr with ⟨h, _⟩ | ⟨_, b, o, h1, h2, h3⟩
    · rw [h] at hqb; simp at hqb; omega
    · refine ⟨b, o, h1, fun j hj => ?_⟩
      rw [him]
      have := hnew _ _ _ h2 (h3 j (by simpa using (by omega : j < F.length))).1
      simpa [(by omega : j < F.length)] using this
  have hpa2 : 0 < qa → ∃ ba ya, pa = some ⟨ba, ya, none⟩ ∧ ∀ j, j < qa → im2 ba (ya + j) = some (.int .u8 (ofL d key)[j]!) := fun h0 => by
    obtain ⟨b, o, h1, h2⟩ := hpa h0
    exact ⟨b, o, h1, fun j hj => by rw [him]; exact hold _ _ _ (h2 j hj)⟩
  show X (mkE Try.prog Try.f3 Q w (InR [] []) (imNew im w1 w2) (fun _ _ => False) (fun _ => True) [] B3) _ _
  rw [← him]
  clear him hold hnew hr hch he ha hp hS hN hpa
  refine X.go T3_ok 2 _ rfl Try.results3 ?_
  conv => arg 2; cbv
  refine X.less [1, 7, 8] ?_
  refine X.noRegs [(8, .val (.slv pb qb cb)), (7, .val (.slv pa qa ca)), (1, .val (.int .u8 (.v more)))] rfl (fun N hN => ⟨rfl, fun _ h => h, rfl, fun _ h => h, rfl, fun _ h => h, trivial⟩) ?_
  obtain ⟨ba, ya, hpa, hai⟩ : ∃ ba ya, (0 < qa → pa = some ⟨ba, ya, none⟩) ∧ ∀ j, j < qa → im2 ba (ya + j) = some (.int .u8 (ofL d key)[j]!) := by
    by_cases h : 0 < qa
    · obtain ⟨b, o, h1, h2⟩ := hpa2 h
      exact ⟨b, o, fun _ => h1, h2⟩
    · exact ⟨0, 0, fun h2 => absurd h2 h, fun j hj => by omega⟩
  obtain ⟨bb, yb, hpb, hbi⟩ : ∃ bb yb, (0 < qb → pb = some ⟨bb, yb, none⟩) ∧ ∀ j, j < qb → im2 bb (yb + j) = some (.int .u8 F[j]!) := by
    by_cases h : 0 < qb
    · obtain ⟨b, o, h1, h2⟩ := hpb h
      exact ⟨b, o, fun _ => h1, h2⟩
    · exact ⟨0, 0, fun h2 => absurd h2 h, fun j hj => by omega⟩
  obtain ⟨h1, h2, h3⟩ := of_moves hlm key
  rw [← hF] at h1 h2 h3
  have := ofL_len d key hd8
  have := ofL_len l key (by omega)
  exact moves_loops more pa pb qa ca qb cb ba ya bb yb (ofL d key) F w im2 Q hQ hpa hpb hqa hqb.symm (by omega) (by rw [← hF] at this; omega) hai hbi h1 h2 h3


set_option maxHeartbeats 8000000 in
set_option maxRecDepth 100000 in
set_option cbv.maxSteps 100000000 in
theorem moves_out (po : Option Addr) (n cp : Nat) (more key : Int) (w : World) (hn : 80 < n) :
    Calls Try.prog 3 #[.slice po n cp, .int .u8 more, .int .u8 key] w fun e w' => e = .returned (.bool true) ∧ Chg (fun _ _ => False) w w' := by
  refine X.begin (rg := []) (N := []) (ss := [.slv po n cp, .int .u8 (.v more), .int .u8 (.v key)]) Try.func3 rfl B3_ok rfl rfl Sat.std0 ?_
  refine X.go T3_ok 400 _ rfl Try.results3 ?_
  conv => arg 2; cbv
  refine X.cond rfl (fun h => ?_) (fun h => ?_)
  · skip
    refine X.go T3_ok 400 _ rfl Try.results3 ?_
    conv => arg 2; cbv
    refine X.call rfl rfl rfl rfl Try.call11 (fun N w1 args hN hS ha => ?_)
    have ha : args = [] := (Option.some.inj ha).symm
    rw [ha]
    refine (awake_ok w1).mono fun e w2 ⟨he, hch⟩ => ⟨_, he, Goes.same hN hS hch (r := .bool (.lit true)) rfl rfl ?_⟩
    refine X.go T3_ok 400 _ rfl Try.results3 ?_
    conv => arg 2; cbv
    refine X.done T3_ok rfl (fun N w' v hN hS hv => ?_)
    exact ⟨fin_bool hv rfl, hS.chg.none⟩
  · simp [SB.F, SI.den] at h
    omega

set_option maxHeartbeats 8000000 in
set_option maxRecDepth 100000 in
set_option cbv.maxSteps 100000000 in
theorem moves_in (p : Option Addr) (n cp : Nat) (d : Array Int) (more key : Int) (w : World) (h80 : n ≤ 80) (hIn : InB p n d w) (hc : n ≤ cp) (hd : ∀ x ∈ d.toList, 0 ≤ x ∧ x < 256) (hm : 0 ≤ more ∧ more < 256) :
    Calls Try.prog 3 #[.slice p n cp, .int .u8 more, .int .u8 key] w fun e w' => e = .returned (.bool true) ∧ Chg (fun _ _ => False) w w' := by
  have hn := hIn.1
  obtain ⟨Q, hQ⟩ : ∃ Q : Ending → World → Prop, Q = fun e w' => e = .returned (.bool true) ∧ Chg (fun _ _ => False) w w' := ⟨_, rfl⟩
  rw [← hQ]
  obtain ⟨cs, hcs⟩ : ∃ cs, cs = byL d := ⟨_, rfl⟩
  have hlen : cs.length = n := by rw [hcs, byL_len, hn]
  refine X.begin (rg := []) (N := []) (ss := [.slv p n cp, .int .u8 (.v more), .int .u8 (.v key)]) Try.func3 rfl B3_ok rfl rfl Sat.std0 ?_
  refine X.go T3_ok 400 _ rfl Try.results3 ?_
  conv => arg 2; cbv
  refine X.cond rfl (fun h => ?_) (fun h => ?_)
  · simp [SB.T, SI.den] at h
    omega
  refine X.go T3_ok 400 _ rfl Try.results3 ?_
  conv => arg 2; cbv
  refine X.call rfl rfl rfl rfl Try.call12 (fun N w1 args hN hS ha => ?_)
  have ha : args = [.slice p n cp, .int .u8 key] := (Option.some.inj ha).symm
  rw [ha]
  refine (of_ok p n cp d key w1 (by omega) (hIn.stays hS.chg.none) hd).mono fun e w2 ⟨pa, ca, he, hca, hr, hch⟩ => ⟨_, he, ?_⟩
  obtain ⟨qa, hqa⟩ : ∃ q, q = (ofL d key).length := ⟨_, rfl⟩
  rw [← hqa]
  refine Goes.newMem hN hS hch (r := .slv pa qa ca) rfl rfl (fun hold hnew => ?_)
  obtain ⟨im, him⟩ : ∃ im, im = imNew (elsewhere [] [] w) w1 w2 := ⟨_, rfl⟩
  have hpa : 0 < qa → ∃ ba ya, pa = some ⟨ba, ya, none⟩ ∧ ∀ j, j < qa → im ba (ya + j) = some (.int .u8 (ofL d key)[j]!) := fun h0 => by
    rcases hr with ⟨h, _⟩ | ⟨_, b, o, h1, h2, h3⟩
    · rw [h] at hqa; simp at hqa; omega
    · refine ⟨b, o, h1, fun j hj => ?_⟩
      rw [him]
      have := hnew _ _ _ h2 (h3 j (by simpa using (by omega : j < (ofL d key).length))).1
      simpa [(by omega : j < (ofL d key).length)] using this
  have hdi : ∀ b y, ByIn w b y d → ∀ j, j < n → im b (y + j) = some (.int .u8 d[j]!) := fun b y hA j hj => by
    rw [him]
    exact hold _ _ _ (by show elsewhere [] [] w b (y + j) = _; rw [els_old]; exact hA j (by omega))
  show X (mkE Try.prog Try.f3 Q w (InR [] []) (imNew (elsewhere [] [] w) w1 w2) (fun _ _ => False) (fun _ => True) [] B3) _ _
  rw [← him]
  clear him hold hnew hr hch he ha hS hN
  obtain ⟨l, hl⟩ : ∃ l : Array Int, l = (d.toList ++ [more]).toArray := ⟨_, rfl⟩
  obtain ⟨ls, hls⟩ : ∃ ls, ls = byL l := ⟨_, rfl⟩
  have hln : l.size = n + 1 := by rw [hl]; simp [hn]
  have hlm : ∀ y, y ∈ l.toList ↔ y ∈ d.toList ∨ y = more := fun y => by rw [hl]; simp
  have hlb : ∀ x ∈ l.toList, 0 ≤ x ∧ x < 256 := fun x hx => by
    rcases (hlm x).1 hx with h | h
    · exact hd x h
    · rw [h]; exact hm
  have hlc : cs ++ [.int .u8 (.v more)] = ls := by rw [hls, hl, hcs]; simp [byL]
  rcases Nat.eq_zero_or_pos n with h0 | h0
  · subst h0
    have hc0 : cs = [] := List.eq_nil_of_length_eq_zero hlen
    rw [hc0, List.nil_append] at hlc
    refine X.go T3_ok 400 _ rfl Try.results3 ?_
    conv => arg 2; cbv
    refine X.app0 (T := T3) T3_ok rfl rfl rfl rfl rfl rfl rfl rfl rfl rfl (by decide) rfl (by decide) rfl ?_
    refine X.go T3_ok 400 _ rfl Try.results3 ?_
    conv => arg 2; cbv
    refine X.less [1, 22, 28, 29] ?_
    subst hlc
    exact moves_mid 1 2 [⟨true, [], none⟩, ⟨true, [.int .u8 (.v more)], none⟩, ⟨true, [.int .u8 (.v more)], none⟩] d l _ pa qa ca more key w im Q hQ rfl (by omega) hln hlm (by omega) hlb hls hqa.symm hpa
  · obtain ⟨b, y, hp, hA⟩ := hIn.2 h0
    have hdi := hdi b y hA
    refine X.less [0, 1, 2, 22] ?_
    show X (mkE Try.prog Try.f3 Q w (InR [] []) im (fun _ _ => False) (fun _ => True) [] B3) _ ⟨[(22, .val (.slv pa qa ca)), (0, .val (.slv p n cp)), (1, .val (.int .u8 (.v more))), (2, .val (.int .u8 (.v key)))], []⟩
    refine X.addRo [(22, .val (.slv pa qa ca)), (0, .val (.osl 0 0 n 1 (some cp))), (1, .val (.int .u8 (.v more))), (2, .val (.int .u8 (.v key)))] b y (cs := cs) (by omega) (fun j c hj => by
      rw [hcs] at hj
      obtain ⟨h1, rfl⟩ := byL_get hj
      exact ⟨_, fun _ => rfl, hdi j (by omega)⟩) ⟨rfl, fun _ h => h, rfl, fun x h => by rw [hp] at h; simpa [SV.den, Num.cap] using h, rfl, fun _ h => h, rfl, fun _ h => h, trivial⟩ ?_
    obtain ⟨c1, hc1⟩ : ∃ c, c = (cs.drop 0).take n := ⟨_, rfl⟩
    have hc1s : c1 = cs := by rw [hc1, List.drop_zero]; exact List.take_of_length_le (by omega)
    have h1l : c1.length = n := by rw [hc1s, hlen]
    have ho1 : c1.all SV.one = true := by rw [hc1s, hcs]; exact byL_one d
    rw [← hc1s] at hlc
    refine X.go T3_ok 2 _ rfl Try.results3 ?_
    conv => arg 2; cbv
    show X (mkE Try.prog Try.f3 Q w (InR [] []) im (fun _ _ => False) (fun _ => True) [] B3) (It.ops _ _ :: _) ⟨_, _⟩
    refine X.opEq (T := T3) T3_ok (opE_append (te := ti5) (new := c1) (m := n) rfl rfl rfl rfl rfl rfl rfl rfl (by rw [hc1]; exact appSrc_part (te := ti5) (ti := ti22) (g := ⟨false, cs, none⟩) rfl rfl rfl rfl (by show 0 + n ≤ cs.length; omega))
      (appV_new (te := ti5) rfl (by omega) (appOk_ok (by decide) rfl (by show c1.length = n * 1; omega) ho1 (by show (2 * (0 + n) + 256) * 1 ≤ _; omega) (by omega))) rfl) ?_
    refine X.go T3_ok 2 _ rfl Try.results3 ?_
    conv => arg 2; cbv
    have happ := appV_hid (rg := [⟨false, cs, none⟩, ⟨true, [], none⟩, ⟨true, c1, none⟩, ⟨true, [.int .u8 (.v more)], none⟩]) (te := ti5) (r := 2) (n := n) (m := 1) (cs := c1) (new := [.int .u8 (.v more)]) rfl (by show c1.length = n * 1; omega) (by decide) (appOk_ok (by decide) rfl rfl rfl (by show (2 * (n + 1) + 256) * 1 ≤ _; omega) (by omega))
    rw [hlc] at happ
    show X (mkE Try.prog Try.f3 Q w (InR [] []) im (fun _ _ => False) (fun _ => True) [] B3) (It.ops _ _ :: _) ⟨_, _⟩
    refine X.opEq (T := T3) T3_ok (opE_append (te := ti5) (new := [.int .u8 (.v more)]) (m := 1) rfl rfl rfl rfl rfl rfl rfl rfl (appSrc_row (g := ⟨true, [.int .u8 (.v more)], none⟩) rfl rfl rfl rfl) happ rfl) ?_
    refine X.go T3_ok 1 _ rfl Try.results3 ?_
    conv => arg 2; cbv
    refine X.less [1, 22, 28, 29] ?_
    exact moves_mid (n + 1) 4 _ d l ls pa qa ca more key w im Q hQ rfl (by omega) hln hlm (by omega) hlb hls hqa.symm hpa

theorem moves_ok (po : Option Addr) (n cp : Nat) (d : Array Int) (more key : Int) (w : World) (hA : InB po n d w) (hc : n ≤ cp) (hd : ∀ x ∈ d.toList, 0 ≤ x ∧ x < 256) (hm : 0 ≤ more ∧ more < 256) :
    Calls Try.prog 3 #[.slice po n cp, .int .u8 more, .int .u8 key] w fun e w' => e = .returned (.bool true) ∧ Chg (fun _ _ => False) w w' := by
  by_cases h : 80 < n
  · exact moves_out po n cp more key w h
  · exact moves_in po n cp d more key w (by omega) hA hc hd hm

end Go.Proofs.Ythaffebapmkppaa
