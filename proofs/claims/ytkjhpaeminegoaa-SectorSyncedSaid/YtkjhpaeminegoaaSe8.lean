/- The sector's functions: a row gone through backward. -/
import Derived.Test.YtkjhpaeminegoaaSe7
import Derived.RangeFuncNested
import Derived.RangeFuncBound
import Derived.RangeFuncCalls
import Derived.RangeFuncLeaves
import Derived.Shelf.Abstract
import Derived.Shelf.RegionOpen
import Derived.WalkKit
import Derived.OwnWalkIn
import Derived.TacticsInMore
import Derived.LoopNIn
import Derived.LoopIn

namespace Go.Proofs.Ytkjhpaeminegoaa
open Go.RowKit Go.Shelf
attribute [local go_sem] Oper.semAt_some

/-- what has come when k rounds are over -/
def downs (n k : Nat) : List Nat := (List.range k).map fun j => n - 1 - j
theorem downs_succ (n k : Nat) : downs n (k + 1) = downs n k ++ [n - 1 - k] := by simp [downs, List.range_succ]
theorem downs_len (n k : Nat) : (downs n k).length = k := by simp [downs]

theorem wrap64_sub1 (len : Nat) (h : len ≤ 1000) : wrap64 ((len : Int) - 1) = (len : Int) - 1 := by
  simp [wrap64]; omega

set_option maxRecDepth 100000 in
set_option maxHeartbeats 2000000 in
theorem back1_in (F : Fence) (n : Nat) (hf : F.fn 65) (hro : F.round = none) (hn : 1 ≤ n) (l Bs n₀ b off len cap size : Nat) (ws : Nat → Int × By) (hreach : len ≤ 1000) (hb : b < n₀) (hBn : Bs < n₀) (J Jx : List {q : Nat // q < len} → World → Prop)
    (hY : ∀ (pre : List {q : Nat // q < len}) (x : {q : Nat // q < len}) W, J pre W → pre.length < len → YieldAt F (n - 1) Try.prog l #[.int .i64 (x.1 : Int), wv size (ws x.1)] W fun e W' =>
      (e = .returned (.bool true) ∧ J (pre ++ [x]) W' ∧ Below n₀ W W') ∨ (e = .returned (.bool false) ∧ Jx (pre ++ [x]) W'))
    (W : World) (hBs : W.cell? ⟨Bs, 0, none⟩ = some (.slice (some ⟨b, off, none⟩) len cap)) (hc : ∀ j, j < len → W.cell? ⟨b, off + j * 2, none⟩ = some (.int .i64 (ws j).1) ∧ W.cell? ⟨b, off + j * 2 + 1, none⟩ = some ((ws j).2.val size)) (h0 : J [] W) :
    CallsIn F n Try.prog 65 #[.func (.yield l) #[] #[], .pointer (some ⟨Bs, 0, none⟩)] W fun e W' => (∃ v, e = .returned v) ∧
      ((∃ ys : List {q : Nat // q < len}, ys.map (·.1) = downs len len ∧ J ys W') ∨ (∃ pre : List {q : Nat // q < len}, (∃ k, k ≤ len ∧ pre.map (·.1) = downs len k) ∧ Jx pre W')) := by
  refine callsIn_of_wp Try.func65 rfl hf ?_ hro
  simp only [Try.ntmps65, List.size_toArray, List.length_cons, List.length_nil, Nat.reduceAdd, Nat.reduceSub, Array.replicate_succ, Array.replicate_zero, List.push_toArray, List.append_toArray, List.nil_append, List.cons_append]
  gi_wp2
  gi_loopw [3] (fun i wr => ∃ (k : Nat) (pre : List {q : Nat // q < len}), k ≤ len ∧ i = .int .i64 ((len : Int) - 1 - k) ∧ pre.map (·.1) = downs len k ∧ J pre wr ∧ Below n₀ W wr)
    (fun i _ => (intOf i + 1).toNat)
  case atStart =>
    exact ⟨0, [], Nat.zero_le _, by simp [wrap64_sub1 len hreach], rfl, h0, Below.refl _ _⟩
  case round =>
    obtain ⟨k, pre, hk, rfl, hpre, hJs, hnx⟩ := hrel
    have hBx : wr.cell? ⟨Bs, 0, none⟩ = some (.slice (some ⟨b, off, none⟩) len cap) := (hnx.cell (p := ⟨Bs, 0, none⟩) hBn).trans hBs
    by_cases hlt : k < len
    · obtain ⟨q, hq⟩ : ∃ q, q = len - 1 - k := ⟨_, rfl⟩
      have hqi : (len : Int) - 1 - k = (q : Nat) := by omega
      have hql : q < len := by omega
      have h1 := (hnx.cell (p := ⟨b, off + q * 2, none⟩) hb).trans (hc q hql).1
      have h2 := (hnx.cell (p := ⟨b, off + q * 2 + 1, none⟩) hb).trans (hc q hql).2
      obtain ⟨fn, tmps, assign, body, hy, hR⟩ := hY pre ⟨q, hql⟩ wr hJs (by rw [← List.length_map (f := fun x : {q : Nat // q < len} => x.1), hpre, downs_len]; exact hlt)
      rw [hqi]
      have hds : (pre ++ [(⟨q, hql⟩ : {q : Nat // q < len})]).map (·.1) = downs len (k + 1) := by rw [downs_succ, ← hq, List.map_append, hpre]; rfl
      have hqi2 : (q : Int) - 1 = (len : Int) - 1 - ((k + 1 : Nat) : Int) := by omega
      have hq1 : q ≤ 1000 := by omega
      clear hq hqi
      simp only [wv] at hy
      gi_wp2
      refine hR.mono ?_
      rintro e W3 (⟨rfl, hJ3, hk3⟩ | ⟨rfl, hJx3⟩)
      · gi_wp2
        go_roundw
        case rel => exact ⟨k + 1, _, by omega, by simp [wrap64_sub1 q hq1, hqi2], hds, hJ3, hnx.trans hk3⟩
        case measure => simp [intOf, wrap64_sub1 q hq1]; omega
      · gi_wp2
        refine bodyPost_ret (results_none rfl _ _ _) rfl ?_
        exact ⟨⟨_, rfl⟩, .inr ⟨_, ⟨k + 1, by omega, hds⟩, hJx3⟩⟩
    · obtain rfl : k = len := by omega
      have hneg : (k : Int) - 1 - k = -1 := by omega
      rw [hneg]
      gi_wp2
      go_end0
      exact ⟨⟨_, rfl⟩, .inl ⟨_, hpre, hJs⟩⟩

set_option maxRecDepth 100000 in
set_option maxHeartbeats 1000000 in
theorem back1_nil (F : Fence) (n : Nat) (hf : F.fn 65) (hro : F.round = none) {α : Type} (l Bs : Nat) (J : List α → World → Prop) (W : World) (hBs : W.cell? ⟨Bs, 0, none⟩ = some (.slice none 0 0)) (h0 : J [] W) :
    CallsIn F n Try.prog 65 #[.func (.yield l) #[] #[], .pointer (some ⟨Bs, 0, none⟩)] W fun e W' => (∃ v, e = .returned v) ∧ J [] W' := by
  refine callsIn_of_wp Try.func65 rfl hf ?_ hro
  simp only [Try.ntmps65, List.size_toArray, List.length_cons, List.length_nil, Nat.reduceAdd, Nat.reduceSub, Array.replicate_succ, Array.replicate_zero, List.push_toArray, List.append_toArray, List.nil_append, List.cons_append]
  gi_wp2
  gi_loopw [3] (fun i wr => i = .int .i64 (-1) ∧ J [] wr) (fun _ _ => 0)
  case atStart => exact ⟨rfl, h0⟩
  case round =>
    obtain ⟨rfl, hJs⟩ := hrel
    gi_wp2
    go_end0
    exact ⟨⟨_, rfl⟩, hJs⟩

set_option maxHeartbeats 1000000 in
theorem back_in (F : Fence) (n : Nat) (hf : F.fn 42) (hro : F.round = none) (a : Option Addr) (len cap : Nat) (w : World) :
    CallsIn F n Try.prog 42 #[.slice a len cap] w fun e w' => e = .returned (.func (.func 65) #[] #[.pointer (some ⟨w.heap.size, 0, none⟩)]) ∧ w' = w.alloc (.cells #[.slice a len cap] 81) := by
  refine callsIn_of_wp Try.func42 rfl hf ?_ hro
  simp only [Try.ntmps42, List.size_toArray, List.length_cons, List.length_nil, Nat.reduceAdd, Nat.reduceSub, Array.replicate_succ, Array.replicate_zero, List.push_toArray, List.append_toArray, List.nil_append, List.cons_append]
  gi_wp2
  go_ret
  exact ⟨rfl, rfl⟩

/-- the rows, from the last one on -/
theorem back_stops (F : Fence) (n : Nat) (hf : F.fn 65) (hro : F.round = none) (hn : 1 ≤ n) (Bs n₀ : Nat) (po : Option Addr) (b off len cap size : Nat) (ws : Nat → Int × By) (hreach : len ≤ 1000) (w : World) (hBs : Bs < n₀) (hn₀ : n₀ ≤ w.heap.size)
    (hpo : (po = none ∧ len = 0 ∧ cap = 0) ∨ (po = some ⟨b, off, none⟩ ∧ b < n₀)) (hc : w.cell? ⟨Bs, 0, none⟩ = some (.slice po len cap)) (hr : ∀ j, j < len → w.cell? ⟨b, off + j * 2, none⟩ = some (.int .i64 (ws j).1) ∧ w.cell? ⟨b, off + j * 2 + 1, none⟩ = some ((ws j).2.val size)) :
    SeqStopsK F n Try.prog 65 #[.pointer (some ⟨Bs, 0, none⟩)] (fun x : {q : Nat // q < len} => #[Value.int .i64 (x.1 : Int), wv size (ws x.1)]) (Below n₀) (fun ys => ys.map (·.1) = downs len len) (fun pre => ∃ k, k ≤ len ∧ pre.map (·.1) = downs len k) len w := fun l J Jx W hW _ _ hY h0 => by
  have hc' := (hW.cell (p := ⟨Bs, 0, none⟩) (by show Bs < _; omega)).trans hc
  rcases hpo with ⟨rfl, rfl, rfl⟩ | ⟨rfl, hb⟩
  · exact (back1_nil F n hf hro l Bs J W hc' h0).mono fun e W' ⟨he, hj⟩ => ⟨he, .inl ⟨_, rfl, hj⟩⟩
  · refine (back1_in F n hf hro hn l Bs n₀ b off len cap size ws hreach hb hBs J Jx hY W hc' (fun j hj => ⟨(hW.cell (p := ⟨b, off + j * 2, none⟩) (by show b < _; omega)).trans (hr j hj).1, (hW.cell (p := ⟨b, off + j * 2 + 1, none⟩) (by show b < _; omega)).trans (hr j hj).2⟩) h0).mono ?_
    rintro e W' ⟨he, h | h⟩
    · exact ⟨he, .inl h⟩
    · exact ⟨he, .inr h⟩

set_option maxRecDepth 100000 in
set_option maxHeartbeats 1000000 in
theorem may_in (F : Fence) (n : Nat) (hf : F.fn 37) (hro : F.round = none) (b y : Nat) (w : World) (ho : w.cell? ⟨b, y + 4, none⟩ = some (.bool false)) :
    CallsIn F n Try.prog 37 #[.pointer (some ⟨b, y, none⟩)] w fun e w' => e = .returned (.int .i64 0) ∧ w' = w := by
  refine callsIn_of_wp Try.func37 rfl hf ?_ hro
  simp only [Try.ntmps37, List.size_toArray, List.length_cons, List.length_nil, Nat.reduceAdd, Nat.reduceSub, Array.replicate_succ, Array.replicate_zero, List.push_toArray, List.append_toArray, List.nil_append, List.cons_append]
  gi_wp2
  go_ret
  exact ⟨rfl, rfl⟩

set_option maxRecDepth 100000 in
set_option maxHeartbeats 1000000 in
theorem has_in (F : Fence) (n : Nat) (hf : F.fn 38) (hro : F.round = none) (b y : Nat) (i : Int) (c : Nat) (w : World) (ho : w.cell? ⟨b, y + 1, none⟩ = some (.int .i64 (c : Int))) (h1 : 0 ≤ i) (h2 : i < c) :
    CallsIn F n Try.prog 38 #[.pointer (some ⟨b, y, none⟩), .int .i64 i] w fun e w' => e = .returned (.bool true) ∧ w' = w := by
  refine callsIn_of_wp Try.func38 rfl hf ?_ hro
  simp only [Try.ntmps38, List.size_toArray, List.length_cons, List.length_nil, Nat.reduceAdd, Nat.reduceSub, Array.replicate_succ, Array.replicate_zero, List.push_toArray, List.append_toArray, List.nil_append, List.cons_append]
  gi_wp2
  go_ret
  simp [h1, h2]

end Go.Proofs.Ytkjhpaeminegoaa
