/- The worker's functions, last part: New; the worker that is awake. -/
import Derived.Test.YtcfghkiokdbhjaaWk8

namespace Go.Proofs.Ytcfghkiokdbhjaa
open Go.Eng

theorem awake_ok (w : World) : Calls Try.prog 15 #[] w fun e w' => e = .returned (.bool true) ∧ Chg (fun _ _ => False) w w' := run0 FALL_ok F15_ok 1000 (by kernel_rfl) w

/-- a region of one's own, as rows -/
theorem own_rows {E : Env} {N : Nums} {rg : List Rg} {w : World} (hS : Sat E N rg w) {r : Nat} {g : Rg} {p : Num} (hg : rg[r]? = some g) (hp : N[r]? = some p) (ho : g.own = true) {sz n : Nat} {f : Nat → List Value} (hf : ∀ s, s < n → (f s).length = sz)
    (hd : SV.denL N g.cells = some (flatL f n)) : ArrAt p.b p.o sz n f w := by
  intro s hs
  refine ⟨hf s hs, fun q v hq => ?_⟩
  have hlt : q < sz := by rw [← hf s hs]; exact (List.getElem?_eq_some_iff.1 hq).1
  have hfl : (flatL f n)[s * sz + q]? = some v := by rw [flatL_get hf hs hlt]; exact hq
  obtain ⟨hl, hc⟩ := SV.denL_get _ hd
  have hj : s * sz + q < g.cells.length := by rw [← hl]; exact (List.getElem?_eq_some_iff.1 hfl).1
  obtain ⟨u, h1, h2⟩ := hS.cell r g p hg hp _ _ (List.getElem?_eq_getElem hj)
  obtain ⟨u', h3, h4⟩ := hc _ _ (List.getElem?_eq_getElem hj)
  rw [h1] at h3
  cases h3
  rw [hfl] at h4
  cases h4
  exact ⟨h2, (hS.room r g p hg hp ho _ (Nat.lt_of_lt_of_le hj (hS.ext r g p hg hp ho))).2⟩

theorem zrows (N : Nums) : ∀ n, SV.denL N (Eng.rep n [.int .u8 (.lit 0), .int .u64 (.lit 0), .int .u64 (.lit 0), .int .u64 (.lit 0), .int .u8 (.lit 0), .int .i64 (.lit 0), .int .i64 (.lit 0)]) = some (flatL (fun _ => Job.z.vals) n) := by
  intro n
  rw [denL_rep (m := Job.z.vals) rfl n]
  congr 1
  have : ∀ n, repV n Job.z.vals ++ Job.z.vals = Job.z.vals ++ repV n Job.z.vals := by
    intro n
    induction n with
    | zero => rfl
    | succ n ih => rw [repV, List.append_assoc, ih]
  induction n with
  | zero => rfl
  | succ n ih => rw [repV, flatL, ← ih, this]

set_option maxHeartbeats 4000000 in
set_option maxRecDepth 100000 in
set_option cbv.maxSteps 100000000 in
theorem new_ok (w : World) : Calls Try.prog 16 #[] w fun e w' => ∃ b y, e = .returned (.pointer (some ⟨b, y, none⟩)) ∧ w.heap.size ≤ b ∧ JobsAt b y (fun _ => Job.z) w' ∧ Chg (fun _ _ => False) w w' := by
  refine X.begin (rg := []) (N := []) (ss := []) Try.func16 rfl B16_ok rfl rfl Sat.std0 ?_
  refine X.go T16_ok 300 _ rfl Try.results16 ?_
  conv => arg 2; cbv
  refine X.done T16_ok rfl (fun N w' v hN hS hv => ?_)
  obtain ⟨p, hp⟩ : ∃ p, N[0]? = some p := ⟨_, List.getElem?_eq_getElem (by rw [hS.len]; exact Nat.zero_lt_one)⟩
  have hv : v = .pointer (some ⟨p.b, p.o, none⟩) := by
    have : SV.den N (.own 0 0) = some v := hv
    simp [SV.den, hp] at this
    exact this.symm
  refine ⟨p.b, p.o, by rw [hv], ?_, own_rows hS (r := 0) (g := ⟨true, Eng.rep 16 [.int .u8 (.lit 0), .int .u64 (.lit 0), .int .u64 (.lit 0), .int .u64 (.lit 0), .int .u8 (.lit 0), .int .i64 (.lit 0), .int .i64 (.lit 0)], none⟩) rfl hp rfl (fun _ _ => rfl) (zrows N 16), hS.chg.none⟩
  have hx : 0 < p.x := Nat.lt_of_lt_of_le (by show 0 < 112; omega) (hS.ext 0 ⟨true, Eng.rep 16 [.int .u8 (.lit 0), .int .u64 (.lit 0), .int .u64 (.lit 0), .int .u64 (.lit 0), .int .u8 (.lit 0), .int .i64 (.lit 0), .int .i64 (.lit 0)], none⟩ p rfl hp rfl)
  rcases hS.foot 0 _ p rfl hp rfl with h | h
  · exact h
  · obtain ⟨r, g, q, h1, _⟩ := h 0 hx
    simp at h1

end Go.Proofs.Ytcfghkiokdbhjaa
