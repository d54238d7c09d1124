/- The sector's functions: rows of bytes; a clone of one. -/
import Derived.Test.YtkjhpaeminegoaaTab
import Derived.Test.YtkjhpaeminegoaaEC
import Derived.Test.YtkjhpaeminegoaaED

namespace Go.Proofs.Ytkjhpaeminegoaa
open Go.Eng

/-- bytes lie there -/
def BytesAt (b y n : Nat) (g : Nat → Int) (W : World) : Prop := ∀ j, j < n → W.cell? ⟨b, y + j, none⟩ = some (.int .u8 (g j))

def bytesL (g : Nat → Int) (n : Nat) : List SV := (List.range n).map fun j => .int .u8 (.v (g j))
theorem bytesL_get (g : Nat → Int) (n j : Nat) (c : SV) (h : (bytesL g n)[j]? = some c) : j < n ∧ c = .int .u8 (.v (g j)) := by
  unfold bytesL at h
  rw [List.getElem?_map] at h
  obtain ⟨q, h1, h2⟩ := Option.map_eq_some_iff.1 h
  obtain ⟨h3, h4⟩ := List.getElem?_eq_some_iff.1 h1
  simp at h3 h4
  subst h4
  exact ⟨h3, h2.symm⟩
theorem bytesL_at {g : Nat → Int} {n j : Nat} (h : j < n) : (bytesL g n)[j]? = some (.int .u8 (.v (g j))) := by
  unfold bytesL
  rw [List.getElem?_map, List.getElem?_range h]; rfl
theorem bytesL_len (g : Nat → Int) (n : Nat) : (bytesL g n).length = n := by simp [bytesL]
theorem bytesL_one (g : Nat → Int) (n : Nat) : (bytesL g n).all SV.one = true := by
  rw [List.all_eq_true]
  intro c hc
  obtain ⟨j, hj⟩ := List.mem_iff_getElem?.1 hc
  rw [(bytesL_get g n j c hj).2]; rfl

theorem BytesAt.cells {b y n : Nat} {g : Nat → Int} {w : World} (h : BytesAt b y n g w) (N : Nums) (j : Nat) (c : SV) (hj : (bytesL g n)[j]? = some c) : ∃ v, c.den N = some v ∧ w.cell? ⟨b, y + j, none⟩ = some v := by
  obtain ⟨h1, rfl⟩ := bytesL_get g n j c hj
  exact ⟨_, rfl, h j h1⟩

set_option maxHeartbeats 40000000 in
set_option maxRecDepth 100000 in
set_option cbv.maxSteps 100000000 in
theorem cloneB_ok (b y n cp : Nat) (g : Nat → Int) (w : World) (h0 : n ≠ 0) (hn : n ≤ 1000) (hE : BytesAt b y n g w) :
    Calls Try.prog 39 #[.slice (some ⟨b, y, none⟩) n cp] w (FreshRet (bytesL g n) n 1 w) := by
  obtain ⟨cs, hcs⟩ : ∃ cs, cs = bytesL g n := ⟨_, rfl⟩
  rw [← hcs]
  have hlen : cs.length = n := by rw [hcs]; exact bytesL_len g n
  refine X.begin (rg := [⟨false, cs, none⟩]) (N := [⟨b, y, cs.length⟩]) (ss := [.osl 0 0 n 1 (some cp)]) Try.func39 rfl B39_ok rfl rfl
    (Sat.std1 false (World.block_lt_of_cell? _ _ (hE 0 (by omega))) (by rw [hcs]; exact hE.cells _) (fun h => by cases h)) ?_
  refine X.go T39_ok 400 _ rfl Try.results39 ?_
  conv => arg 2; cbv
  refine X.eqNil false rfl rfl rfl rfl Try.underlying30 (fun N hN _ => by
    have hq := hN 0 ⟨b, y, cs.length⟩ rfl
    exact ⟨some ⟨b, y + 0, none⟩, n, cp, by simp only [SV.den, hq]; rfl, rfl⟩) rfl ?_
  refine X.go T39_ok 7 _ rfl Try.results39 ?_
  conv => arg 2; cbv
  apply X.opEq (T := T39) T39_ok
  · exact opE_append (te := ti5) (new := cs) (m := n) rfl rfl rfl rfl rfl rfl rfl rfl (appSrc_row (g := ⟨false, cs, none⟩) rfl rfl rfl (by show cs.length = n * 1; omega))
      (appV_new (te := ti5) rfl h0 (appOk_ok (by decide) rfl (by show cs.length = n * 1; omega) (by rw [hcs]; exact bytesL_one g n) (by show (2 * (0 + n) + 256) * 1 ≤ _; omega) (by omega))) rfl
  refine X.go T39_ok 400 _ rfl Try.results39 ?_
  conv => arg 2; cbv
  refine X.done T39_ok rfl (fun N w' v hN hS hv => ?_)
  obtain ⟨p, hp⟩ : ∃ p, N[2]? = some p := ⟨_, List.getElem?_eq_getElem (by rw [hS.len]; simp)⟩
  have hext := hS.ext 2 ⟨true, cs, none⟩ p rfl hp rfl
  simp only [resV, SV.den, hp, Num.cap, Option.some.injEq] at hv
  refine ⟨p.b, p.o, p.x, by rw [← hv, Nat.add_zero, Nat.sub_zero], ?_, hext, by simp only [hlen] at hext; omega, fun j c hj => ?_, fun j hj => hS.room 2 ⟨true, cs, none⟩ p rfl hp rfl j hj, hS.chg.ro1⟩
  · rcases hS.foot 2 ⟨true, cs, none⟩ p rfl hp rfl with h | h
    · exact h
    · exact absurd (h 0 (by simp only [hlen] at hext; omega)) ro_not
  · obtain ⟨v, h1, h2⟩ := hS.cell 2 ⟨true, cs, none⟩ p rfl hp j c hj
    rw [hcs] at hj
    obtain ⟨h3, rfl⟩ := bytesL_get g n j c hj
    exact ⟨_, rfl, by rw [h2]; simpa [SV.den] using h1.symm⟩

end Go.Proofs.Ytkjhpaeminegoaa
