/- The ring: a clone of bytes; none at all. -/
import Derived.Test.YthaffebapmkppaaRi3

namespace Go.Proofs.Ythaffebapmkppaa
open Go Go.Eng Go.Sort

def byL (d : Array Int) : List SV := d.toList.map fun x => .int .u8 (.v x)
theorem byL_get {d : Array Int} {j : Nat} {c : SV} (h : (byL d)[j]? = some c) : j < d.size ∧ c = .int .u8 (.v d[j]!) := by
  unfold byL at h
  rw [List.getElem?_map] at h
  obtain ⟨q, h1, h2⟩ := Option.map_eq_some_iff.1 h
  obtain ⟨h3, h4⟩ := List.getElem?_eq_some_iff.1 h1
  have h3' : j < d.size := by simpa using h3
  rw [getElem!_pos d j h3']
  subst h4
  exact ⟨h3', by rw [← h2]; simp⟩
theorem byL_len (d : Array Int) : (byL d).length = d.size := by simp [byL]
theorem byL_one (d : Array Int) : (byL d).all SV.one = true := by
  rw [List.all_eq_true]
  intro c hc
  obtain ⟨j, hj⟩ := List.mem_iff_getElem?.1 hc
  rw [(byL_get hj).2]; rfl
theorem byL_at {d : Array Int} {j : Nat} (h : j < d.size) : (byL d)[j]? = some (.int .u8 (.v d[j]!)) := by
  unfold byL
  rw [List.getElem?_map, getElem!_pos d j h]
  simp [h]

/-- such bytes can be read there -/
def ByIn (w : World) (b y : Nat) (d : Array Int) : Prop := ∀ j, j < d.size → w.cell? ⟨b, y + j, none⟩ = some (.int .u8 d[j]!)

/-- a row of bytes that is new -/
def NewA (b y c : Nat) (d : Array Int) (w : World) (e : Ending) (w' : World) : Prop := e = .returned (.slice (some ⟨b, y, none⟩) d.size c) ∧ (0 < d.size → w.heap.size ≤ b) ∧ d.size ≤ c ∧ AtA w' b y d ∧ Chg (fun _ _ => False) w w'

set_option maxHeartbeats 4000000 in
set_option maxRecDepth 100000 in
set_option cbv.maxSteps 100000000 in
theorem clone8_pos (b y n cp : Nat) (d : Array Int) (w : World) (hn : d.size = n) (h0 : n ≠ 0) (hle : n ≤ 1000) (hA : ByIn w b y d) :
    Calls Try.prog 36 #[.slice (some ⟨b, y, none⟩) n cp] w fun e w' => ∃ b' y' c', NewA b' y' c' d w e w' := by
  obtain ⟨cs, hcs⟩ : ∃ cs, cs = byL d := ⟨_, rfl⟩
  have hlen : cs.length = n := by rw [hcs, byL_len, hn]
  have hA' : ∀ (j : Nat) (c : SV), cs[j]? = some c → ∃ v, c.den [⟨b, y, cs.length⟩] = some v ∧ w.cell? ⟨b, y + j, none⟩ = some v := fun j c hj => by
    rw [hcs] at hj
    obtain ⟨h1, rfl⟩ := byL_get hj
    exact ⟨_, rfl, hA j h1⟩
  refine X.begin (rg := [⟨false, cs, none⟩]) (N := [⟨b, y, cs.length⟩]) (ss := [.osl 0 0 n 1 (some cp)]) Try.func36 rfl B36_ok rfl rfl
    (Sat.std1 false (World.block_lt_of_cell? _ _ (hA 0 (by omega))) hA' (fun h => by cases h)) ?_
  refine X.go T36_ok 16 _ rfl Try.results36 ?_
  conv => arg 2; cbv
  apply X.opEq (T := T36) T36_ok
  · exact opE_append (te := ti5) (new := cs) (m := n) rfl rfl rfl rfl rfl rfl rfl rfl (appSrc_row (g := ⟨false, cs, none⟩) rfl rfl rfl (by show cs.length = n * 1; omega))
      (appV_new (te := ti5) rfl h0 (appOk_ok (by decide) rfl (by show cs.length = n * 1; omega) (by rw [hcs]; exact byL_one d) (by show (2 * (0 + n) + 256) * 1 ≤ _; omega) (by omega))) rfl
  refine X.go T36_ok 400 _ rfl Try.results36 ?_
  conv => arg 2; cbv
  refine X.done T36_ok rfl (fun N w' v hN hS hv => ?_)
  obtain ⟨p, hp⟩ : ∃ p, N[2]? = some p := ⟨_, List.getElem?_eq_getElem (by rw [hS.len]; simp)⟩
  have hext := hS.ext 2 ⟨true, cs, none⟩ p rfl hp rfl
  simp only [hlen] at hext
  simp only [resV, SV.den, hp, Num.cap, Option.some.injEq] at hv
  refine ⟨p.b, p.o, _, by rw [← hv, hn, Nat.add_zero], ?_, ?_, fun j hj => ?_, hS.chg.ro1⟩
  · intro _
    rcases hS.foot 2 ⟨true, cs, none⟩ p rfl hp rfl with h | h
    · exact h
    · exact absurd (h 0 (by omega)) ro_not
  · rw [hn]; simpa using hext
  · have hj' : cs[j]? = some (.int .u8 (.v d[j]!)) := by rw [hcs]; exact byL_at hj
    obtain ⟨_, e0, c0⟩ := hS.cell 2 _ p rfl hp j _ hj'
    simp only [SV.den, SI.den, Option.some.injEq] at e0
    subst e0
    exact ⟨c0, (hS.room 2 _ p rfl hp rfl j (by omega)).2⟩

set_option maxHeartbeats 4000000 in
set_option maxRecDepth 100000 in
set_option cbv.maxSteps 100000000 in
theorem clone8_zero (a : Addr) (cp : Nat) (w : World) :
    Calls Try.prog 36 #[.slice (some a) 0 cp] w fun e w' => ∃ b' y' c', NewA b' y' c' #[] w e w' := by
  refine X.begin (rg := []) (N := []) (ss := [.slv (some a) 0 cp]) Try.func36 rfl B36_ok rfl rfl Sat.std0 ?_
  refine X.go T36_ok 400 _ rfl Try.results36 ?_
  conv => arg 2; cbv
  refine X.eqNil false rfl rfl rfl rfl Try.underlying22 (fun N _ _ => ⟨_, _, _, rfl, rfl⟩) rfl ?_
  refine X.go T36_ok 400 _ rfl Try.results36 ?_
  conv => arg 2; cbv
  refine X.app0 T36_ok rfl rfl rfl rfl rfl rfl rfl rfl rfl rfl (by decide) rfl (by decide) rfl ?_
  refine X.go T36_ok 400 _ rfl Try.results36 ?_
  conv => arg 2; cbv
  refine X.done T36_ok rfl (fun N w' v hN hS hv => ?_)
  obtain ⟨p, hp⟩ : ∃ p, N[0]? = some p := ⟨_, List.getElem?_eq_getElem (by rw [hS.len]; simp)⟩
  simp only [resV, SV.den, hp, Num.cap, Option.some.injEq] at hv
  refine ⟨p.b, p.o + 0, _, by rw [← hv]; rfl, fun h => absurd h (Nat.lt_irrefl 0), Nat.zero_le _, fun j hj => absurd hj (Nat.not_lt_zero _), hS.chg.none⟩

/-- a row of bytes is handed in -/
def InB (po : Option Addr) (n : Nat) (d : Array Int) (w : World) : Prop := d.size = n ∧ (0 < n → ∃ b y, po = some ⟨b, y, none⟩ ∧ ByIn w b y d)
theorem InB.stays {po : Option Addr} {n : Nat} {d : Array Int} {w w' : World} (h : InB po n d w) (hc : Chg (fun _ _ => False) w w') : InB po n d w' := ⟨h.1, fun hn => by
  obtain ⟨b, y, h1, h2⟩ := h.2 hn
  exact ⟨b, y, h1, fun j hj => cell_of_chg hc (fun h => h) (h2 j hj)⟩⟩

theorem clone8_any (po : Option Addr) (n cp : Nat) (d : Array Int) (w : World) (hs : po ≠ none) (hle : n ≤ 1000) (hA : InB po n d w) :
    Calls Try.prog 36 #[.slice po n cp] w fun e w' => ∃ b' y' c', NewA b' y' c' d w e w' := by
  obtain ⟨hn, hA⟩ := hA
  by_cases h0 : n = 0
  · subst h0
    have : d = #[] := Array.size_eq_zero_iff.1 hn
    subst this
    cases po with
    | none => exact absurd rfl hs
    | some a => exact clone8_zero _ _ _
  · obtain ⟨b, y, rfl, hB⟩ := hA (by omega)
    exact clone8_pos b y n cp d w hn h0 hle hB

set_option maxRecDepth 100000 in
set_option cbv.maxSteps 100000000 in
theorem clone8_nil (cp : Nat) (w : World) : Calls Try.prog 36 #[.slice none 0 cp] w fun e w' => e = .returned (.slice none 0 0) ∧ Chg (fun _ _ => False) w w' := by
  refine X.begin (rg := []) (N := []) (ss := [.slv none 0 cp]) Try.func36 rfl B36_ok rfl rfl Sat.std0 ?_
  refine X.go T36_ok 400 _ rfl Try.results36 ?_
  conv => arg 2; cbv
  refine X.eqNil true rfl rfl rfl rfl Try.underlying22 (fun N _ _ => ⟨_, _, _, rfl, rfl⟩) rfl ?_
  refine X.go T36_ok 400 _ rfl Try.results36 ?_
  conv => arg 2; cbv
  refine X.done T36_ok rfl (fun N w' v hN hS hv => ?_)
  simp [resV, SV.den, one?] at hv
  exact ⟨by rw [← hv], hS.chg.none⟩

end Go.Proofs.Ythaffebapmkppaa
