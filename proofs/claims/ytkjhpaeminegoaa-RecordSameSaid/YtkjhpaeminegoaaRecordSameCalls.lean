/- RecordSame: whatever the arguments. -/
import Derived.Test.YtkjhpaeminegoaaRe19
import Derived.Test.YtkjhpaeminegoaaLaw

namespace Go.Proofs.Ytkjhpaeminegoaa
open Go Go.Eng Go.ChangeShapes Go.WideShapes Go.ChangeAt Go.RowKit

theorem _root_.Go.Eng.FitL.cons {P : Program} {m : Nat} {k : CK} {ks : List CK} {ds : List Dt} (h : FitL P m (k :: ks) ds) : ∃ d r, ds = d :: r ∧ FitC P m k d ∧ FitL P m ks r := by simpa only [FitL] using h
theorem _root_.Go.Eng.FitL.nil {P : Program} {m : Nat} {ds : List Dt} (h : FitL P m [] ds) : ds = [] := by simpa only [FitL] using h
theorem _root_.Go.Eng.FitC.int' {P : Program} {m : Nat} {k : IntKind} {d : Dt} (h : FitC P m (.int k) d) : ∃ z, d = .int k z ∧ (Lit.int k z).wf = true := by
  cases m <;> simpa only [FitC] using h
theorem _root_.Go.Eng.FitC.slice' {P : Program} {m e : Nat} {ks : List CK} (hk : kindsOf P 8 e = some ks) {d : Dt} (h : FitC P (m + 1) (.slice e) d) : ∃ rows, d = .list rows ∧ ∀ r ∈ rows, FitL P m ks r := by
  simp only [FitC] at h
  obtain ⟨rows, rfl, _, h⟩ := h
  exact ⟨rows, rfl, fun r hr => by
    obtain ⟨ks', h1, h2⟩ := h r hr
    rw [hk] at h1
    cases h1
    exact h2⟩

theorem u8_wf {z : Int} (h : (Lit.int .u8 z).wf = true) : 0 ≤ z ∧ z ≤ 255 := by
  simp [Lit.wf, IntKind.min, IntKind.max, IntKind.bits, IntKind.signed] at h
  omega

def i64K : List CK := [.int .i64]
def u8K : List CK := [.int .u8]
def doneK : List CK := [.int .u8, .int .u64, .int .i64, .int .u64, .int .i64, .slice 2]
def cellK : List CK := [.int .u64, .int .u8, .int .i64, .int .i64]
def markK : List CK := [.int .u8, .int .u64, .int .u64]
def recK : List CK := [.int .u8, .int .u8, .int .u64, .int .u8, .int .u32, .int .u64, .int .u8, .int .u32, .int .u8, .int .u64, .int .i64, .slice 2, .slice 120, .slice 131, .int .u64, .slice 134, .int .u64, .int .u32, .int .u64, .slice 5, .slice 5]

set_option maxRecDepth 100000 in
theorem k_i64 : kindsOf Try.prog 8 2 = some i64K := by kernel_rfl
set_option maxRecDepth 100000 in
theorem k_u8 : kindsOf Try.prog 8 5 = some u8K := by kernel_rfl
set_option maxRecDepth 100000 in
theorem k_done : kindsOf Try.prog 8 120 = some doneK := by kernel_rfl
set_option maxRecDepth 100000 in
theorem k_cell : kindsOf Try.prog 8 131 = some cellK := by kernel_rfl
set_option maxRecDepth 100000 in
theorem k_mark : kindsOf Try.prog 8 134 = some markK := by kernel_rfl
set_option maxRecDepth 100000 in
theorem k_rec : kindsOf Try.prog 8 75 = some recK := by kernel_rfl

theorem fit_i64 {m : Nat} {d : Dt} (h : FitC Try.prog (m + 1) (.slice 2) d) : ∃ l : List Int, d = .list (l.map i64D) := by
  obtain ⟨rows, rfl, hrows⟩ := h.slice' k_i64
  obtain ⟨xs, rfl, _⟩ := map_of (f := i64D) (p := fun _ => True) (rows := rows) fun r hr => by
    obtain ⟨_, _, rfl, h1, h2⟩ := FitL.cons (hrows r hr)
    obtain ⟨z, rfl, _⟩ := h1.int'
    cases FitL.nil h2
    exact ⟨z, rfl, trivial⟩
  exact ⟨xs, rfl⟩

theorem fit_u8 {m : Nat} {d : Dt} (h : FitC Try.prog (m + 1) (.slice 5) d) : ∃ l : List Int, d = .list (l.map u8D) ∧ U8 l := by
  obtain ⟨rows, rfl, hrows⟩ := h.slice' k_u8
  obtain ⟨xs, rfl, hx⟩ := map_of (f := u8D) (p := fun z => 0 ≤ z ∧ z ≤ 255) (rows := rows) fun r hr => by
    obtain ⟨_, _, rfl, h1, h2⟩ := FitL.cons (hrows r hr)
    obtain ⟨z, rfl, hz⟩ := h1.int'
    cases FitL.nil h2
    exact ⟨z, rfl, u8_wf hz⟩
  exact ⟨xs, rfl, hx⟩

theorem fit_done {m : Nat} {d : Dt} (h : FitC Try.prog (m + 2) (.slice 120) d) : ∃ l : List DoneP, d = .list (l.map DoneP.toD) := by
  obtain ⟨rows, rfl, hrows⟩ := h.slice' k_done
  obtain ⟨xs, rfl, _⟩ := map_of (f := DoneP.toD) (p := fun _ => True) (rows := rows) fun r hr => by
    obtain ⟨_, _, rfl, h1, h⟩ := FitL.cons (hrows r hr)
    obtain ⟨_, _, rfl, h2, h⟩ := FitL.cons h
    obtain ⟨_, _, rfl, h3, h⟩ := FitL.cons h
    obtain ⟨_, _, rfl, h4, h⟩ := FitL.cons h
    obtain ⟨_, _, rfl, h5, h⟩ := FitL.cons h
    obtain ⟨_, _, rfl, h6, h⟩ := FitL.cons h
    cases FitL.nil h
    obtain ⟨z1, rfl, _⟩ := h1.int'
    obtain ⟨z2, rfl, _⟩ := h2.int'
    obtain ⟨z3, rfl, _⟩ := h3.int'
    obtain ⟨z4, rfl, _⟩ := h4.int'
    obtain ⟨z5, rfl, _⟩ := h5.int'
    obtain ⟨l, rfl⟩ := fit_i64 h6
    exact ⟨⟨z1, z2, ⟨z3, z4, z5, l⟩⟩, rfl, trivial⟩
  exact ⟨xs, rfl⟩

theorem fit_cell {m : Nat} {d : Dt} (h : FitC Try.prog (m + 1) (.slice 131) d) : ∃ l : List CellP, d = .list (l.map CellP.toD) := by
  obtain ⟨rows, rfl, hrows⟩ := h.slice' k_cell
  obtain ⟨xs, rfl, _⟩ := map_of (f := CellP.toD) (p := fun _ => True) (rows := rows) fun r hr => by
    obtain ⟨_, _, rfl, h1, h⟩ := FitL.cons (hrows r hr)
    obtain ⟨_, _, rfl, h2, h⟩ := FitL.cons h
    obtain ⟨_, _, rfl, h3, h⟩ := FitL.cons h
    obtain ⟨_, _, rfl, h4, h⟩ := FitL.cons h
    cases FitL.nil h
    obtain ⟨z1, rfl, _⟩ := h1.int'
    obtain ⟨z2, rfl, _⟩ := h2.int'
    obtain ⟨z3, rfl, _⟩ := h3.int'
    obtain ⟨z4, rfl, _⟩ := h4.int'
    exact ⟨⟨z1, z2, z3, z4⟩, rfl, trivial⟩
  exact ⟨xs, rfl⟩

theorem fit_mark {m : Nat} {d : Dt} (h : FitC Try.prog (m + 1) (.slice 134) d) : ∃ l : List MarkP, d = .list (l.map MarkP.toD) := by
  obtain ⟨rows, rfl, hrows⟩ := h.slice' k_mark
  obtain ⟨xs, rfl, _⟩ := map_of (f := MarkP.toD) (p := fun _ => True) (rows := rows) fun r hr => by
    obtain ⟨_, _, rfl, h1, h⟩ := FitL.cons (hrows r hr)
    obtain ⟨_, _, rfl, h2, h⟩ := FitL.cons h
    obtain ⟨_, _, rfl, h3, h⟩ := FitL.cons h
    cases FitL.nil h
    obtain ⟨z1, rfl, _⟩ := h1.int'
    obtain ⟨z2, rfl, _⟩ := h2.int'
    obtain ⟨z3, rfl, _⟩ := h3.int'
    exact ⟨⟨z1, z2, z3⟩, rfl, trivial⟩
  exact ⟨xs, rfl⟩

theorem fit_rec {m : Nat} {r : List Dt} (h : FitL Try.prog (m + 2) recK r) : ∃ x : RecP, r = x.toD ∧ U8 x.conf.old ∧ U8 x.conf.new ∧ 0 ≤ x.key := by
  unfold recK at h
  obtain ⟨_, _, rfl, h1, h⟩ := FitL.cons h
  obtain ⟨_, _, rfl, h2, h⟩ := FitL.cons h
  obtain ⟨_, _, rfl, h3, h⟩ := FitL.cons h
  obtain ⟨_, _, rfl, h4, h⟩ := FitL.cons h
  obtain ⟨_, _, rfl, h5, h⟩ := FitL.cons h
  obtain ⟨_, _, rfl, h6, h⟩ := FitL.cons h
  obtain ⟨_, _, rfl, h7, h⟩ := FitL.cons h
  obtain ⟨_, _, rfl, h8, h⟩ := FitL.cons h
  obtain ⟨_, _, rfl, h9, h⟩ := FitL.cons h
  obtain ⟨_, _, rfl, h10, h⟩ := FitL.cons h
  obtain ⟨_, _, rfl, h11, h⟩ := FitL.cons h
  obtain ⟨_, _, rfl, h12, h⟩ := FitL.cons h
  obtain ⟨_, _, rfl, h13, h⟩ := FitL.cons h
  obtain ⟨_, _, rfl, h14, h⟩ := FitL.cons h
  obtain ⟨_, _, rfl, h15, h⟩ := FitL.cons h
  obtain ⟨_, _, rfl, h16, h⟩ := FitL.cons h
  obtain ⟨_, _, rfl, h17, h⟩ := FitL.cons h
  obtain ⟨_, _, rfl, h18, h⟩ := FitL.cons h
  obtain ⟨_, _, rfl, h19, h⟩ := FitL.cons h
  obtain ⟨_, _, rfl, h20, h⟩ := FitL.cons h
  obtain ⟨_, _, rfl, h21, h⟩ := FitL.cons h
  cases FitL.nil h
  obtain ⟨z1, rfl, w1⟩ := h1.int'
  obtain ⟨z2, rfl, w2⟩ := h2.int'
  obtain ⟨z3, rfl, w3⟩ := h3.int'
  obtain ⟨z4, rfl, w4⟩ := h4.int'
  obtain ⟨z5, rfl, w5⟩ := h5.int'
  obtain ⟨z6, rfl, w6⟩ := h6.int'
  obtain ⟨z7, rfl, w7⟩ := h7.int'
  obtain ⟨z8, rfl, w8⟩ := h8.int'
  obtain ⟨z9, rfl, w9⟩ := h9.int'
  obtain ⟨z10, rfl, w10⟩ := h10.int'
  obtain ⟨z11, rfl, w11⟩ := h11.int'
  obtain ⟨z15, rfl, w15⟩ := h15.int'
  obtain ⟨z17, rfl, w17⟩ := h17.int'
  obtain ⟨z18, rfl, w18⟩ := h18.int'
  obtain ⟨z19, rfl, w19⟩ := h19.int'
  obtain ⟨l1, rfl⟩ := fit_i64 h12
  obtain ⟨l2, rfl⟩ := fit_done h13
  obtain ⟨l3, rfl⟩ := fit_cell h14
  obtain ⟨l4, rfl⟩ := fit_mark h16
  obtain ⟨l5, rfl, u5⟩ := fit_u8 h20
  obtain ⟨l6, rfl, u6⟩ := fit_u8 h21
  exact ⟨⟨z1, z2, ⟨z3, z4, z5⟩, ⟨z6, z7, z8⟩, ⟨z9, z10, z11, l1, l2, l3, z15, l4⟩, z17, z18, ⟨z19, l5, l6⟩⟩, rfl, u5, u6, (u8_wf w2).1⟩

set_option maxRecDepth 100000 in
theorem arg_recs {W : World} {v : Value} (h : ArgOk Try.prog W 53 v) : ∃ (l : List RecP) (p : Option Addr) (c : Nat), v = .slice p l.length c ∧ SlR (wm W) p c 21 (l.map RecP.toD) ∧ ∀ r ∈ l, U8 r.conf.old ∧ U8 r.conf.new ∧ 0 ≤ r.key := by
  obtain ⟨⟨r, b0, h1⟩, _⟩ := id h
  obtain ⟨po, n, cp, rfl⟩ := okWide_slice Try.underlying53 h1
  obtain ⟨ds, k1, k2⟩ := h.rep (ks := [.slice 75]) (by kernel_rfl) (m := 3) (by kernel_rfl)
  obtain ⟨d, _, rfl, k3, k4⟩ := FitL.cons k1
  cases FitL.nil k4
  obtain ⟨rows, rfl, k5⟩ := k3.slice' k_rec
  obtain ⟨l, rfl, hl⟩ := map_of (f := RecP.toD) (p := fun x => U8 x.conf.old ∧ U8 x.conf.new ∧ 0 ≤ x.key) (rows := rows) fun r hr => fit_rec (k5 r hr)
  obtain ⟨v', _, k6, k7, k8⟩ := RepL.cons k2
  obtain ⟨p, c, rfl, hs⟩ := k7.list sz_rec
  simp only [Value.cells, List.cons.injEq, Value.slice.injEq] at k6
  obtain ⟨⟨rfl, rfl, rfl⟩, _⟩ := k6
  rw [List.length_map]
  exact ⟨l, po, cp, rfl, hs, hl⟩

set_option maxRecDepth 100000 in
theorem recordSame_calls (W : World) (args : Array Value) (hn : args.size = 2) (ha : ∀ (j : Nat) t v, Try.f7.params[j]? = some t → args[j]? = some v → ArgOk Try.prog W t v) :
    Calls Try.prog 7 args W fun e w' => e = .returned (.bool true) ∧ Chg (fun _ _ => False) W w' := by
  obtain ⟨a, b, rfl⟩ : ∃ a b, args = #[a, b] := ⟨args[0], args[1], by apply Array.ext (by simp [hn]); intro i h1 h2; match i, h1 with | 0, _ | 1, _ => rfl⟩
  obtain ⟨l, p, c, rfl, hs, hu⟩ := arg_recs (ha 0 53 a rfl rfl)
  obtain ⟨m, p2, c2, rfl, hs2, hu2⟩ := arg_recs (ha 1 53 b rfl rfl)
  exact recordSame_ok l m p p2 c c2 W hs hs2 hu hu2

end Go.Proofs.Ytkjhpaeminegoaa
