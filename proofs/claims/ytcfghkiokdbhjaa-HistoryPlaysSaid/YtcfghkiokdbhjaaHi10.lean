/- The history's functions over a history in memory. -/
import Derived.Test.YtcfghkiokdbhjaaHi9
import Derived.Test.YtcfghkiokdbhjaaHiB

namespace Go.Proofs.Ytcfghkiokdbhjaa
open Go.Eng

/-- a history, behind an act -/
structure HTo (H H' : Hist) (w w' : World) : Prop where
  hb : H'.hb = H.hb
  hy : H'.hy = H.hy
  ok : H'.Ok
  pos : H'.nl = false → 0 < H'.cp
  at' : HistAt H' w'
  inD : ∀ k o, H'.D k o → H.D k o ∨ w.heap.size ≤ k
  chg : Chg H.D w w'

theorem HTo.same {H : Hist} {w w' : World} (h : HistAt H w) (ok : H.Ok) (pos : H.nl = false → 0 < H.cp) (hc : Chg (fun _ _ => False) w w') : HTo H H w w' :=
  ⟨rfl, rfl, ok, pos, h.stays ok hc, fun _ _ h => .inl h, hc.mono fun _ _ _ h => h.elim⟩

/-- an act's outcome, as entries have it -/
def SameH (H H' : Hist) : Prop := H'.n = H.n ∧ H'.f = H.f ∧ H'.q = H.q
def BegH (H H' : Hist) (nd k yy c a p r u ii l at' : Int) : Prop := ∃ cl : Nat, c = cl ∧ 1 ≤ cl ∧ cl < 9 ∧ (∀ i, i < H.n → ¬ (H.f i).is c) ∧ H'.n = H.n + 1 ∧ H'.f = updA H.f H.n (Ent.new nd k yy cl (IntKind.u64.wrap (H.q cl + 1)) a p r u ii l at') ∧ H'.q = updA H.q cl (IntKind.u64.wrap (H.q cl + 1))
def UndH (H H' : Hist) : Prop := ∃ j c : Nat, H.n = j + 1 ∧ (H.f j).st = 0 ∧ (H.f j).c = c ∧ c < 9 ∧ H'.n = j ∧ H'.f = H.f ∧ H'.q = updA H.q c (IntKind.u64.wrap (H.q c - 1))
def EndH (H H' : Hist) (re ri rs : Int) (p : Option Addr) (vn c : Nat) (at' : Int) (j : Nat) : Prop := j < H.n ∧ (H.f j).st = 0 ∧ H'.n = H.n ∧ H'.q = H.q ∧ H'.f = updA H.f j { H.f j with st := 1, re := re, ri := ri, rs := rs, vp := p, vn := vn, vc := c, en := at' }

/-- another client's number, and the header, lie elsewhere -/
theorem Hist.Ok.apart' {H : Hist} (ok : H.Ok) {o c : Nat} (ho : H.ey ≤ o ∧ o < H.ey + H.cp * 18) (hc : c < 10) : ¬ (H.eb = H.hb ∧ o = H.hy + c) := fun ⟨e1, e2⟩ =>
  ok.apart (o - H.ey) (by omega) ⟨e1, by omega, by omega⟩

theorem HistAt.still {H : Hist} {w w' : World} {cl : Nat} (h : HistAt H w) (ok : H.Ok) (hcl : cl < 9) (hc : Chg (fun k o => (k = H.hb ∧ o = H.hy) ∨ (k = H.hb ∧ o = H.hy + 1 + cl) ∨ (k = H.eb ∧ H.ey ≤ o ∧ o < H.ey + H.cp * 18)) w w') : ∀ c, c < 9 → c ≠ cl → w'.cell? ⟨H.hb, H.hy + 1 + c, none⟩ = some (.int .u64 (H.q c)) := fun c hc9 hne =>
  cell_of_chg hc (fun h => by
    rcases h with ⟨_, e⟩ | ⟨_, e⟩ | ⟨e1, e2⟩
    · omega
    · omega
    · exact ok.apart' (c := 1 + c) e2 (by omega) ⟨e1.symm, by omega⟩) (h.sq c hc9)

theorem hist_chg {H : Hist} {w w' : World} {cl : Nat} (hcl : cl < 9) (hc : Chg (fun k o => (k = H.hb ∧ o = H.hy) ∨ (k = H.hb ∧ o = H.hy + 1 + cl) ∨ (k = H.eb ∧ H.ey ≤ o ∧ o < H.ey + H.cp * 18)) w w') : Chg H.D w w' := hc.mono fun k o _ h => by
  rcases h with ⟨e1, e2⟩ | ⟨e1, e2⟩ | h
  · exact .inl ⟨e1, by omega, by omega⟩
  · exact .inl ⟨e1, by omega, by omega⟩
  · exact .inr h

/-- Begin, not done -/
theorem beg_no {H : Hist} {w w' : World} {cl : Nat} (h : HistAt H w) (ok : H.Ok) (pos : H.nl = false → 0 < H.cp) (hcl : cl < 9) (hc : Chg (fun k o => (k = H.hb ∧ o = H.hy) ∨ (k = H.hb ∧ o = H.hy + 1 + cl) ∨ (k = H.eb ∧ H.ey ≤ o ∧ o < H.ey + H.cp * 18)) w w')
    (hno : BegNo H.hb H.hy H.po H.n H.cp H.eb H.ey cl (H.q cl) H.f w') : HTo H H w w' := by
  have hall := h.chg hc
  obtain ⟨k1, k2, k3⟩ := hno
  refine ⟨rfl, rfl, ok, pos, ⟨k1, fun c hc9 => ?_, fun j hj => (hall H.hb (H.hy + j) (.inl ⟨rfl, by omega, by omega⟩)).2, fun j hj => hall _ _ (.inr ⟨rfl, by omega, by omega⟩), fun s hs => ⟨(H.f s).vlen, fun q v hq => ?_⟩⟩, fun _ _ h => .inl h, hist_chg hcl hc⟩
  · by_cases e : c = cl
    · subst e; exact k2
    · exact h.still ok hcl hc c hc9 e
  · have hq18 : q < 18 := by rw [← (H.f s).vlen]; exact (List.getElem?_eq_some_iff.1 hq).1
    exact ⟨k3 s hs q v hq, (hall H.eb (H.ey + (s * 18 + q)) (.inr ⟨rfl, by omega, ok.inD hs hq18⟩)).2⟩

/-- Begin, done -/
theorem beg_to {H : Hist} {w w' : World} {cl : Nat} {s : Int} {e : Ent} (h : HistAt H w) (ok : H.Ok) (hcl : cl < 9) (hc : Chg (fun k o => (k = H.hb ∧ o = H.hy) ∨ (k = H.hb ∧ o = H.hy + 1 + cl) ∨ (k = H.eb ∧ H.ey ≤ o ∧ o < H.ey + H.cp * 18)) w w')
    (hto : BegTo H.hb H.hy H.n cl s H.f e (fun k o => k = H.eb ∧ H.ey ≤ o ∧ o < H.ey + H.cp * 18) w w') : ∃ H' : Hist, HTo H H' w w' ∧ H'.n = H.n + 1 ∧ H'.f = updA H.f H.n e ∧ H'.q = updA H.q cl s := by
  have hall := h.chg hc
  obtain ⟨b', y', cp', k1, k2, k3, k4, k5, k6, k7, k8⟩ := hto
  have hbl : H.hb < w.heap.size := World.block_lt_of_cell? _ _ h.hd
  refine ⟨⟨H.hb, H.hy, false, b', y', H.n + 1, cp', updA H.q cl s, updA H.f H.n e⟩, ⟨rfl, rfl, ⟨(fun h => by cases h), k1, fun j hj => ?_⟩, fun _ => by show 0 < cp'; omega, ⟨k2, fun c hc9 => ?_, fun j hj => (hall H.hb (H.hy + j) (.inl ⟨rfl, by omega, by omega⟩)).2, k4, fun i hi => ⟨by simp only [Ent.vlen], fun q v hq => ?_⟩⟩, fun k o hk => ?_, hist_chg hcl hc⟩, rfl, rfl, rfl⟩
  · have hj : j < cp' * 18 := hj
    rintro ⟨e1, e2, e3⟩
    simp only at e1 e2 e3
    rcases k8 with h8 | h8
    · omega
    · obtain ⟨m1, m2⟩ := h8 j hj
      exact ok.apart' (o := y' + j) (c := y' + j - H.hy) m2 (by omega) ⟨by rw [← m1, e1], by omega⟩
  · simp only [updA]
    by_cases e : c = cl
    · subst e; rw [if_pos rfl]; exact k3
    · rw [if_neg e]; exact h.still ok hcl hc c hc9 e
  · have hi : i < H.n + 1 := hi
    have hq18 : q < 18 := by
      have := (List.getElem?_eq_some_iff.1 hq).1
      simpa [Ent.vlen] using this
    have hlt := idx_lt (sz := 18) (n := cp') (s := i) (q := q) (by omega) hq18
    refine ⟨?_, (k4 _ hlt).2⟩
    by_cases e : i = H.n
    · subst e
      simp only [updA, if_true] at hq
      exact k6 q v hq
    · simp only [updA, e, if_false] at hq
      exact k5 i (by omega) q v hq
  · rcases hk with hk | ⟨rfl, m2, m3⟩
    · exact .inl (.inl hk)
    · simp only at m2 m3
      rcases k8 with h8 | h8
      · exact .inr h8
      · have := h8 (o - y') (by omega)
        rw [show y' + (o - y') = o by omega] at this
        exact .inl (.inr this)

theorem begin_ok (H : Hist) (nd k yy c s a p r u ii l at' : Int) (w : World) (ok : H.Ok) (pos : H.nl = false → 0 < H.cp) (h : HistAt H w) (hn : H.n ≤ 900) (hc0 : 0 ≤ c) :
    Calls Try.prog 28 #[.pointer (some ⟨H.hb, H.hy, none⟩), .int .u8 nd, .agg #[.int .u8 k, .int .u8 yy, .int .u8 c, .int .u64 s, .int .i64 a, .int .i64 p, .int .i64 r, .int .u8 u, .int .u64 ii, .int .u64 l], .int .i64 at'] w
      fun e w' => BegAns e ∧ ∃ H', HTo H H' w w' ∧ (SameH H H' ∨ BegH H H' nd k yy c a p r u ii l at') := by
  by_cases hc : c = 0 ∨ 8 < c
  · exact (begin_out H.hb H.hy nd k yy c s a p r u ii l at' w hc).mono fun e w' ⟨h1, h2⟩ => ⟨h1, H, HTo.same h ok pos h2, .inl ⟨rfl, rfl, rfl⟩⟩
  obtain ⟨cl, rfl⟩ : ∃ cl : Nat, c = cl := ⟨c.toNat, by omega⟩
  have hc1 : 1 ≤ cl := by omega
  have hc9 : cl < 9 := by omega
  have hf0 : w.frozen? ⟨H.hb, H.hy, none⟩ = false := h.fz 0 (by omega)
  have hf1 : w.frozen? ⟨H.hb, H.hy + 1 + cl, none⟩ = false := by rw [Nat.add_assoc]; exact h.fz (1 + cl) (by omega)
  cases hnl : H.nl with
  | true =>
    obtain ⟨h0, h0c⟩ := ok.nil hnl
    have hpo : H.po = none := by unfold Hist.po; rw [hnl]; rfl
    refine (begin_nil H.hb H.hy H.n H.cp H.eb H.ey cl (H.q cl) H.f nd k yy s a p r u ii l at' w (by omega) h0 h0c hc1 hc9 (by rw [← hpo]; exact h.hd) (h.sq cl hc9) hf0 hf1).mono fun e w' ⟨h1, h2, h3⟩ => ⟨h1, ?_⟩
    have h3' := h3.mono (O' := fun k o => (k = H.hb ∧ o = H.hy) ∨ (k = H.hb ∧ o = H.hy + 1 + cl) ∨ (k = H.eb ∧ H.ey ≤ o ∧ o < H.ey + H.cp * 18)) (fun k o _ h => by
      rcases h with h | h | h
      · exact .inl h
      · exact .inr (.inl h)
      · exact h.elim)
    rcases h2 with h2 | ⟨h2, h4⟩
    · exact ⟨H, beg_no h ok pos hc9 h3' (by rw [hpo]; exact h2), .inl ⟨rfl, rfl, rfl⟩⟩
    · obtain ⟨b', y', cp', k1, k2, k3, k4, k5, k6, k7, k8⟩ := h4
      obtain ⟨H', g1, g2, g3, g4⟩ := beg_to h ok hc9 h3' ⟨b', y', cp', k1, k2, k3, k4, k5, k6, k7, k8.imp id fun h j hj => (h j hj).elim⟩
      exact ⟨H', g1, .inr ⟨cl, rfl, hc1, hc9, h2, g2, g3, g4⟩⟩
  | false =>
    have hpo : H.po = some ⟨H.eb, H.ey, none⟩ := by unfold Hist.po; rw [hnl]; rfl
    have hp := pos hnl
    have hbl : H.eb < w.heap.size := by
      obtain ⟨v, hv⟩ := Option.isSome_iff_exists.1 (h.room 0 (by omega)).1
      exact World.block_lt_of_cell? _ _ hv
    refine (begin_row H.hb H.hy H.n H.cp H.eb H.ey cl (H.q cl) H.f nd k yy s a p r u ii l at' w (by omega) ok.le hc1 hc9 (by rw [← hpo]; exact h.hd) (h.sq cl hc9) hf0 hf1 h.room hbl (fun i hi q v hq => ((h.ents i hi).2 q v hq).1) ok.apart).mono fun e w' ⟨h1, h2, h3⟩ => ⟨h1, ?_⟩
    rcases h2 with h2 | ⟨h2, h4⟩
    · exact ⟨H, beg_no h ok pos hc9 h3 (by rw [hpo]; exact h2), .inl ⟨rfl, rfl, rfl⟩⟩
    · obtain ⟨H', g1, g2, g3, g4⟩ := beg_to h ok hc9 h3 h4
      exact ⟨H', g1, .inr ⟨cl, rfl, hc1, hc9, h2, g2, g3, g4⟩⟩

theorem undo_eq (H : Hist) (i : Int) (w : World) (ok : H.Ok) (pos : H.nl = false → 0 < H.cp) (h : HistAt H w) (hn : H.n ≤ 900) (hcl : ∀ j, j < H.n → ∃ c : Nat, (H.f j).c = c ∧ c < 9) :
    Calls Try.prog 30 #[.pointer (some ⟨H.hb, H.hy, none⟩), .int .i64 i] w fun e w' => e = .returned (.tuple #[]) ∧ ∃ H', HTo H H' w w' ∧ ((SameH H H' ∧ (H.n = 0 ∨ i ≠ (H.n : Int) - 1 ∨ ∃ j, j + 1 = H.n ∧ (H.f j).st ≠ 0)) ∨ (UndH H H' ∧ i = (H.n : Int) - 1)) := by
  by_cases hi : H.n = 0 ∨ i ≠ (H.n : Int) - 1
  · exact (undo_out H.hb H.hy H.po H.n H.cp i w (by omega) h.hd hi).mono fun e w' ⟨h1, h2⟩ => ⟨h1, H, HTo.same h ok pos h2, .inl ⟨⟨rfl, rfl, rfl⟩, hi.imp id .inl⟩⟩
  obtain ⟨j, hj⟩ : ∃ j, j + 1 = H.n := ⟨H.n - 1, by omega⟩
  have hij : i = (j : Nat) := by omega
  have hjn : j < H.n := by omega
  subst hij
  have hpo := ok.po_some hjn
  have he : ∀ (q : Nat) (v : Value), (H.f j).vals[q]? = some v → w.cell? ⟨H.eb, H.ey + j * 18 + q, none⟩ = some v := fun q v hq => by rw [Nat.add_assoc]; exact ((h.ents j hjn).2 q v hq).1
  by_cases hst : (H.f j).st = 0
  · obtain ⟨c, hc, hc9⟩ := hcl j hjn
    have hf1 : w.frozen? ⟨H.hb, H.hy + 1 + c, none⟩ = false := by rw [Nat.add_assoc]; exact h.fz (1 + c) (by omega)
    refine (undo_open H.hb H.hy H.po H.n H.cp H.eb H.ey j c (H.q c) (H.f j) w (by omega) h.hd hj ok.le hpo he hst hc hc9 (h.sq c hc9) (h.fz 0 (by omega)) hf1 (fun q hq ⟨e1, e2⟩ => ok.far (c := 0) hjn hq (by omega) ⟨e1.symm, by omega⟩) (fun q hq ⟨e1, e2⟩ => ok.far (c := 1 + c) hjn hq (by omega) ⟨e1.symm, by omega⟩)).mono fun e w' ⟨⟨h1, h2, h3⟩, h4⟩ => ⟨h1, ⟨H.hb, H.hy, H.nl, H.eb, H.ey, j, H.cp, updA H.q c (IntKind.u64.wrap (H.q c - 1)), H.f⟩, ?_, .inr ⟨⟨j, c, hj.symm, hst, hc, hc9, rfl, rfl, rfl⟩, by omega⟩⟩
    have h5 := h4.mono (O' := fun k o => (k = H.hb ∧ o = H.hy) ∨ (k = H.hb ∧ o = H.hy + 1 + c) ∨ (k = H.eb ∧ H.ey ≤ o ∧ o < H.ey + H.cp * 18)) (fun k o _ h => by
      rcases h with h | h
      · exact .inl h
      · exact .inr (.inl h))
    have hall := h.chg h4
    have hle := ok.le
    refine ⟨rfl, rfl, ⟨fun hn => ?_, by show j ≤ H.cp; omega, ok.apart⟩, pos, ⟨?_, fun c' hc9' => ?_, fun j hj => (hall H.hb (H.hy + j) (.inl ⟨rfl, by omega, by omega⟩)).2, fun q hq => hall H.eb (H.ey + q) (.inr ⟨rfl, by omega, ?_⟩), fun s hs => ⟨(H.f s).vlen, fun q v hq => ?_⟩⟩, fun _ _ h => .inl h, hist_chg hc9 h5⟩
    · have := (ok.nil hn).1; omega
    · show w'.cell? ⟨H.hb, H.hy, none⟩ = some (.slice H.po j H.cp)
      exact h2
    · simp only [updA]
      by_cases e : c' = c
      · subst e; rw [if_pos rfl]; exact h3
      · rw [if_neg e]; exact h.still ok hc9 h5 c' hc9' e
    · have : q < H.cp * 18 := hq
      show H.ey + q < H.ey + H.cp * 18
      omega
    · have hs : s < j := hs
      have hq18 : q < 18 := by rw [← (H.f s).vlen]; exact (List.getElem?_eq_some_iff.1 hq).1
      have hin := ok.inD (i := s) (by omega) hq18
      refine ⟨cell_of_chg h4 (fun ho => ?_) ((h.ents s (by omega)).2 q v hq).1, (hall H.eb (H.ey + (s * 18 + q)) (.inr ⟨rfl, by omega, hin⟩)).2⟩
      rcases ho with ⟨e1, e2⟩ | ⟨e1, e2⟩
      · exact ok.far (c := 0) (i := s) (by omega) hq18 (by omega) ⟨e1, by simpa using e2⟩
      · exact ok.far (c := 1 + c) (i := s) (by omega) hq18 (by omega) ⟨e1, e2.trans (Nat.add_assoc _ _ _)⟩
  · exact (undo_shut H.hb H.hy H.po H.n H.cp H.eb H.ey j (H.f j) w (by omega) h.hd hj hpo he hst).mono fun e w' ⟨h1, h2⟩ => ⟨h1, H, HTo.same h ok pos h2, .inl ⟨⟨rfl, rfl, rfl⟩, .inr (.inr ⟨j, hj, hst⟩)⟩⟩

theorem undo_ok (H : Hist) (i : Int) (w : World) (ok : H.Ok) (pos : H.nl = false → 0 < H.cp) (h : HistAt H w) (hn : H.n ≤ 900) (hcl : ∀ j, j < H.n → ∃ c : Nat, (H.f j).c = c ∧ c < 9) :
    Calls Try.prog 30 #[.pointer (some ⟨H.hb, H.hy, none⟩), .int .i64 i] w fun e w' => e = .returned (.tuple #[]) ∧ ∃ H', HTo H H' w w' ∧ (SameH H H' ∨ UndH H H') :=
  (undo_eq H i w ok pos h hn hcl).mono fun e w' ⟨h1, H', h2, h3⟩ => ⟨h1, H', h2, h3.imp And.left And.left⟩

theorem end_eq (H : Hist) (i re ri rs at' : Int) (vp : Option Addr) (vn vc : Nat) (g : Nat → Int) (w : World) (ok : H.Ok) (pos : H.nl = false → 0 < H.cp) (h : HistAt H w) (hn : H.n ≤ 900) (hvn : vn ≤ 1000) (hI : IntsIn vp vn g w) (hfar : ∀ a, vp = some a → 0 < vn → a.block ≠ H.hb ∧ (0 < H.n → a.block ≠ H.eb)) :
    Calls Try.prog 32 #[.pointer (some ⟨H.hb, H.hy, none⟩), .int .i64 i, .agg #[.int .i64 re, .int .u64 ri, .int .i64 rs, .slice vp vn vc], .int .i64 at'] w
      fun e w' => ∃ H', HTo H H' w w' ∧ ((e = .returned (.int .i64 6) ∧ SameH H H' ∧ (i < 0 ∨ (H.n : Int) ≤ i)) ∨ (e = .returned (.int .i64 16) ∧ SameH H H' ∧ ∃ j : Nat, i = j ∧ j < H.n ∧ (H.f j).st ≠ 0) ∨
        (e = .returned (.int .i64 0) ∧ ∃ p c j, i = (j : Nat) ∧ EndH H H' re ri rs p vn c at' j ∧ IntsIn p vn g w' ∧ (∀ a, p = some a → 0 < vn → w.heap.size ≤ a.block) ∧ ∀ k o, H'.D k o → H.D k o)) := by
  by_cases hi : i < 0 ∨ (H.n : Int) ≤ i
  · exact (end_out H.hb H.hy H.po H.n H.cp i re ri rs at' vp vn vc w h.hd hi).mono fun e w' ⟨h1, h2⟩ => ⟨H, HTo.same h ok pos h2, .inl ⟨h1, ⟨rfl, rfl, rfl⟩, hi⟩⟩
  obtain ⟨j, rfl⟩ : ∃ j : Nat, i = j := ⟨i.toNat, by omega⟩
  have hjn : j < H.n := by omega
  have hpo := ok.po_some hjn
  have he : ∀ (q : Nat) (v : Value), (H.f j).vals[q]? = some v → w.cell? ⟨H.eb, H.ey + j * 18 + q, none⟩ = some v := fun q v hq => by rw [Nat.add_assoc]; exact ((h.ents j hjn).2 q v hq).1
  by_cases hst : (H.f j).st = 0
  · refine (end_open H.hb H.hy H.po H.n H.cp H.eb H.ey j (H.f j) re ri rs at' vp vn vc g w (by omega) h.hd hjn hpo he hst (h.fz 0 (by omega)) (fun q hq => ?_) (fun q hq ⟨e1, e2⟩ => ok.far (c := 0) hjn hq (by omega) ⟨e1.symm, by omega⟩) hvn hI (fun a h1 h2 => ⟨(hfar a h1 h2).1, (hfar a h1 h2).2 (by omega)⟩)).mono fun e w' ⟨⟨h1, p, c, h2, h3, h4, h5⟩, h6⟩ => ⟨{ H with f := updA H.f j { H.f j with st := 1, re := re, ri := ri, rs := rs, vp := p, vn := vn, vc := c, en := at' } }, ?_, .inr (.inr ⟨h1, p, c, j, rfl, ⟨hjn, hst, rfl, rfl, rfl⟩, h2, h3, fun _ _ h => h⟩)⟩
    · have := ok.inD hjn hq
      rw [Nat.add_assoc]
      exact (h.room (j * 18 + q) (by omega)).2
    · refine ⟨rfl, rfl, ⟨ok.nil, ok.le, ok.apart⟩, pos, h.again ok h6 (fun k o ho => ho) hjn h4 h5, fun _ _ h => .inl h, h6.mono fun k o _ ho => ?_⟩
      rcases ho with ⟨e1, e2⟩ | ⟨e1, e2, e3⟩
      · exact .inl ⟨e1, by omega, by omega⟩
      · have := ok.inD (j := 17) hjn (by omega)
        exact .inr ⟨e1, by omega, by omega⟩
  · exact (end_shut H.hb H.hy H.po H.n H.cp H.eb H.ey j (H.f j) re ri rs at' vp vn vc w (by omega) h.hd hjn hpo he hst).mono fun e w' ⟨h1, h2⟩ => ⟨H, HTo.same h ok pos h2, .inr (.inl ⟨h1, ⟨rfl, rfl, rfl⟩, j, rfl, hjn, hst⟩)⟩

theorem end_ok (H : Hist) (i re ri rs at' : Int) (vp : Option Addr) (vn vc : Nat) (g : Nat → Int) (w : World) (ok : H.Ok) (pos : H.nl = false → 0 < H.cp) (h : HistAt H w) (hn : H.n ≤ 900) (hvn : vn ≤ 1000) (hI : IntsIn vp vn g w) (hfar : ∀ a, vp = some a → 0 < vn → a.block ≠ H.hb ∧ (0 < H.n → a.block ≠ H.eb)) :
    Calls Try.prog 32 #[.pointer (some ⟨H.hb, H.hy, none⟩), .int .i64 i, .agg #[.int .i64 re, .int .u64 ri, .int .i64 rs, .slice vp vn vc], .int .i64 at'] w
      fun e w' => (∃ r : Int, e = .returned (.int .i64 r)) ∧ ∃ H', HTo H H' w w' ∧ (SameH H H' ∨ ∃ p c j, EndH H H' re ri rs p vn c at' j ∧ IntsIn p vn g w' ∧ (∀ a, p = some a → 0 < vn → w.heap.size ≤ a.block) ∧ ∀ k o, H'.D k o → H.D k o) :=
  (end_eq H i re ri rs at' vp vn vc g w ok pos h hn hvn hI hfar).mono fun e w' ⟨H', h1, h2⟩ => by
    rcases h2 with ⟨e1, e2, _⟩ | ⟨e1, e2, _⟩ | ⟨e1, p, c, j, _, e2⟩
    · exact ⟨⟨_, e1⟩, H', h1, .inl e2⟩
    · exact ⟨⟨_, e1⟩, H', h1, .inl e2⟩
    · exact ⟨⟨_, e1⟩, H', h1, .inr ⟨p, c, j, e2⟩⟩

theorem lost_to (H : Hist) (nd : Int) (w : World) (ok : H.Ok) (pos : H.nl = false → 0 < H.cp) (h : HistAt H w) (hn : H.n ≤ 900) :
    Calls Try.prog 34 #[.pointer (some ⟨H.hb, H.hy, none⟩), .int .u8 nd] w fun e w' => (∃ r : Int, e = .returned (.int .i64 r) ∧ r = (lostN nd H.f H.n : Nat)) ∧ ∃ H', HTo H H' w w' ∧ H'.n = H.n ∧ H'.q = H.q ∧ H'.f = lostF nd H.f H.n :=
  (lost_ok H nd w ok h (by omega)).mono fun e w' ⟨⟨h1, h2⟩, h3⟩ => ⟨⟨_, h1, rfl⟩, { H with f := lostF nd H.f H.n }, ⟨rfl, rfl, ⟨ok.nil, ok.le, ok.apart⟩, pos, h2, fun _ _ h => .inl h, h3⟩, rfl, rfl, rfl⟩

end Go.Proofs.Ytcfghkiokdbhjaa
