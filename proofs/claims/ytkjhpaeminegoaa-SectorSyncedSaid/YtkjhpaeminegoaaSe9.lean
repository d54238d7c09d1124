/- The sector's functions: Read. -/
import Derived.Test.YtkjhpaeminegoaaSe8

namespace Go.Proofs.Ytkjhpaeminegoaa
open Go.RowKit Go.Shelf
attribute [local go_sem] Oper.semAt_some

theorem chg_of_below {w w' : World} (h : Below w.heap.size w w') : Eng.Chg (fun _ _ => False) w w' :=
  ⟨h.os, h.tape, h.output, h.size, fun k hk _ => h.block k hk, fun k c e f hc => ⟨c, by rw [h.block k (Array.getElem?_eq_some_iff.1 hc).1]; exact hc, rfl, fun _ _ => rfl⟩⟩

theorem below_of_chg {w w' : World} (h : Eng.Chg (fun _ _ => False) w w') : Below w.heap.size w w' :=
  ⟨h.os, h.tape, h.output, h.size, fun k hk => h.same k hk (fun _ h => h)⟩

theorem four_heap (w : World) (a b c e : Obj) : ((((w.alloc a).alloc b).alloc c).alloc e).heap[w.heap.size]? = some a ∧ ((((w.alloc a).alloc b).alloc c).alloc e).heap[w.heap.size + 1]? = some b ∧
    ((((w.alloc a).alloc b).alloc c).alloc e).heap[w.heap.size + 1 + 1]? = some c ∧ ((((w.alloc a).alloc b).alloc c).alloc e).heap[w.heap.size + 1 + 1 + 1]? = some e := by
  simp only [Eng.alloc_heap, Array.getElem?_push, Array.size_push]
  refine ⟨?_, ?_, ?_, ?_⟩ <;> (repeat (first | rfl | rw [if_pos (by omega)] | rw [if_neg (by omega)]))

/-- what is read of a sector -/
def rdF (st : Nat → Int) (ws : Nat → Int × By) (i : Int) : Nat → Nat → Int
  | 0 => st
  | n + 1 => if (ws n).1 = i then (ws n).2.f else rdF st ws i n

theorem rdF_hit {st : Nat → Int} {ws : Nat → Int × By} {i : Int} {q : Nat} (hq : (ws q).1 = i) : ∀ {n : Nat}, q < n → (∀ q', q < q' → q' < n → (ws q').1 ≠ i) → rdF st ws i n = (ws q).2.f
  | 0, h, _ => by omega
  | n + 1, h, hno => by
    by_cases e : q = n
    · subst e; simp [rdF, hq]
    · have := hno n (by omega) (by omega)
      simp only [rdF, if_neg this]
      exact rdF_hit hq (by omega) fun q' h1 h2 => hno q' h1 (by omega)

theorem rdF_miss {st : Nat → Int} {ws : Nat → Int × By} {i : Int} : ∀ {n : Nat}, (∀ q, q < n → (ws q).1 ≠ i) → rdF st ws i n = st
  | 0, _ => rfl
  | n + 1, h => by
    simp only [rdF, if_neg (h n (by omega))]
    exact rdF_miss fun q hq => h q (by omega)

def Dk.rd (d : Dk) (i : Int) : Nat → Int := rdF (d.st i) d.ws i d.h.n

/-- a sector's bytes, in a new row -/
def ReadRet (g : Nat → Int) (n : Nat) (w : World) (e : Ending) (w' : World) : Prop :=
  ∃ k y x : Nat, e = .returned (.tuple #[.slice (some ⟨k, y, none⟩) n x, .int .i64 0]) ∧ w.heap.size ≤ k ∧ n ≤ x ∧ BytesAt k y n g w' ∧ (∀ j, j < x → (w'.cell? ⟨k, y + j, none⟩).isSome = true ∧ w'.frozen? ⟨k, y + j, none⟩ = false) ∧ Eng.Chg (fun _ _ => False) w w'

theorem box_kept {W0 W w2 : World} {k : Nat} {v : Value} {t : TypeId} (hk : W0.heap[k]? = some (.cells #[v] t (0, 0))) (h : Below W0.heap.size W0 W) (hc : Eng.Chg (fun _ _ => False) W w2) : w2.cell? ⟨k, 0, none⟩ = some v ∧ w2.frozen? ⟨k, 0, none⟩ = false ∧ W.heap[k]? = some (.cells #[v] t (0, 0)) := by
  have hlt := (Array.getElem?_eq_some_iff.1 hk).1
  have h1 : W.heap[k]? = some (.cells #[v] t (0, 0)) := (h.block k hlt).trans hk
  have h2 : w2.heap[k]? = some (.cells #[v] t (0, 0)) := ((below_of_chg hc).block k (Array.getElem?_eq_some_iff.1 h1).1).trans h1
  exact ⟨by simp [World.cell?, h2], by simp [World.frozen?, h2], h1⟩

/-- the two results, where they lie -/
structure ResAt (w : World) (g : Nat → Int) (n k y x : Nat) (W : World) : Prop where
  c4 : W.cell? ⟨w.heap.size + 1, 0, none⟩ = some (.slice (some ⟨k, y, none⟩) n x)
  c5 : W.cell? ⟨w.heap.size + 1 + 1, 0, none⟩ = some (.int .i64 0)
  fr : w.heap.size ≤ k
  nx : n ≤ x
  by' : BytesAt k y n g W
  room : ∀ j, j < x → (W.cell? ⟨k, y + j, none⟩).isSome = true ∧ W.frozen? ⟨k, y + j, none⟩ = false
  bl : Below w.heap.size w W

theorem ResAt.own {w : World} {g : Nat → Int} {n k y x : Nat} {W W' : World} {row : Option Nat} {B : Nat} (h : ResAt w g n k y x W) (hg : W.grownBy W' row) (hr : ∀ r, row = some r → B ≤ r ∧ ∃ o : Obj, W.heap[r]? = some o ∧ o.isCells = false) (hB : w.heap.size ≤ B) : ResAt w g n k y x W' := by
  have hr2 := fun r e => (hr r e).2
  refine ⟨cell_kept h.c4 hg hr2, cell_kept h.c5 hg hr2, h.fr, h.nx, fun j hj => cell_kept (h.by' j hj) hg hr2, fun j hj => ?_, h.bl.grown hg h.bl.size (fun r e => Nat.le_trans hB (hr r e).1)⟩
  obtain ⟨h1, h2⟩ := h.room j hj
  obtain ⟨v, hv⟩ := Option.isSome_iff_exists.1 h1
  exact ⟨by rw [cell_kept hv hg hr2]; rfl, (frozen_kept hv hg hr2).trans h2⟩

theorem ResAt.of {w W w2 : World} {g : Nat → Int} {n b o x : Nat} {v4 v5 : Value} (hl : w.heap.size + 1 + 1 < W.heap.size) (h4 : W.heap[w.heap.size + 1]? = some (.cells #[v4] 30 (0, 0))) (h5 : W.heap[w.heap.size + 1 + 1]? = some (.cells #[v5] 26 (0, 0))) (hB : Below w.heap.size w W) (hfr : W.heap.size ≤ b) (hx : n ≤ x)
    (hc : ∀ j, j < n → w2.cell? ⟨b, o + j, none⟩ = some (.int .u8 (g j))) (hro : ∀ j, j < x → (w2.cell? ⟨b, o + j, none⟩).isSome = true ∧ w2.frozen? ⟨b, o + j, none⟩ = false) (hch : Eng.Chg (fun _ _ => False) W w2) :
    ResAt w g n b o x ((w2.setCell ⟨w.heap.size + 1, 0, none⟩ (.slice (some ⟨b, o, none⟩) n x)).setCell ⟨w.heap.size + 1 + 1, 0, none⟩ (.int .i64 0)) := by
  have hs := below_of_chg hch
  have k4 : w2.cell? ⟨w.heap.size + 1, 0, none⟩ = some v4 := by simp [World.cell?, hs.block (w.heap.size + 1) (by omega), h4]
  have k5 : w2.cell? ⟨w.heap.size + 1 + 1, 0, none⟩ = some v5 := by simp [World.cell?, hs.block (w.heap.size + 1 + 1) hl, h5]
  have ne : ∀ j (k : Nat), k < W.heap.size → (⟨k, 0, none⟩ : Addr) ≠ ⟨b, o + j, none⟩ := fun j k hk e => by have := congrArg Addr.block e; simp at this; omega
  have far : ∀ j, ((w2.setCell ⟨w.heap.size + 1, 0, none⟩ (.slice (some ⟨b, o, none⟩) n x)).setCell ⟨w.heap.size + 1 + 1, 0, none⟩ (.int .i64 0)).cell? ⟨b, o + j, none⟩ = w2.cell? ⟨b, o + j, none⟩ := fun j => by
    rw [World.cell?_setCell_other _ _ _ _ (ne j _ hl), World.cell?_setCell_other _ _ _ _ (ne j _ (by omega))]
  refine ⟨?_, ?_, by have := hB.size; omega, hx, fun j hj => by rw [far]; exact hc j hj, fun j hj => ?_, (((hB.trans (hs.mono hB.size)).setCell (p := ⟨w.heap.size + 1, 0, none⟩) (by simp) _).setCell (p := ⟨w.heap.size + 1 + 1, 0, none⟩) (by simp; omega) _)⟩
  · rw [World.cell?_setCell_other _ _ _ _ (fun e => by have := congrArg Addr.block e; simp at this)]
    exact World.cell?_setCell_same _ _ _ k4
  · refine World.cell?_setCell_same _ _ _ (u := v5) ?_
    rw [World.cell?_setCell_other _ _ _ _ (fun e => by have := congrArg Addr.block e; simp at this)]; exact k5
  · rw [far, World.frozen?_setCell, World.frozen?_setCell]; exact hro j hj

set_option maxRecDepth 100000 in
set_option maxHeartbeats 2000000 in
theorem read_in (d : Dk) (i : Int) (w : World) (hD : DiskAt d w) (ok : d.Ok0) (hoff : d.h.off = false) (hi : d.h.has i) :
    CallsIn Fence.wide 5 Try.prog 15 #[.pointer (some ⟨d.b, d.y, none⟩), .int .i64 i] w (ReadRet (d.rd i) d.h.size w) := by
  have h0 := hD.hd 4 (.bool false) (by rw [← hoff]; rfl)
  have h1 := hD.hd 1 _ rfl
  have h3 := hD.hd 3 _ rfl
  have hbl := hD.hlt
  refine callsIn_of_wp_marks Try.func15 rfl trivial ?_ rfl
  simp only [Try.ntmps15, List.size_toArray, List.length_cons, List.length_nil, Nat.reduceAdd, Nat.reduceSub, Array.replicate_succ, Array.replicate_zero, List.push_toArray, List.append_toArray, List.nil_append, List.cons_append]
  have up : ∀ (a b c : Obj) (o : Nat) (v : Value), w.cell? ⟨d.b, o, none⟩ = some v → (((w.alloc a).alloc b).alloc c).cell? ⟨d.b, o, none⟩ = some v := fun a b c o v h => by
    rw [World.cell?_alloc_lt _ _ _ (by simp; omega), World.cell?_alloc_lt _ _ _ (by simp; omega), World.cell?_alloc_lt _ _ _ hbl]; exact h
  have h3' := up (.cells #[.int .i64 i] 3) (.cells #[.slice none 0 0] 30) (.cells #[.int .i64 0] 26) _ _ h3
  gi_wp2_with (first
    | (refine ⟨trivial, ?_⟩; gi_at_call 37; refine (may_in Fence.wide _ trivial rfl d.b d.y _ (up _ _ _ _ _ h0)).mono ?_; rintro e w' ⟨rfl, rfl⟩)
    | (refine ⟨trivial, ?_⟩; gi_at_call 38; refine (has_in Fence.wide _ trivial rfl d.b d.y i d.h.count _ (up _ _ _ _ _ h1) hi.1 hi.2).mono ?_; rintro e w' ⟨rfl, rfl⟩)
    | (refine ⟨trivial, ?_⟩; gi_at_call 42; refine (back_in Fence.wide _ trivial rfl _ _ _ _).mono ?_; rintro e w' ⟨rfl, rfl⟩))
  obtain ⟨W0, hW0⟩ : ∃ W0, (((w.alloc (.cells #[.int .i64 i] 3)).alloc (.cells #[.slice none 0 0] 30)).alloc (.cells #[.int .i64 0] 26)).alloc (.cells #[.slice d.h.po d.h.n d.h.cp] 81) = W0 := ⟨_, rfl⟩
  have hs0 : W0.heap.size = w.heap.size + 4 := by rw [← hW0]; simp
  have hB0 : Below w.heap.size w W0 := by
    rw [← hW0]; exact ((((Below.refl _ w).alloc (Nat.le_refl _) _).alloc (by simp) _).alloc (by simp; omega) _).alloc (by simp; omega) _
  obtain ⟨g3, g4, g5, g6⟩ := four_heap w (.cells #[.int .i64 i] 3) (.cells #[.slice none 0 0] 30) (.cells #[.int .i64 0] 26) (.cells #[.slice d.h.po d.h.n d.h.cp] 81)
  rw [hW0] at g3 g4 g5 g6
  have c6 : W0.cell? ⟨w.heap.size + 1 + 1 + 1, 0, none⟩ = some (.slice d.h.po d.h.n d.h.cp) := by simp [World.cell?, g6]
  rw [hW0]
  have cel : ∀ {k o : Nat} {v : Value} {W : World}, Below w.heap.size w W → w.cell? ⟨k, o, none⟩ = some v → W.cell? ⟨k, o, none⟩ = some v := fun {k o v W} hB h => (hB.cell (p := ⟨k, o, none⟩) (World.block_lt_of_cell? _ _ h)).trans h
  refine wpIn_rangeFunc_ownH (w0 := W0) (α := {q : Nat // q < d.h.n}) rfl (by omega) (gf := 65) (lb := #[.pointer (some ⟨w.heap.size + 1 + 1 + 1, 0, none⟩)]) rfl trivial (enters_of Try.func65 (by kernel_rfl) rfl)
    (back_stops Fence.wide (5 - 1) trivial rfl (by omega) (w.heap.size + 1 + 1 + 1) W0.heap.size d.h.po d.wb d.wy d.h.n d.h.cp d.h.size d.ws ok.nn W0 (by omega) (Nat.le_refl _) (ok.po.imp id fun h => ⟨h.1, ?wbl⟩) c6 (fun j hj => ⟨cel hB0 (hD.rw j hj).1, cel hB0 (hD.rw j hj).2⟩)) belowK_t (belowK_b (Nat.le_refl _)) (Below.refl _ _) (fun _ => rfl)
    (fun pre W => (∀ q ∈ pre, (d.ws q.1).1 ≠ i) ∧ Below W0.heap.size W0 W)
    (fun c pre W => (c = .ret ∧ ∃ (pre' : List {q : Nat // q < d.h.n}) (q : {q : Nat // q < d.h.n}), pre = pre' ++ [q] ∧ (∀ q' ∈ pre', (d.ws q'.1).1 ≠ i) ∧ (d.ws q.1).1 = i ∧ ∃ k y x : Nat, ResAt w (d.ws q.1).2.f d.h.size k y x W))
    (OwnFrom.and (ownFrom_pure _ _) (ownFrom_below (Nat.le_refl _) (Nat.le_refl _))) (fun c s A B row hs hg hr => ?hIx) ⟨fun q h => (by cases h), Below.refl _ _⟩
    (fun q a' W => ∃ Bx : Nat, W0.heap.size ≤ Bx ∧ W.heap[Bx]? = some (.cells #[.int .i64 (d.ws q.1).1, .slice (some ⟨(d.ws q.1).2.k, (d.ws q.1).2.y, none⟩) d.h.size (d.ws q.1).2.cp] 87 (0, 0)) ∧ a' = (⟨#[.pointer (some ⟨d.b, d.y, none⟩), .int .i64 i, undef, .pointer (some ⟨w.heap.size, 0, none⟩), .pointer (some ⟨w.heap.size + 1, 0, none⟩), .pointer (some ⟨w.heap.size + 1 + 1, 0, none⟩), .int .i64 0, undef, .pointer (some ⟨Bx, 0, none⟩), .pointer (some ⟨d.b, d.y, none⟩), .int .i64 0, .bool false, .int .i64 0, .bool false, undef, .bool false,
      .pointer (some ⟨d.b, d.y, none⟩), .int .i64 i, .bool true, .bool false, .pointer (some ⟨d.b, d.y, none⟩), .pointer (some ⟨d.b, d.y, none⟩), .pointer (some ⟨d.b, d.y + 3, none⟩), .slice d.h.po d.h.n d.h.cp, .func (.func 65) #[] #[.pointer (some ⟨w.heap.size + 1 + 1 + 1, 0, none⟩)], .int .i64 (q.1 : Int),
      .agg #[.int .i64 (d.ws q.1).1, .slice (some ⟨(d.ws q.1).2.k, (d.ws q.1).2.y, none⟩) d.h.size (d.ws q.1).2.cp], undef, undef, undef, undef, undef, undef, undef, undef, undef, undef], []⟩ : Act)) (fun x a' _ A B row hs hg hr => ?hAx) ?assign ?body ?done ?stop
  case wbl =>
    have := (hD.rm 0 (by have := h.2; omega)).1
    obtain ⟨v, hv⟩ := Option.isSome_iff_exists.1 this
    have := World.block_lt_of_cell? _ _ hv
    simp only at this
    omega
  case hIx =>
    obtain ⟨e, pre', q, h1, h2, h3, k, y, x, h4⟩ := hs
    exact ⟨e, pre', q, h1, h2, h3, k, y, x, h4.own hg hr (by omega)⟩
  case hAx =>
    obtain ⟨Bx, h1, h2, h3⟩ := hs
    refine ⟨Bx, h1, (hg.block Bx (Array.getElem?_eq_some_iff.1 h2).1 (fun e => ?_)).trans h2, h3⟩
    obtain ⟨_, o, ho, hc⟩ := hr Bx e.symm
    rw [h2] at ho; cases ho; cases hc
  case assign =>
    intro l pre x W K ⟨hi1, hi2⟩ hK
    simp only [wv, By.val]
    gi_wp2
    exact hK _ _ ((KeepsOthers.alloc _ _).from _) ((Below.refl _ W).alloc hi2.size _) ⟨hi1, hi2.alloc hi2.size _⟩ ⟨W.heap.size, hi2.size, by simp [Eng.alloc_heap], rfl⟩
  case body =>
    rintro l pre x a' W hl hrec ⟨hi1, hi2⟩ ⟨Bx, hBx, hbx, rfl⟩ hlen
    have hBw : Below w.heap.size w W := hB0.trans (hi2.mono (by omega))
    have x0 : W.cell? ⟨Bx, 0, none⟩ = some (.int .i64 (d.ws x.1).1) := by simp [World.cell?, hbx]
    have x1 : W.cell? ⟨Bx, 1, none⟩ = some (.slice (some ⟨(d.ws x.1).2.k, (d.ws x.1).2.y, none⟩) d.h.size (d.ws x.1).2.cp) := by simp [World.cell?, hbx]
    have y3 : W.cell? ⟨w.heap.size, 0, none⟩ = some (.int .i64 i) := by simp [World.cell?, hi2.block w.heap.size (by omega), g3]
    have hsz : 0 < d.h.size ∧ d.h.size ≤ 1000 := by have := ok.sz; omega
    gi_wp2_with (refine ⟨trivial, ?_⟩; gi_at_call 39; refine (CallsIn.inRound l (callsIn_wide.2 (cloneB_ok (d.ws x.1).2.k (d.ws x.1).2.y d.h.size (d.ws x.1).2.cp (d.ws x.1).2.f W (by omega) hsz.2 (fun j hj => cel hBw ((hD.wa x.1 x.2).bytes j hj))))).mono ?_; rintro e w2 ⟨b, o, z, rfl, hfr, hzl, hz0, hcs, hro, hch⟩; obtain ⟨e4, f4, k4⟩ := box_kept g4 hi2 hch; obtain ⟨e5, f5, k5⟩ := box_kept g5 hi2 hch)
    · rename_i hx
      have hx' : (d.ws x.1).1 = i := eq_of_beq hx
      have hres : ResAt w (d.ws x.1).2.f d.h.size b o z ((w2.setCell ⟨w.heap.size + 1, 0, none⟩ (.slice (some ⟨b, o, none⟩) d.h.size z)).setCell ⟨w.heap.size + 1 + 1, 0, none⟩ (.int .i64 0)) := by
        refine .of (by have := (Array.getElem?_eq_some_iff.1 k5).1; omega) k4 k5 hBw hfr (by rw [bytesL_len] at hzl; exact hzl) (fun j hj => ?_) hro hch
        obtain ⟨v, q1, q2⟩ := hcs j _ (bytesL_at hj)
        rw [q2, ← q1]; rfl
      refine ⟨((KeepsFrom.trans ⟨hch.size, fun k ob _ hk _ => ?_⟩ ((KeepsOthers.setCell _ _ _).from _)).trans ((KeepsOthers.setCell _ _ _).from _)), rfl, pre, x, rfl, hi1, hx', b, o, z, hres⟩
      exact (hch.same k (Array.getElem?_eq_some_iff.1 hk).1 (fun _ h => h)).trans hk
    · rename_i hx
      refine ⟨KeepsFrom.refl _ _, Below.refl _ _, fun q hq => ?_, hi2⟩
      rcases List.mem_append.1 hq with hq | hq
      · exact hi1 q hq
      · simp at hq; subst hq
        exact fun e => by rw [e] at hx; simp at hx
  case done =>
    rintro D xs W hDl hS ⟨hi1, hi2⟩ hK
    have hS : xs.map (·.1) = downs d.h.n d.h.n := hS
    have hBw : Below w.heap.size w W := hB0.trans (hi2.mono (by omega))
    have y3 : W.cell? ⟨w.heap.size, 0, none⟩ = some (.int .i64 i) := by simp [World.cell?, hi2.block w.heap.size (by omega), g3]
    have hsz : 0 < d.h.size ∧ d.h.size ≤ 1000 := by have := ok.sz; omega
    have hmiss : d.rd i = d.st i := rdF_miss fun q hq => by
      have : q ∈ xs.map (·.1) := by
        rw [hS]; simp only [downs, List.mem_map, List.mem_range]
        exact ⟨d.h.n - 1 - q, by omega, by omega⟩
      obtain ⟨x, hx, rfl⟩ := List.mem_map.1 this
      exact hi1 x hx
    have hmp : Eng.MapAt d.h.m d.g W := hD.mp.at (Eng.objAt_same (hBw.block d.h.m (Eng.objAt_lt hD.mp.ob)))
    have hka : ∀ u, d.kept i = some u → u.At d.h.size W := fun u hu => (hD.ka i u hu).at fun o ho => by
      have hlt := ((hD.ka i u hu).there ho).lt
      exact ⟨by unfold World.cell?; simp only [hBw.block u.k hlt], by unfold World.frozen?; simp only [hBw.block u.k hlt]⟩
    have hhd : HdAt d.b d.y d.h W := fun j v hj => cel hBw (hD.hd j v hj)
    gi_wp2_with (refine ⟨trivial, ?_⟩; gi_at_call 43; refine (callsIn_wide.2 (stays_ok d i W hsz hhd hmp hka)).mono ?_; rintro e w2 ⟨b, o, z, rfl, hfr, hzl, hz0, hcs, hro, hch⟩; obtain ⟨e4, f4, k4⟩ := box_kept g4 hi2 hch; obtain ⟨e5, f5, k5⟩ := box_kept g5 hi2 hch)
    have hres : ResAt w (d.st i) d.h.size b o z ((w2.setCell ⟨w.heap.size + 1, 0, none⟩ (.slice (some ⟨b, o, none⟩) d.h.size z)).setCell ⟨w.heap.size + 1 + 1, 0, none⟩ (.int .i64 0)) := by
      refine .of (by have := (Array.getElem?_eq_some_iff.1 k5).1; omega) k4 k5 hBw hfr (by rw [bytesL_len] at hzl; exact hzl) (fun j hj => ?_) hro hch
      obtain ⟨v, q1, q2⟩ := hcs j _ (bytesL_at hj)
      rw [q2, ← q1]; rfl
    have hK1 : w2.heap[D]? = some (.deferred (some [])) := (hch.same D (Array.getElem?_eq_some_iff.1 hK).1 (fun _ h => h)).trans hK
    have hK2 := (KeepsOthers.setCell _ ⟨w.heap.size + 1 + 1, 0, none⟩ (.int .i64 0)).same D _ ((KeepsOthers.setCell w2 ⟨w.heap.size + 1, 0, none⟩ (.slice (some ⟨b, o, none⟩) d.h.size z)).same D _ hK1 rfl) rfl
    refine ⟨by simp, .inl ⟨_, _, rfl, run_takeDeferred hK2, ?_⟩⟩
    have hr2 := hres.own (B := w.heap.size) (grownBy_putObj' _ D (.deferred none)) (fun r e => by cases e; exact ⟨by omega, _, hK2, rfl⟩) (Nat.le_refl _)
    refine ⟨.tuple #[.slice (some ⟨b, o, none⟩) d.h.size z, .int .i64 0], ?_, b, o, z, rfl, hr2.fr, hr2.nx, ?_, hr2.room, chg_of_below hr2.bl⟩
    · simp [results, Try.f15, go_sem, hr2.c4, hr2.c5]
    · first | (rw [hmiss]; exact hr2.by') | exact hr2.by'
  case stop =>
    rintro D c pre W hDl ⟨kk, hkk, hpre⟩ ⟨rfl, pre', q, rfl, hno, hq, k, y, x, hres⟩ hK
    have hhit : d.rd i = (d.ws q.1).2.f := rdF_hit hq q.2 fun q' h1 h2 => by
      have hpre : (pre' ++ [q]).map (·.1) = downs d.h.n kk := hpre
      have hk0 : 0 < kk := by
        rcases Nat.eq_zero_or_pos kk with h | h
        · subst h; simp [downs] at hpre
        · exact h
      obtain ⟨k', rfl⟩ : ∃ k', kk = k' + 1 := ⟨kk - 1, by omega⟩
      rw [downs_succ, List.map_append] at hpre
      have h5 := List.append_inj' hpre (by simp)
      have e1 : q.1 = d.h.n - 1 - k' := by simpa using h5.2
      have : q' ∈ pre'.map (·.1) := by
        rw [h5.1]; simp only [downs, List.mem_map, List.mem_range]
        exact ⟨d.h.n - 1 - q', by omega, by omega⟩
      obtain ⟨x, hx, rfl⟩ := List.mem_map.1 this
      exact hno x hx
    gi_wp2
    refine ⟨by simp, .inl ⟨_, _, rfl, run_takeDeferred hK, ?_⟩⟩
    have hr2 := hres.own (B := w.heap.size) (grownBy_putObj' _ D (.deferred none)) (fun r e => by cases e; exact ⟨by omega, _, hK, rfl⟩) (Nat.le_refl _)
    refine ⟨.tuple #[.slice (some ⟨k, y, none⟩) d.h.size x, .int .i64 0], ?_, k, y, x, rfl, hr2.fr, hr2.nx, ?_, hr2.room, chg_of_below hr2.bl⟩
    · simp [results, Try.f15, go_sem, hr2.c4, hr2.c5]
    · first | (rw [hhit]; exact hr2.by') | exact hr2.by'

theorem read_ok (d : Dk) (i : Int) (w : World) (hD : DiskAt d w) (ok : d.Ok0) (hoff : d.h.off = false) (hi : d.h.has i) :
    Calls Try.prog 15 #[.pointer (some ⟨d.b, d.y, none⟩), .int .i64 i] w (ReadRet (d.rd i) d.h.size w) := callsIn_wide.1 (read_in d i w hD ok hoff hi)

end Go.Proofs.Ytkjhpaeminegoaa
