/- Rows of bytes that are sorted in place: what is known of them, and how two of them change their places. -/
import Derived.Test.YthaffebapmkppaaTab
import Derived.Test.YthaffebapmkppaaEE
import Derived.Test.YthaffebapmkppaaEC
import Derived.Sort.Defs

namespace Go.Proofs.Ythaffebapmkppaa
open Go Go.Eng Go.Sort

/-- such bytes lie there -/
def AtA (w : World) (b y : Nat) (d : Array Int) : Prop := ∀ k, k < d.size → w.cell? ⟨b, y + k, none⟩ = some (.int .u8 d[k]!) ∧ w.frozen? ⟨b, y + k, none⟩ = false
/-- memory, and such bytes -/
def arrM (m0 : Mem) (b y : Nat) (d : Array Int) : Mem := fun k o => if k = b ∧ y ≤ o ∧ o < y + d.size then some (.int .u8 d[o - y]!) else m0 k o

theorem arrM_in {m0 : Mem} {b y i : Nat} {d : Array Int} (h : i < d.size) : arrM m0 b y d b (y + i) = some (.int .u8 d[i]!) := by
  unfold arrM
  rw [if_pos (by omega), Nat.add_sub_cancel_left]

theorem arrM_some {m0 : Mem} {b y k o : Nat} {d : Array Int} {v : Value} (h : arrM m0 b y d k o = some v) : ((k = b ∧ y ≤ o ∧ o < y + d.size) ∧ v = .int .u8 d[o - y]!) ∨ (¬ (k = b ∧ y ≤ o ∧ o < y + d.size) ∧ m0 k o = some v) := by
  unfold arrM at h
  by_cases e : k = b ∧ y ≤ o ∧ o < y + d.size
  · rw [if_pos e] at h
    exact .inl ⟨e, (Option.some.inj h).symm⟩
  · rw [if_neg e] at h
    exact .inr ⟨e, h⟩

theorem AtA.stays {w w' : World} {b y : Nat} {d : Array Int} (h : AtA w b y d) (hc : Chg (fun _ _ => False) w w') : AtA w' b y d := fun k hk => by
  obtain ⟨h1, h2⟩ := h k hk
  exact ⟨cell_of_chg hc (by simp) h1, by rw [frozen_of_chg hc _ (by rw [h1]; rfl)]; exact h2⟩

/-- the environment of a function that works on such bytes -/
@[reducible] noncomputable def aE (P : Program) (fn : Func) (Q : Ending → World → Prop) (w : World) (b y n : Nat) (m0 : Mem) (d : Array Int) (N0 : Nums) (B : SchT) : Ctx :=
  mkE P fn Q w (arrD b y n) (arrM m0 b y d) (arrD b y n) (fun _ => True) N0 B
/-- .. two of which are regions of one's own -/
def arrD2 (b y n i j : Nat) : Nat → Nat → Prop := fun k o => k = b ∧ y ≤ o ∧ o < y + n ∧ o ≠ y + i ∧ o ≠ y + j
def arrM2 (m0 : Mem) (b y i j : Nat) (d : Array Int) : Mem := fun k o => if k = b ∧ (o = y + i ∨ o = y + j) then none else arrM m0 b y d k o

theorem X.beginA {P : Program} {f : FuncId} {fn : Func} {c : Code} {args : Array Value} {w : World} {Q : Ending → World → Prop} {b y n : Nat} {d : Array Int} (hA : AtA w b y d) (hn : d.size = n) {ss : List SV} (hf : P.funcs[f]? = some fn) (hb : fn.body = some c) {B : SchT} (hreg : regsO B fn.body = true)
    (hle : Nat.ble args.size fn.ntmps = true) (ha : SV.denL [] ss = some args.toList) (h : X (aE P fn Q w b y n (wm w) d [] B) [.code c] ⟨argFr ss 0, []⟩) : Calls P f args w Q := by
  refine X.enter (aE P fn Q w b y n (wm w) d [] B) hf hb rfl rfl rfl (by rw [hb] at hreg; exact hreg) (Nat.le_of_ble_eq_true hle) ha ?_ h
  refine ⟨rfl, by simp, by simp, by simp, by simp, by simp, by simp, by simp, fun k o v hv => ?_, by simp, by simp, ?_, fun _ _ _ _ _ => trivial, trivial, Chg.refl _ _, by simp⟩
  · rcases arrM_some hv with ⟨⟨e1, e2, e3⟩, e4⟩ | ⟨_, e⟩
    · have := (hA (o - y) (by omega)).1
      rw [show y + (o - y) = o by omega] at this
      rw [e1, this, e4]
    · exact e
  · rintro k o ⟨rfl, e2, e3⟩
    have := (hA (o - y) (by omega)).1
    rw [show y + (o - y) = o by omega] at this
    exact .inl (by rw [this]; rfl)

section
variable {P : Program} {fn : Func} {Q : Ending → World → Prop} {W : World} {b y n : Nat} {m0 : Mem} {d d0 : Array Int} {N0 : Nums} {B : SchT} {k : List It} {s : St}

/-- two bytes become regions of one's own -/
theorem X.take2 (hA : AtA W b y d0) (h0 : d0.size = n) (hn : d.size = n) {i j : Nat} {xi xj : Int} (hij : i ≠ j) (hi : i < n) (hj : j < n) (hxi : d[i]! = xi) (hxj : d[j]! = xj) (hrg : ∀ g ∈ s.rg, g.own = true ∨ g.cells = [])
    (h : ∀ N : Nums, N0.le N → N.length = s.rg.length → X (mkE P fn Q W (arrD b y n) (arrM2 m0 b y i j d) (arrD2 b y n i j) (fun _ => True) ((N ++ [⟨b, y + i, 1⟩]) ++ [⟨b, y + j, 1⟩]) B) k ⟨s.fr, (s.rg ++ [⟨true, [.int .u8 (.v xi)], none⟩]) ++ [⟨true, [.int .u8 (.v xj)], none⟩]⟩) :
    X (aE P fn Q W b y n m0 d N0 B) k s := by
  refine X.conv fun N a w hN hf hS => ?_
  refine ⟨mkE P fn Q W (arrD b y n) (arrM2 m0 b y i j d) (arrD2 b y n i j) (fun _ => True) ((N ++ [⟨b, y + i, 1⟩]) ++ [⟨b, y + j, 1⟩]) B, ⟨s.fr, (s.rg ++ [⟨true, [.int .u8 (.v xi)], none⟩]) ++ [⟨true, [.int .u8 (.v xj)], none⟩]⟩, rfl, rfl, rfl, rfl, ⟨_, Nums.le.refl _, (hf.mono (Nums.le_append N [⟨b, y + i, 1⟩])).mono (Nums.le_append _ _), ?_⟩, h N hN hS.len⟩
  have ci : w.cell? ⟨b, y + i, none⟩ = some (.int .u8 xi) := by rw [← hxi]; exact hS.imm _ _ _ (arrM_in (by omega))
  have cj : w.cell? ⟨b, y + j, none⟩ = some (.int .u8 xj) := by rw [← hxj]; exact hS.imm _ _ _ (arrM_in (by omega))
  have fz : ∀ q, q < n → w.frozen? ⟨b, y + q, none⟩ = false := fun q hq => by
    obtain ⟨h1, h2⟩ := hA q (by omega)
    exact frozen_stays hS.chg (by rw [h1]; rfl) h2
  have s1 : Sat { (aE P fn Q W b y n m0 d N0 B).toEnv with im := arrM2 m0 b y i j d } N s.rg w := Sat.imSay hS fun k o v hv => .inl (by
    unfold arrM2 at hv
    split at hv
    · cases hv
    · exact hv)
  have s2 := s1.focus (b := b) (o := y + i) (cs := [.int .u8 (.v xi)]) (fun k o => arrD b y n k o ∧ o ≠ y + i) (fun _ => True) (World.block_lt_of_cell? _ _ ci)
    (fun q c hq => by cases q with
      | zero => simp at hq; subst hq; exact ⟨_, rfl, ci⟩
      | succ q => simp at hq)
    (fun q hq => by simp at hq; subst hq; exact fz i hi) (fun q hq => by simp at hq; subst hq; exact ⟨rfl, by omega, by omega⟩)
    (fun k o ⟨h1, h2⟩ => ⟨h1, by simp; intro _ _; omega⟩) (.inr fun q hq => by simp at hq; subst hq; exact ⟨rfl, by omega, by omega⟩)
    (fun q hq => by simp at hq; subst hq; simp [arrM2]) hrg (fun _ _ _ _ _ => trivial) trivial
  have s3 := s2.focus (b := b) (o := y + j) (cs := [.int .u8 (.v xj)]) (arrD2 b y n i j) (fun _ => True) (World.block_lt_of_cell? _ _ cj)
    (fun q c hq => by cases q with
      | zero => simp at hq; subst hq; exact ⟨_, rfl, cj⟩
      | succ q => simp at hq)
    (fun q hq => by simp at hq; subst hq; exact fz j hj) (fun q hq => by simp at hq; subst hq; exact ⟨⟨rfl, by omega, by omega⟩, by omega⟩)
    (fun k o ⟨h1, h2, h3, h4, h5⟩ => ⟨⟨⟨h1, h2, h3⟩, h4⟩, by simp; intro _ _; omega⟩) (.inr fun q hq => by simp at hq; subst hq; exact ⟨rfl, by omega, by omega⟩)
    (fun q hq => by simp at hq; subst hq; simp [arrM2]) (fun g hg => by
      rcases List.mem_append.1 hg with hg | hg
      · exact hrg g hg
      · simp at hg; subst hg; exact .inl rfl) (fun _ _ _ _ _ => trivial) trivial
  exact s3

theorem swpZ_get {i j q : Nat} (hi : i < d.size) (hj : j < d.size) (hq : q < d.size) : (swp d i j)[q]! = if q = j then d[i]! else if q = i then d[j]! else d[q]! := by
  have hs : q < (swp d i j).size := by simpa [swp] using hq
  have h1 : ∀ (x : Array Int) (h : q < x.size), x[q]! = x[q] := fun x h => getElem!_pos x q h
  rw [h1 _ hs]
  simp only [swp]
  rw [Array.getElem_setIfInBounds (by simpa using hq)]
  by_cases e : q = j
  · subst e; simp
  · rw [if_neg (fun h => e h.symm), if_neg e, Array.getElem_setIfInBounds hq]
    by_cases e2 : q = i
    · subst e2; simp
    · rw [if_neg (fun h => e2 h.symm), if_neg e2, h1 _ hq]

theorem swpZ_size (d : Array Int) (i j : Nat) : (swp d i j).size = d.size := by simp [swp]

/-- .. and are given back, in each other's place -/
theorem X.give2 {i j r : Nat} {xi xj : Int} (hn : d.size = n) (hij : i ≠ j) (hi : i < n) (hj : j < n) (hxi : d[i]! = xi) (hxj : d[j]! = xj) {N : Nums} (h1 : s.rg[r]? = some ⟨true, [.int .u8 (.v xj)], none⟩) (h2 : s.rg[r + 1]? = some ⟨true, [.int .u8 (.v xi)], none⟩) (p1 : N[r]? = some ⟨b, y + i, 1⟩) (p2 : N[r + 1]? = some ⟨b, y + j, 1⟩)
    (h : X (aE P fn Q W b y n m0 (swp d i j) N B) k ⟨s.fr, (s.rg.set r ⟨false, [], none⟩).set (r + 1) ⟨false, [], none⟩⟩) :
    X (mkE P fn Q W (arrD b y n) (arrM2 m0 b y i j d) (arrD2 b y n i j) (fun _ => True) N B) k s := by
  refine X.conv fun N' a w hN hf hS => ?_
  refine ⟨aE P fn Q W b y n m0 (swp d i j) N B, ⟨s.fr, (s.rg.set r ⟨false, [], none⟩).set (r + 1) ⟨false, [], none⟩⟩, rfl, rfl, rfl, rfl, ⟨N', hN, hf, ?_⟩, h⟩
  have q1 := hN r _ p1
  have q2 := hN _ _ p2
  have c1 := hS.cell r _ _ h1 q1 0 _ rfl
  have c2 := hS.cell _ _ _ h2 q2 0 _ rfl
  simp only [SV.den, SI.den, Option.some.injEq, Nat.add_zero] at c1 c2
  obtain ⟨_, rfl, c1⟩ := c1
  obtain ⟨_, rfl, c2⟩ := c2
  have s1 := Sat.give hS h1 q1 rfl (fun k o => arrD2 b y n i j k o ∨ (k = b ∧ o = y + i)) (fun _ => True) (fun k o hk => hk.imp id fun ⟨e1, e2⟩ => ⟨e1, by show y + i ≤ o; omega, by show o < y + i + 1; omega⟩) (fun _ _ _ _ _ => trivial) trivial
  have h2' : (s.rg.set r ⟨false, [], none⟩)[r + 1]? = some ⟨true, [.int .u8 (.v xi)], none⟩ := by rw [List.getElem?_set_ne (by omega)]; exact h2
  have s2 := Sat.give s1 h2' q2 rfl (arrD b y n) (fun _ => True) (fun k o ⟨e1, e2, e3⟩ => by
    by_cases a1 : o = y + j
    · exact .inr ⟨e1, by show y + j ≤ o; omega, by show o < y + j + 1; omega⟩
    · by_cases a2 : o = y + i
      · exact .inl (.inr ⟨e1, a2⟩)
      · exact .inl (.inl ⟨e1, e2, e3, a2, a1⟩)) (fun _ _ _ _ _ => trivial) trivial
  refine Sat.imSay (m' := arrM m0 b y (swp d i j)) s2 fun k o v hv => ?_
  show arrM2 m0 b y i j d k o = some v ∨ _
  rcases arrM_some hv with ⟨⟨e1, e2, e3⟩, e4⟩ | ⟨e, hv⟩
  · rw [swpZ_size] at e3
    have hq : o - y < d.size := by omega
    rw [swpZ_get (by omega) (by omega) hq] at e4
    by_cases a1 : o = y + j
    · refine .inr ⟨⟨e1, e2, by omega⟩, ?_⟩
      rw [if_pos (by omega), hxi] at e4
      rw [e1, a1, c2, e4]
    · by_cases a2 : o = y + i
      · refine .inr ⟨⟨e1, e2, by omega⟩, ?_⟩
        rw [if_neg (by omega), if_pos (by omega), hxj] at e4
        rw [e1, a2, c1, e4]
      · left
        rw [if_neg (by omega), if_neg (by omega)] at e4
        unfold arrM2 arrM
        rw [if_neg (by rintro ⟨_, e | e⟩; exact a2 e; exact a1 e), if_pos ⟨e1, e2, e3⟩, e4]
  · left
    rw [swpZ_size] at e
    unfold arrM2 arrM
    rw [if_neg (by rintro ⟨e1, e2 | e2⟩ <;> exact e ⟨e1, by omega, by omega⟩), if_neg e]
    exact hv

theorem swpZ_self {i : Nat} (hi : i < d.size) : swp d i i = d := by
  apply Array.ext
  · simp [swp]
  · intro q h1 h2
    have := swpZ_get (d := d) hi hi (q := q) (by simpa [swp] using h1)
    rw [getElem!_pos _ q h1, getElem!_pos d q h2] at this
    rw [this]
    split
    · rename_i e; subst e; rw [getElem!_pos d _ hi]
    · rfl

/-- a byte becomes a region of one's own -/
theorem X.take1 (hA : AtA W b y d0) (h0 : d0.size = n) (hn : d.size = n) {i : Nat} {xi : Int} (hi : i < n) (hxi : d[i]! = xi) (hrg : ∀ g ∈ s.rg, g.own = true ∨ g.cells = [])
    (h : ∀ N : Nums, N0.le N → N.length = s.rg.length → X (mkE P fn Q W (arrD b y n) (arrM2 m0 b y i i d) (arrD2 b y n i i) (fun _ => True) (N ++ [⟨b, y + i, 1⟩]) B) k ⟨s.fr, s.rg ++ [⟨true, [.int .u8 (.v xi)], none⟩]⟩) :
    X (aE P fn Q W b y n m0 d N0 B) k s := by
  refine X.conv fun N a w hN hf hS => ?_
  refine ⟨mkE P fn Q W (arrD b y n) (arrM2 m0 b y i i d) (arrD2 b y n i i) (fun _ => True) (N ++ [⟨b, y + i, 1⟩]) B, ⟨s.fr, s.rg ++ [⟨true, [.int .u8 (.v xi)], none⟩]⟩, rfl, rfl, rfl, rfl, ⟨_, Nums.le.refl _, hf.mono (Nums.le_append _ _), ?_⟩, h N hN hS.len⟩
  have ci : w.cell? ⟨b, y + i, none⟩ = some (.int .u8 xi) := by rw [← hxi]; exact hS.imm _ _ _ (arrM_in (by omega))
  have fz : w.frozen? ⟨b, y + i, none⟩ = false := by
    obtain ⟨h1, h2⟩ := hA i (by omega)
    exact frozen_stays hS.chg (by rw [h1]; rfl) h2
  have s1 : Sat { (aE P fn Q W b y n m0 d N0 B).toEnv with im := arrM2 m0 b y i i d } N s.rg w := Sat.imSay hS fun k o v hv => .inl (by
    unfold arrM2 at hv
    split at hv
    · cases hv
    · exact hv)
  exact s1.focus (b := b) (o := y + i) (cs := [.int .u8 (.v xi)]) (arrD2 b y n i i) (fun _ => True) (World.block_lt_of_cell? _ _ ci)
    (fun q c hq => by cases q with
      | zero => simp at hq; subst hq; exact ⟨_, rfl, ci⟩
      | succ q => simp at hq)
    (fun q hq => by simp at hq; subst hq; exact fz) (fun q hq => by simp at hq; subst hq; exact ⟨rfl, by omega, by omega⟩)
    (fun k o ⟨h1, h2, h3, h4, h5⟩ => ⟨⟨h1, h2, h3⟩, by simp; intro _ _; omega⟩) (.inr fun q hq => by simp at hq; subst hq; exact ⟨rfl, by omega, by omega⟩)
    (fun q hq => by simp at hq; subst hq; simp [arrM2]) hrg (fun _ _ _ _ _ => trivial) trivial

theorem X.give1 {i r : Nat} {xi : Int} (hn : d.size = n) (hi : i < n) (hxi : d[i]! = xi) {N : Nums} (h1 : s.rg[r]? = some ⟨true, [.int .u8 (.v xi)], none⟩) (p1 : N[r]? = some ⟨b, y + i, 1⟩)
    (h : X (aE P fn Q W b y n m0 d N B) k ⟨s.fr, s.rg.set r ⟨false, [], none⟩⟩) :
    X (mkE P fn Q W (arrD b y n) (arrM2 m0 b y i i d) (arrD2 b y n i i) (fun _ => True) N B) k s := by
  refine X.conv fun N' a w hN hf hS => ?_
  refine ⟨aE P fn Q W b y n m0 d N B, ⟨s.fr, s.rg.set r ⟨false, [], none⟩⟩, rfl, rfl, rfl, rfl, ⟨N', hN, hf, ?_⟩, h⟩
  have q1 := hN r _ p1
  have c1 := hS.cell r _ _ h1 q1 0 _ rfl
  simp only [SV.den, SI.den, Option.some.injEq, Nat.add_zero] at c1
  obtain ⟨_, rfl, c1⟩ := c1
  have s2 := Sat.give hS h1 q1 rfl (arrD b y n) (fun _ => True) (fun k o ⟨e1, e2, e3⟩ => by
    by_cases a1 : o = y + i
    · exact .inr ⟨e1, by show y + i ≤ o; omega, by show o < y + i + 1; omega⟩
    · exact .inl ⟨e1, e2, e3, a1, a1⟩) (fun _ _ _ _ _ => trivial) trivial
  refine Sat.imSay (m' := arrM m0 b y d) s2 fun k o v hv => ?_
  show arrM2 m0 b y i i d k o = some v ∨ _
  by_cases e : k = b ∧ o = y + i
  · have hv : arrM m0 b y d k o = some v := hv
    rw [e.1, e.2, arrM_in (by omega), hxi] at hv
    exact .inr ⟨⟨e.1, by omega, by omega⟩, by rw [e.1, e.2, c1, hv]⟩
  · left
    unfold arrM2
    rw [if_neg (by rintro ⟨e1, e2 | e2⟩ <;> exact e ⟨e1, e2⟩)]
    exact hv

/-- behind a call that changed such bytes -/
theorem Goes.arr {N : Nums} {dst : Option Nat} {v : Value} {w w' : World} {d' : Array Int} (hN : N0.le N) (hS : Sat (aE P fn Q W b y n m0 d N0 B).toEnv N s.rg w) (hn : d.size = n) (hn' : d'.size = n) (hA : AtA w' b y d') (hc : Chg (arrD b y n) w w') (hrg : ∀ g ∈ s.rg, g.own = true ∨ g.cells = [])
    {r : SV} (hr : r.den N = some v) {f' : Fr} (hp : putO fn.ntmps s.fr dst (.val r) = some f') (h : X (aE P fn Q W b y n m0 d' N0 B) k ⟨f', s.rg⟩) : Goes (aE P fn Q W b y n m0 d N0 B) N k s.fr dst v w' := by
  refine ⟨aE P fn Q W b y n m0 d' N0 B, N, r, s.rg, f', rfl, rfl, rfl, rfl, Nums.le.refl N, hN, ?_, hr, hp, h⟩
  have s1 : Sat { (aE P fn Q W b y n m0 d N0 B).toEnv with im := fun k o => if k = b ∧ y ≤ o ∧ o < y + n then none else m0 k o } N s.rg w := Sat.imSay hS fun k o v hv => .inl (by
    by_cases e : k = b ∧ y ≤ o ∧ o < y + n
    · rw [if_pos e] at hv; cases hv
    · rw [if_neg e] at hv
      show arrM m0 b y d k o = some v
      unfold arrM
      rw [hn, if_neg e]; exact hv)
  have s2 := Sat.turn s1 (w' := w') (D' := arrD b y n) (R' := fun _ => True) hc (fun k o h => .inr h) (fun k o h => if_pos h) hrg (fun k o hd => ⟨.inl hd, by
    obtain ⟨rfl, e2, e3⟩ := hd
    have := (hA (o - y) (by omega)).1
    rw [show y + (o - y) = o by omega] at this
    exact .inl (by rw [this]; rfl)⟩) (fun _ _ _ _ _ => trivial) trivial
  refine Sat.imSay (m' := arrM m0 b y d') s2 fun k o v hv => ?_
  rcases arrM_some hv with ⟨⟨e1, e2, e3⟩, e4⟩ | ⟨e, hv⟩
  · refine .inr ⟨⟨e1, e2, by omega⟩, ?_⟩
    have := (hA (o - y) (by omega)).1
    rw [show y + (o - y) = o by omega] at this
    rw [e1, this, e4]
  · left
    show (if k = b ∧ y ≤ o ∧ o < y + n then none else m0 k o) = some v
    rw [if_neg (by rw [← hn']; exact e)]
    exact hv

/-- what is known at the end -/
theorem Sat.arr {N : Nums} {w : World} {rg : List Rg} (hS : Sat (aE P fn Q W b y n m0 d N0 B).toEnv N rg w) (hA : AtA W b y d0) (h0 : d0.size = n) (hn : d.size = n) : AtA w b y d ∧ Chg (arrD b y n) W w := by
  refine ⟨fun q hq => ⟨hS.imm _ _ _ (arrM_in hq), ?_⟩, hS.chg⟩
  obtain ⟨h1, h2⟩ := hA q (by omega)
  exact frozen_stays hS.chg (by rw [h1]; rfl) h2

/-- what such a function leaves -/
def PostA (b y n : Nat) (w : World) (d' : Array Int) : Ending → World → Prop := fun e w' => e = .returned (.tuple #[]) ∧ AtA w' b y d' ∧ Chg (arrD b y n) w w'
end

end Go.Proofs.Ythaffebapmkppaa
