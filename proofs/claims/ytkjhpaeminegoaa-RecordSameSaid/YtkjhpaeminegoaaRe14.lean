/- Cells of states and records; what is known behind a record, by the document. -/
import Derived.Test.YtkjhpaeminegoaaRe13

namespace Go.Proofs.Ytkjhpaeminegoaa
open Go Go.Eng

structure SlotC where
  (has : Bool) (pc pn pl ac an al k inc st : Int) (vp : Option Addr) (vn vc : Nat) (dp : Option Addr) (dn dc : Nat) (op : Option Addr) (on oc : Nat) (last : Int) (mp : Option Addr) (mn mc : Nat)
structure ConfC where
  (c : Int) (op : Option Addr) (on oc : Nat) (np : Option Addr) (nn nc : Nat)
structure StateC where
  (slots : Nat → SlotC) (fence life : Int) (cf : ConfC)
structure RecC where
  (kind key : Int) (sl : SlotC) (fence life : Int) (cf : ConfC)

def SlotC.vals (x : SlotC) : List Value := [.bool x.has, .int .u64 x.pc, .int .u8 x.pn, .int .u32 x.pl, .int .u64 x.ac, .int .u8 x.an, .int .u32 x.al, .int .u8 x.k, .int .u64 x.inc, .int .i64 x.st, .slice x.vp x.vn x.vc, .slice x.dp x.dn x.dc, .slice x.op x.on x.oc, .int .u64 x.last, .slice x.mp x.mn x.mc]
def SlotC.svs (x : SlotC) : List SV := [.bool (.v x.has), .int .u64 (.v x.pc), .int .u8 (.v x.pn), .int .u32 (.v x.pl), .int .u64 (.v x.ac), .int .u8 (.v x.an), .int .u32 (.v x.al), .int .u8 (.v x.k), .int .u64 (.v x.inc), .int .i64 (.v x.st), .slv x.vp x.vn x.vc, .slv x.dp x.dn x.dc, .slv x.op x.on x.oc, .int .u64 (.v x.last), .slv x.mp x.mn x.mc]
def ConfC.vals (x : ConfC) : List Value := [.int .u64 x.c, .slice x.op x.on x.oc, .slice x.np x.nn x.nc]
def ConfC.svs (x : ConfC) : List SV := [.int .u64 (.v x.c), .slv x.op x.on x.oc, .slv x.np x.nn x.nc]
/-- rows behind each other -/
def cat {α : Type} (f : Nat → List α) : Nat → Nat → List α
  | _, 0 => []
  | i, n + 1 => f i ++ cat f (i + 1) n
def StateC.vals (s : StateC) : List Value := cat (fun i => (s.slots i).vals) 0 16 ++ (.int .u64 s.fence :: .int .u32 s.life :: s.cf.vals)
def StateC.svs (s : StateC) : List SV := cat (fun i => (s.slots i).svs) 0 16 ++ (.int .u64 (.v s.fence) :: .int .u32 (.v s.life) :: s.cf.svs)
def RecC.vals (r : RecC) : List Value := .int .u8 r.kind :: .int .u8 r.key :: (r.sl.vals.tail ++ (.int .u64 r.fence :: .int .u32 r.life :: r.cf.vals))
def RecC.svs (r : RecC) : List SV := .int .u8 (.v r.kind) :: .int .u8 (.v r.key) :: (r.sl.svs.tail ++ (.int .u64 (.v r.fence) :: .int .u32 (.v r.life) :: r.cf.svs))

theorem cat_length {α : Type} {f : Nat → List α} {q : Nat} (hq : ∀ i, (f i).length = q) : ∀ n i, (cat f i n).length = n * q
  | 0, _ => by simp [cat]
  | n + 1, i => by simp only [cat, List.length_append, hq, cat_length hq n, Nat.add_mul]; omega
theorem cat_row {α : Type} {f : Nat → List α} {q : Nat} (hq : ∀ i, (f i).length = q) : ∀ n i j, j < n → ((cat f i n).drop (j * q)).take q = f (i + j)
  | 0, _, _, h => by omega
  | n + 1, i, 0, _ => by
    simp only [cat, Nat.zero_mul, List.drop_zero, Nat.add_zero]
    rw [List.take_append_of_le_length (by rw [hq i]; exact Nat.le_refl _), List.take_of_length_le (by rw [hq i]; exact Nat.le_refl _)]
  | n + 1, i, j + 1, h => by
    have := cat_row hq n (i + 1) j (by omega)
    simp only [cat]
    rw [show (j + 1) * q = q + j * q by rw [Nat.add_mul]; omega, List.drop_append, hq i, List.drop_of_length_le (by rw [hq i]; omega), List.nil_append, show q + j * q - q = j * q by omega, this]
    congr 1; omega

def upd {α : Type} (f : Nat → α) (k : Nat) (x : α) : Nat → α := fun i => bif Nat.beq i k then x else f i
def SlotC.zero : SlotC := ⟨false, 0, 0, 0, 0, 0, 0, 0, 0, 0, none, 0, 0, none, 0, 0, none, 0, 0, 0, none, 0, 0⟩
def ConfC.zero : ConfC := ⟨0, none, 0, 0, none, 0, 0⟩
def StateC.zero : StateC := ⟨fun _ => SlotC.zero, 0, 0, ConfC.zero⟩
def mxZ (a b : Int) : Int := if a < b then b else a
def SlotC.put (x : SlotC) : SlotC := { x with has := true }
def foldC (m : Bool) (s : StateC) (r : RecC) : StateC :=
  if m = false then s else if r.kind = 1 then ⟨upd s.slots r.key.toNat r.sl.put, s.fence, s.life, s.cf⟩ else if r.kind = 2 then ⟨upd s.slots r.key.toNat SlotC.zero, s.fence, s.life, s.cf⟩
  else if r.kind = 3 then ⟨s.slots, mxZ s.fence r.fence, s.life, s.cf⟩ else if r.kind = 4 then ⟨s.slots, s.fence, r.life, s.cf⟩ else if r.kind = 5 then ⟨s.slots, s.fence, s.life, r.cf⟩ else s

theorem StateC.svs_len (s : StateC) : s.svs.length = 245 := by
  unfold StateC.svs
  rw [List.length_append, cat_length (q := 15) (fun _ => rfl)]
  rfl
theorem StateC.arr_row (s : StateC) {i : Nat} (h : i < 16) : ((cat (fun i => (s.slots i).svs) 0 16).drop (i * 15)).take 15 = (s.slots i).svs := by
  have := cat_row (f := fun i => (s.slots i).svs) (q := 15) (fun _ => rfl) 16 0 i h
  rw [Nat.zero_add] at this
  exact this
theorem StateC.svs_row (s : StateC) {i : Nat} (h : i < 16) : (s.svs.drop (i * 15)).take 15 = (s.slots i).svs := by
  have hl := cat_length (f := fun i => (s.slots i).svs) (q := 15) (fun _ => rfl) 16 0
  unfold StateC.svs
  rw [List.drop_append_of_le_length (by rw [hl]; omega), List.take_append_of_le_length (by rw [List.length_drop, hl]; omega)]
  exact s.arr_row h

theorem cat_get {α : Type} {f : Nat → List α} {q : Nat} (hq : ∀ i, (f i).length = q) : ∀ n i j, (cat f i n)[j]? = if j < n * q then (f (i + j / q))[j % q]? else none
  | 0, _, _ => by simp [cat]
  | n + 1, i, j => by
    simp only [cat]
    by_cases h : j < q
    · rw [List.getElem?_append_left (by rw [hq i]; exact h), if_pos (by rw [Nat.add_mul]; omega), Nat.div_eq_of_lt h, Nat.mod_eq_of_lt h, Nat.add_zero]
    · rw [List.getElem?_append_right (by rw [hq i]; omega), hq i, cat_get hq n (i + 1) (j - q)]
      have hq0 : 0 < q ∨ q = 0 := by omega
      rcases hq0 with hq0 | hq0
      · have h1 : j / q = (j - q) / q + 1 := by
          rw [← Nat.add_div_right _ hq0]; congr 1; omega
        have h2 : j % q = (j - q) % q := (Nat.mod_eq_sub_mod (by omega))
        rw [h1, h2, show i + 1 + (j - q) / q = i + ((j - q) / q + 1) by omega]
        by_cases h3 : j - q < n * q
        · rw [if_pos h3, if_pos (by rw [Nat.add_mul]; omega)]
        · rw [if_neg h3, if_neg (by rw [Nat.add_mul]; omega)]
      · subst hq0
        simp

/-- a slot, put -/
theorem svs_put (s : StateC) {k : Nat} (h : k < 16) (x : SlotC) : setRow s.svs (k * 15) x.svs = (⟨upd s.slots k x, s.fence, s.life, s.cf⟩ : StateC).svs := by
  have hx : x.svs.length = 15 := rfl
  have hl := s.svs_len
  refine List.ext_getElem? fun j => ?_
  rw [setRow_at _ _ _ _ (by rw [hx, hl]; omega), hx]
  have hg : ∀ s : StateC, s.svs[j]? = if j < 240 then ((s.slots (j / 15)).svs)[j % 15]? else ((.int .u64 (.v s.fence) :: .int .u32 (.v s.life) :: s.cf.svs : List SV))[j - 240]? := fun s => by
    have hc := cat_length (f := fun i => (s.slots i).svs) (q := 15) (fun _ => rfl) 16 0
    unfold StateC.svs
    by_cases hj : j < 240
    · rw [if_pos hj, List.getElem?_append_left (by rw [hc]; omega), cat_get (q := 15) (fun _ => rfl), if_pos (by omega), Nat.zero_add]
    · rw [if_neg hj, List.getElem?_append_right (by rw [hc]; omega), hc]
  rw [hg s, hg]
  by_cases hj : k * 15 ≤ j ∧ j < k * 15 + 15
  · rw [if_pos hj, if_pos (by omega)]
    have e1 : j / 15 = k := by omega
    have e2 : j % 15 = j - k * 15 := by omega
    rw [e2]
    simp only [upd, e1, Nat.beq_refl, cond_true]
  · rw [if_neg hj]
    by_cases h2 : j < 240
    · rw [if_pos h2, if_pos h2]
      have : Nat.beq (j / 15) k = false := by
        cases hb : Nat.beq (j / 15) k with
        | false => rfl
        | true => exact absurd (Nat.eq_of_beq_eq_true hb) (by omega)
      simp only [upd, this, cond_false]
    · rw [if_neg h2, if_neg h2]

theorem fin_agg {cs : List SV} {N : Nums} {v : Value} {vs : List Value} (hv : (resV [.agg cs]).den N = some v) (h : SV.denL N cs = some vs) : Ending.returned v = .returned (.agg vs.toArray) := by
  simp only [resV, SV.den, h, Option.some.injEq] at hv
  rw [← hv]

end Go.Proofs.Ytkjhpaeminegoaa

