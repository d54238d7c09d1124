/- The ring: rules of the executor that Keepers needs; the search. The ring: keepers. The ring: of no node. The ring: what is known of it; the keepers of a key, rising. The ring's laws: calls under a guard; strings; sameness; awake. The symbolic executor, part 30: regions that draw their order, where what a call has made may be looked at behind it. RingTurned: parts of a slice; what order plays no part. The symbolic executor, part 31: lists that grow keep their regions. The reference's hash. The symbolic executor, part 32: regions that draw their order, of which two orders are gone through. RingTurned. The ring's laws: what is handed in. The ring's plain laws: each once, in the order of its first coming; a node more; all keepers. RingMoves. RingWhole. The reference's ring: each point is put in its place. The reference's keepers. -/
import Derived.Test.YthaffebapmkppaaRi5
import Derived.Shelf.SlSorted.Search
import Derived.Laws.BytesArg
import Derived.Lib.Bytes
import Derived.Test.YthaffebapmkppaaPd3
import Derived.Test.YthaffebapmkppaaLaw

namespace Go.Proofs.Ythaffebapmkppaa
open Go Go.Eng Go.Sort

/-! ### values told -/
theorem vk_arr {E : Env} {N0 : Nums} {rg : List Rg} {f : Fr} {g : GK} {t e : TypeId} {x ix : Operand} {n z q r o c : Nat} {kd : IntKind} {s : SI} (hx : evK f g x = some (.own r o)) (hix : evK f g ix = some (.int kd s)) (hz : g.T → s.den = (z : Int)) (hu : E.P.underlying t = some (.array n e)) (hq : ∀ w, (sizeOf e).run E.P w = .ok q w)
    (hlt : z < n) (hc : c = o + z * q) (hr : r < rg.length) : ValOk E N0 rg f g (.indexAddr t x ix) (.own r c) := by
  intro ht N ρ op w hN0 hop hρ hV
  have h1 := hρ _ _ hx
  have h2 := hρ _ _ hix
  obtain ⟨p, hp⟩ : ∃ p, N[r]? = some p := ⟨_, List.getElem?_eq_getElem (by have := hV.1.len; omega)⟩
  simp only [SV.den, hp, hz ht, Option.some.injEq] at h1 h2
  refine ⟨.pointer (some ⟨p.b, p.o + c, none⟩), by simp only [SV.den, hp], fun w' _ => ?_⟩
  simp only [execOp, hop, ← h1, ← h2, Sem.run_bind, Result.andThen, Sem.run_pure]
  have hz' : (z : Int) < n := by omega
  simp [Instr.indexAt, asIntOf, run_underlying hu, Instr.sureAddr, Result.andThen, hlt, hq, addr_add, hc, Nat.add_assoc]

theorem vk_load1 {E : Env} {N0 : Nums} {rg : List Rg} {f : Fr} {g : GK} {t : TypeId} {x : Operand} {r c : Nat} {gg : Rg} {rs : SV} (hx : evK f g x = some (.own r c)) (ha : ∀ w, (isAgg t).run E.P w = .ok false w) (hr : rg[r]? = some gg) (hc : gg.cells[c]? = some rs) : ValOk E N0 rg f g (.load t x) rs := by
  intro _ N ρ o w hN0 hop hρ hV
  have h1 := hρ _ _ hx
  obtain ⟨p, hp⟩ : ∃ p, N[r]? = some p := ⟨_, List.getElem?_eq_getElem (Nat.lt_of_lt_of_le (List.getElem?_eq_some_iff.1 hr).1 hV.1.len)⟩
  simp only [SV.den, hp, Option.some.injEq] at h1
  obtain ⟨v, hv, _⟩ := hV.1.cell r gg p hr hp c rs hc
  refine ⟨v, hv, fun w' hV' => ?_⟩
  obtain ⟨v', hv', hc'⟩ := hV'.1.cell r gg p hr hp c rs hc
  rw [hv] at hv'; cases hv'
  simp only [execOp, hop, ← h1, Instr.loadAt, Instr.sureAddr, loadVar, Sem.run_bind, Sem.run_pure, Result.andThen, ha, Bool.false_eq_true, if_false]
  simp [hc']

theorem vk_rem {E : Env} {N0 : Nums} {rg : List Rg} {f : Fr} {g : GK} {t ty : TypeId} {x y : Operand} {kd : IntKind} {s1 s2 r : SI} (hx : evK f g x = some (.int kd s1)) (hy : evK f g y = some (.int kd s2)) (hz : g.T → s2.den ≠ 0 ∧ r.den = s1.den.tmod s2.den) : ValOk E N0 rg f g (.binOp .rem t x y ty) (.int kd r) := by
  intro ht N ρ o w hN0 hop hρ hV
  have h1 := hρ _ _ hx
  have h2 := hρ _ _ hy
  simp only [SV.den, Option.some.injEq] at h1 h2
  obtain ⟨hne, hr⟩ := hz ht
  refine ⟨.int kd r.den, rfl, fun w' _ => ?_⟩
  have h3 : (do eqGuard .rem t x y (ρ x) (ρ y); binOp .rem t (ρ x) (ρ y) : Sem Value).run E.P w' = .ok (.int kd r.den) w' := by
    rw [← h1, ← h2]
    simp only [Sem.run_bind]
    rw [eqGuard_none _ _ _ _ (by simp) (by simp)]
    simp [Result.andThen, binOp, Op.intDiv, hne, hr]
  simp only [execOp, hop]
  rw [Sem.run_bind, h3]
  rfl

theorem oe_store {T : Tab} {n : Nat} {all : Array Oper} {i : Nat} {s : St} {o : Oper} {t : TypeId} {x y : Operand} {r c : Nat} {v : SV} {ti : TI} {g : Rg} {cs' : List SV} (ho : nth all.toList i = some o) (hsu : sure all s.fr o = true) (hop : o.op = .store t x y) (hd : o.dst = none) (hx : ev s.fr x = some (.own r c)) (hy : ev s.fr y = some v) (ht : lookT T t = some ti)
    (hg : nth s.rg r = some g) (hown : g.own = true) (hl : Nat.beq v.cells.length ti.size = true) (hle : c + ti.size ≤ g.cells.length) (h1 : v.cells.all SV.one = true) (hcs : setRow g.cells c v.cells = cs') : OpEq T n all i s ⟨s.fr, s.rg.set r { g with cells := cs' }⟩ := by
  refine ⟨?_⟩
  have hble : Nat.ble (c + ti.size) g.cells.length = true := Nat.ble_eq_true_of_le hle
  simp only [opE, ho, hsu, cond_true, hop, stepE, hx, hy, ht, hg, hown, hl, hble, h1, Bool.and_self, hcs, hd, putO]

/-! ### a region is dropped from among the others -/
def past (k r : Nat) : Nat := if r < k then r else r + 1
theorem past_get {α : Type} {A B : List α} {x v : α} {r : Nat} (h : (A ++ B)[r]? = some v) : (A ++ x :: B)[past A.length r]? = some v := by
  unfold past
  by_cases hr : r < A.length
  · rw [if_pos hr, List.getElem?_append_left hr]
    rwa [List.getElem?_append_left hr] at h
  · rw [if_neg hr, List.getElem?_append_right (by omega)]
    rw [List.getElem?_append_right (by omega)] at h
    rw [show r + 1 - A.length = (r - A.length) + 1 by omega, List.getElem?_cons_succ]
    exact h
theorem past_inj {k r r' : Nat} (h : r ≠ r') : past k r ≠ past k r' := by unfold past; split <;> split <;> omega

theorem Sat.dropAt {E : Env} {A B : Nums} {x : Num} {rA rB : List Rg} {g0 : Rg} {w : World} (hl : A.length = rA.length) (h : Sat E (A ++ x :: B) (rA ++ g0 :: rB) w) (hc : ∀ g ∈ rA ++ rB, ∀ c ∈ g.cells, ∀ v, c.den (A ++ x :: B) = some v → c.den (A ++ B) = some v) (hob : ∀ g ∈ rA ++ rB, g.ob = none) : Sat E (A ++ B) (rA ++ rB) w := by
  have gs : ∀ {r : Nat} {g : Rg}, (rA ++ rB)[r]? = some g → (rA ++ g0 :: rB)[past A.length r]? = some g := fun h => by rw [hl]; exact past_get h
  have ns : ∀ {r : Nat} {p : Num}, (A ++ B)[r]? = some p → (A ++ x :: B)[past A.length r]? = some p := fun h => past_get h
  refine ⟨by have := h.len; simp at this ⊢; omega, fun r p hp => h.lt _ p (ns hp), fun r g p hg hp j c hj => ?_, fun r g p hg hp => h.ext _ g p (gs hg) (ns hp), fun r g p hg hp => h.room _ g p (gs hg) (ns hp),
    fun r r' g g' p p' hg hp hg' hp' ho hne => h.disj _ _ g g' p p' (gs hg) (ns hp) (gs hg') (ns hp') ho (past_inj hne), fun r g p ob hg hp ho => ?_, fun r r' g g' p p' hg hp hg' hp' ho _ _ => ?_, h.imm, fun r g p hg hp => h.imd _ g p (gs hg) (ns hp), fun r g p hg hp => h.dd _ g p (gs hg) (ns hp), h.dlt, h.loc, h.res, h.chg, fun r g p hg hp => h.foot _ g p (gs hg) (ns hp)⟩
  · obtain ⟨v, h1, h2⟩ := h.cell _ g p (gs hg) (ns hp) j c hj
    exact ⟨v, hc g (List.mem_of_getElem? hg) c (List.mem_of_getElem? hj) v h1, h2⟩
  · rw [hob g (List.mem_of_getElem? hg)] at ho; cases ho
  · rw [hob g (List.mem_of_getElem? hg)] at ho; cases ho

theorem X.dropAt {E : Ctx} {k : List It} (h0 : E.N0 = []) {f : Fr} (f' : Fr) (rA : List Rg) {g0 : Rg} {rB : List Rg} (hs : ∀ (A : Nums) x B, A.length = rA.length → Sh (A ++ x :: B) (A ++ B) f f') (hc : ∀ g ∈ rA ++ rB, ∀ c ∈ g.cells, ∀ (N N' : Nums) (v : Value), c.den N = some v → c.den N' = some v) (hob : ∀ g ∈ rA ++ rB, g.ob = none) (h : X E k ⟨f', rA ++ rB⟩) : X E k ⟨f, rA ++ g0 :: rB⟩ := by
  refine X.conv fun N a w hN hf hS => ?_
  have hlen := hS.len
  obtain ⟨A, R, rfl, hA⟩ : ∃ A R, N = A ++ R ∧ A.length = rA.length := ⟨N.take rA.length, N.drop rA.length, (List.take_append_drop _ _).symm, by simp at hlen ⊢; omega⟩
  cases R with
  | nil => simp at hlen; omega
  | cons x B => exact ⟨E, ⟨f', rA ++ rB⟩, rfl, rfl, rfl, rfl, ⟨A ++ B, by rw [h0]; exact fun r p h => by simp at h, hf.sh (hs A x B hA), Sat.dropAt hA hS (fun g hg c hc' v => hc g hg c hc' _ _ v) hob⟩, h⟩

theorem len3 {α : Type} {l : List α} (h : l.length = 3) : ∃ a b c, l = [a, b, c] := by
  match l, h with
  | [a, b, c], _ => exact ⟨a, b, c, rfl⟩

/-! ### points that lie there -/
/-- such points can be read there -/
def PtIn (b o : Nat) (L : List (Int × Int)) (w : World) : Prop := ∀ j, j < L.length → w.cell? ⟨b, o + j * 2, none⟩ = some (.int .u64 L[j]!.1) ∧ w.cell? ⟨b, o + j * 2 + 1, none⟩ = some (.int .u8 L[j]!.2)
theorem PtIn.of {b o : Nat} {L : List (Int × Int)} {w : World} (h : HoldsK ptC 2 w b o L.toArray) : PtIn b o L w := fun j hj => by
  have h1 := (h (j * 2) (by rw [size_flatK]; simp; omega)).1
  have h2 := (h (j * 2 + 1) (by rw [size_flatK]; simp; omega)).1
  rw [get_flatK _ _ _ _ (by simp; omega)] at h1 h2
  rw [show j * 2 / 2 = j by omega, show j * 2 % 2 = 0 by omega] at h1
  rw [show (j * 2 + 1) / 2 = j by omega, show (j * 2 + 1) % 2 = 1 by omega] at h2
  have e : L.toArray[j]! = L[j]! := by simp
  rw [e] at h1 h2
  exact ⟨h1, h2⟩
theorem PtIn.stays {b o : Nat} {L : List (Int × Int)} {w w' : World} (h : PtIn b o L w) (hc : Chg (fun _ _ => False) w w') : PtIn b o L w' := fun j hj => ⟨cell_of_chg hc (fun h => h) (h j hj).1, cell_of_chg hc (fun h => h) (h j hj).2⟩

set_option maxHeartbeats 4000000 in
set_option maxRecDepth 100000 in
set_option cbv.maxSteps 100000000 in
theorem keep1_ok (b o m c i b3 o3 b7 o7 : Nat) (p : Option Addr) (kh : Int) (L : List (Int × Int)) (w : World) (hp : p = some ⟨b, o, none⟩) (hm : L.length = m) (hi : i < m) (hbig : m < 4611686018427387904) (hL : PtIn b o L w)
    (h3 : w.cell? ⟨b3, o3, none⟩ = some (.slice p m c)) (h7 : w.cell? ⟨b7, o7, none⟩ = some (.int .u64 kh)) :
    Calls Try.prog 43 #[.int .i64 i, .pointer (some ⟨b3, o3, none⟩), .pointer (some ⟨b7, o7, none⟩)] w fun e w' => e = .returned (.bool (decide (kh ≤ L[i]!.1))) ∧ Chg (fun _ _ => False) w w' := by
  obtain ⟨h, hh⟩ : ∃ h, h = L[i]!.1 := ⟨_, rfl⟩
  rw [← hh]
  refine X.begin (rg := []) (N := []) (ss := [.int .i64 (.nat i), .ext b3 o3 0, .ext b7 o7 0]) Try.func43 rfl B43_ok rfl rfl Sat.std0 ?_
  obtain ⟨oi, hoi⟩ : ∃ q, q = o + i * 2 := ⟨_, rfl⟩
  have e3 : elsewhere [] [] w b3 (o3 + 0) = some (.slice p m c) := by rw [els_old]; exact h3
  have e7 : elsewhere [] [] w b7 (o7 + 0) = some (.int .u64 kh) := by rw [els_old]; exact h7
  have ei : elsewhere [] [] w b (oi + 0) = some (.int .u64 h) := by rw [els_old, hoi, hh]; exact (hL i (by omega)).1
  refine X.goP ([(5, .slv p m c), (7, .ext b oi 0), (9, .int .u64 (.v h)), (10, .int .u64 (.v kh))]) T43_ok 400 _ rfl Try.results43 (fun pr fin hpr hfin => ?_)
  conv => cbv
  refine ⟨hpr _ (ValOk.im1 rfl Try.isAgg33 (fun _ => rfl) fun _ => e7), hpr _ (ValOk.im1 rfl Try.isAgg33 (fun _ => rfl) fun _ => ei), hpr _ (ValOk.at (z := i) rfl rfl (fun _ => rfl) Try.underlying27 Try.sizeOf52 (fun _ => hi) hp hoi), hpr _ (ValOk.im1 rfl Try.isAgg27 (fun _ => rfl) fun _ => e3), hfin _ _ ?_⟩
  refine X.done T43_ok rfl (fun N w' v hN hS hv => ⟨fin_bool hv ?_, hS.chg.mono fun k o _ h => inR_nil h⟩)
  simp only [SB.den, SI.den]
  exact decide_eq_decide.2 Iff.rfl

/-- how many points lie below a place -/
def atP (L : List (Int × Int)) (kh : Int) : Nat := (List.range L.length).countP fun i => !decide (kh ≤ L[i]!.1)
theorem atP_le (L : List (Int × Int)) (kh : Int) : atP L kh ≤ L.length := by
  have := List.countP_le_length (p := fun i => !decide (kh ≤ L[i]!.1)) (l := List.range L.length)
  simpa [atP] using this
def Rise (L : List (Int × Int)) : Prop := ∀ a b, a ≤ b → b < L.length → L[a]!.1 ≤ L[b]!.1

theorem search_ok (b o m c b3 o3 b7 o7 : Nat) (p : Option Addr) (kh : Int) (L : List (Int × Int)) (w : World) (hp : 0 < m → p = some ⟨b, o, none⟩) (hm : L.length = m) (hbig : m < 4611686018427387904) (hL : PtIn b o L w) (hR : Rise L)
    (h3 : w.cell? ⟨b3, o3, none⟩ = some (.slice p m c)) (h7 : w.cell? ⟨b7, o7, none⟩ = some (.int .u64 kh)) :
    Calls Try.prog 42 #[.int .i64 m, .func (.func 43) #[] #[.pointer (some ⟨b3, o3, none⟩), .pointer (some ⟨b7, o7, none⟩)]] w fun e w' => e = .returned (.int .i64 (atP L kh)) ∧ Chg (fun _ _ => False) w w' := by
  have key := Any.sort_Search Try.searchL 43 #[.pointer (some ⟨b3, o3, none⟩), .pointer (some ⟨b7, o7, none⟩)] m (fun i => decide (kh ≤ L[i]!.1)) w (enters_of Try.func43 (by kernel_rfl) rfl) hbig (fun q os i hi => by
    have hc : Chg (fun _ _ => False) w (Go.Sort.grow (w.drewN q) os) := (Chg.drewN q).trans (chg_grow _ os) fun _ _ _ h => h
    exact (keep1_ok b o m c i b3 o3 b7 o7 p kh L _ (hp (by omega)) hm hi hbig (hL.stays hc) (cell_of_chg hc (fun h => h) h3) (cell_of_chg hc (fun h => h) h7)).mono fun _ _ ⟨h1, h2⟩ => ⟨h1, h2.grown⟩) (fun a b hab hb ha => by
    have := hR a b hab (by omega)
    have ha : kh ≤ L[a]!.1 := of_decide_eq_true ha
    exact decide_eq_true (by omega))
  refine Calls.mono key fun e w' ⟨he, q, os, hw⟩ => ⟨?_, ?_⟩
  · rw [he, atP, hm]
  · rw [hw]
    exact (Chg.drewN q).trans (chg_grow _ os) fun _ _ _ h => h

end Go.Proofs.Ythaffebapmkppaa

namespace Go.Proofs.Ythaffebapmkppaa
open Go Go.Eng Go.Sort

/-- the keepers that a walk along the ring finds -/
def keepGo (R : Nat → Int) (many : Int) : Nat → Nat → List Int → List Int
  | 0, _, out => out
  | k + 1, i, out => if many ≤ out.length then out else keepGo R many k (i + 1) (if R i ∈ out then out else out ++ [R i])
def nodeAt (L : List (Int × Int)) (s i : Nat) : Int := L[(s + i) % L.length]!.2
def keepL (L : List (Int × Int)) (key many : Int) : List Int := keepGo (nodeAt L (atP L (keyZ key))) many L.length 0 []

/-- bytes that are new -/
def BytRet (l : List Int) (w : World) (e : Ending) (w' : World) : Prop :=
  ∃ p c, e = .returned (.slice p l.length c) ∧ l.length ≤ c ∧ (l = [] ∧ p = none ∧ c = 0 ∨ l ≠ [] ∧ ∃ b o, p = some ⟨b, o, none⟩ ∧ w.heap.size ≤ b ∧ AtA w' b o l.toArray) ∧ Chg (fun _ _ => False) w w'

def bytL (l : List Int) : List SV := l.map fun x => .int .u8 (.v x)
def outV (l : List Int) : SV := match l with | [] => .raw (.slice none 0 0) | _ :: _ => .osl 3 0 l.length 1 none
def outR (l : List Int) : List Rg := match l with | [] => [] | _ :: _ => [⟨true, bytL l, none⟩]
theorem outV_pos {l : List Int} (h : l ≠ []) : outV l = .osl 3 0 l.length 1 none := by cases l with | nil => exact absurd rfl h | cons => rfl
theorem outR_pos {l : List Int} (h : l ≠ []) : outR l = [⟨true, bytL l, none⟩] := by cases l with | nil => exact absurd rfl h | cons => rfl
theorem bytL_bd {l : List Int} {m : Nat} : (bytL l).all (bd m) = true := List.all_eq_true.2 fun c hc => by
  obtain ⟨x, _, rfl⟩ := List.mem_map.1 hc; rfl
theorem bytL_den {l : List Int} {c : SV} {N N' : Nums} {v : Value} (h : c ∈ bytL l) (hv : c.den N = some v) : c.den N' = some v := by
  obtain ⟨x, _, rfl⟩ := List.mem_map.1 h; exact hv
theorem bytL_len (l : List Int) : (bytL l).length = l.length := by simp [bytL]

def hadB (l : List Int) (x : Nat) : Bool := decide ((x : Int) ∈ l)
def hadL (l : List Int) : List SV := (List.range 256).map fun x => .bool (.v (hadB l x))
theorem hadL_len (l : List Int) : (hadL l).length = 256 := by simp [hadL]
theorem hadL_at (l : List Int) {x : Nat} (h : x < 256) : (hadL l)[x]? = some (.bool (.v (hadB l x))) := by simp [hadL, h]
theorem hadL_get {l : List Int} {x : Nat} {c : SV} (h : (hadL l)[x]? = some c) : x < 256 ∧ c = .bool (.v (hadB l x)) := by
  have hx : x < 256 := by
    have := (List.getElem?_eq_some_iff.1 h).1
    rwa [hadL_len] at this
  rw [hadL_at l hx] at h
  exact ⟨hx, (Option.some.inj h).symm⟩
theorem hadL_bd {l : List Int} {m : Nat} : (hadL l).all (bd m) = true := List.all_eq_true.2 fun c hc => by
  obtain ⟨x, _, rfl⟩ := List.mem_map.1 hc; rfl
theorem hadL_den {l : List Int} {c : SV} {N N' : Nums} {v : Value} (h : c ∈ hadL l) (hv : c.den N = some v) : c.den N' = some v := by
  obtain ⟨x, _, rfl⟩ := List.mem_map.1 h; exact hv

/-- what the walk has come to -/
structure KG (m : Nat) (R : Nat → Int) (many : Int) (F : List Int) (i : Nat) (out : List Int) : Prop where
  le : i ≤ m
  go : keepGo R many (m - i) i out = F
  len : out.length ≤ i

set_option maxHeartbeats 8000000 in
set_option maxRecDepth 100000 in
set_option cbv.maxSteps 100000000 in
theorem keepers_ok (b o m c : Nat) (p : Option Addr) (L : List (Int × Int)) (key many : Int) (w : World) (hp : 0 < m → p = some ⟨b, o, none⟩) (hm : L.length = m) (hle : m ≤ 8000) (hL : PtIn b o L w) (hR : Rise L) (hN : ∀ x ∈ L, 0 ≤ x.2 ∧ x.2 < 256) :
    Calls Try.prog 14 #[.slice p m c, .int .u8 key, .int .i64 many] w (BytRet (keepL L key many) w) := by
  obtain ⟨kh, hkh⟩ : ∃ k, k = keyZ key := ⟨_, rfl⟩
  obtain ⟨s0, hs0⟩ : ∃ s, s = atP L kh := ⟨_, rfl⟩
  have hs0m : s0 ≤ m := by rw [hs0, ← hm]; exact atP_le L kh
  obtain ⟨R, hRR⟩ : ∃ R, R = nodeAt L s0 := ⟨_, rfl⟩
  obtain ⟨F, hF⟩ : ∃ F, F = keepL L key many := ⟨_, rfl⟩
  have hFg : keepGo R many m 0 [] = F := by rw [hF, keepL, ← hkh, ← hs0, ← hRR, hm]
  rw [← hF]
  refine X.begin (rg := []) (N := []) (ss := [.slv p m c, .int .u8 (.v key), .int .i64 (.v many)]) Try.func14 rfl B14_ok rfl rfl Sat.std0 ?_
  obtain ⟨im, him⟩ : ∃ im, im = elsewhere [] [] w := ⟨_, rfl⟩
  show X (mkE Try.prog Try.f14 (BytRet F w) w (InR [] []) (elsewhere [] [] w) (fun _ _ => False) (fun _ => True) [] B14) _ _
  rw [← him]
  refine X.goP ([(14, .int .u64 (.v kh))]) T14_ok 400 _ rfl Try.results14 (fun pr fin hpr hfin => ?_)
  conv => cbv
  refine ⟨hpr _ (.of Try.call41 [.int .u8 key] (.int .u64 kh) (fun _ => rfl) (fun _ => rfl) fun _ w1 _ => by rw [hkh]; exact key_ok key w1), hfin _ _ ?_⟩
  refine X.call rfl rfl rfl rfl Try.call42 (fun N w1 args hN1 hS ha => ?_)
  obtain ⟨q3, hq3⟩ : ∃ p, N[0]? = some p := ⟨_, List.getElem?_eq_getElem (by rw [hS.len]; simp)⟩
  obtain ⟨q7, hq7⟩ : ∃ p, N[1]? = some p := ⟨_, List.getElem?_eq_getElem (by rw [hS.len]; simp)⟩
  obtain ⟨_, e3, c3⟩ := hS.cell 0 _ q3 rfl hq3 0 _ rfl
  obtain ⟨_, e7, c7⟩ := hS.cell 1 _ q7 rfl hq7 0 _ rfl
  simp only [SV.den, SI.den, Option.some.injEq] at e3 e7
  subst e3 e7
  have ha : args = [.int .i64 m, .func (.func 43) #[] #[.pointer (some ⟨q3.b, q3.o + 0, none⟩), .pointer (some ⟨q7.b, q7.o + 0, none⟩)]] := by
    simp only [SV.denL, SV.den, SI.den, hq3, hq7] at ha
    exact (Option.some.inj ha).symm
  rw [ha]
  refine (search_ok b o m c _ _ _ _ p kh L w1 hp hm (by omega) (hL.stays hS.chg.none) hR c3 c7).mono fun e w2 ⟨he, hch⟩ => ⟨_, he, ?_⟩
  rw [← hs0]
  refine Goes.same hN1 hS hch (r := .int .i64 (.nat s0)) rfl rfl ?_
  clear ha c3 c7 hq3 hq7 hS hN1
  refine X.go T14_ok 400 _ rfl Try.results14 ?_
  conv => arg 2; cbv
  refine X.recell 2 ⟨true, List.replicate 256 (.bool (.lit false)), none⟩ (hadL []) rfl (by rw [hadL_len]; rfl) (fun N _ j c c' h1 h2 v hv => ?_) ?_
  · obtain ⟨_, rfl⟩ := hadL_get h2
    have : c = .bool (.lit false) := by
      have := List.mem_of_getElem? h1
      simpa using (List.mem_replicate.1 this).2
    subst this
    rw [← hv]
    simp [SV.den, SB.den, hadB]
  show X (mkE Try.prog Try.f14 (BytRet F w) w (InR [] []) im (fun _ _ => False) (fun _ => True) [] B14) _ ⟨_, [⟨true, [.slv p m c], none⟩, ⟨true, [.int .u64 (.v kh)], none⟩, ⟨true, hadL [], none⟩]⟩
  refine X.loop (fun _ : {g : Nat × List Int // KG m R many F g.1 g.2} => mkE Try.prog Try.f14 (BytRet F w) w (InR [] []) im (fun _ _ => False) (fun _ => True) [] B14)
    (fun g => ⟨[(2, .val (.int .i64 (.v many))), (3, .val (.own 0 0)), (8, .val (.int .i64 (.nat s0))), (9, .val (.own 2 0)), (10, .val (outV g.1.2)), (20, .val (.int .i64 (.nat m))), (21, .val (.int .i64 (.nat g.1.1)))], ⟨true, [.slv p m c], none⟩ :: ⟨true, [.int .u64 (.v kh)], none⟩ :: ⟨true, hadL g.1.2, none⟩ :: outR g.1.2⟩) (fun g => m - g.1.1) (fun _ => ⟨rfl, rfl, rfl, rfl⟩) (fun N ac w' hN hf hS => ⟨⟨(0, []), ⟨Nat.zero_le _, hFg, Nat.le_refl _⟩⟩, ?_⟩) (fun g q hq => ?_)
  · show At (mkE Try.prog Try.f14 (BytRet F w) w (InR [] []) im (fun _ _ => False) (fun _ => True) [] B14) ⟨[(2, .val (.int .i64 (.v many))), (3, .val (.own 0 0)), (8, .val (.int .i64 (.nat s0))), (9, .val (.own 2 0)), (10, .val (.raw (.slice none 0 0))), (20, .val (.int .i64 (.nat m))), (21, .val (.int .i64 (.nat 0)))], [⟨true, [.slv p m c], none⟩, ⟨true, [.int .u64 (.v kh)], none⟩, ⟨true, hadL [], none⟩]⟩ ac w'
    exact At.again hf hS (by repeat first | exact trivial | refine ⟨⟨_, rfl, .inl ⟨rfl, rfl⟩⟩, ?_⟩ | refine ⟨⟨_, rfl, .inr ⟨_, rfl, rfl⟩⟩, ?_⟩ | refine ⟨⟨_, rfl, .inr ⟨_, rfl, by simp (disch := omega) [SV.den, SI.den, wrapU, wrapD] <;> omega⟩⟩, ?_⟩) ⟨fun h => h, SubC.refl rfl, rfl, fun h => h, SubC.refl rfl, rfl, fun h => h, SubC.refl hadL_bd, rfl, trivial⟩
  obtain ⟨⟨i, l⟩, him1, hgo, hlen⟩ := g
  simp only at him1 hgo hlen
  show X (mkE Try.prog Try.f14 (BytRet F w) w (InR [] []) im (fun _ _ => False) (fun _ => True) [] B14) _ ⟨[(2, .val (.int .i64 (.v many))), (3, .val (.own 0 0)), (8, .val (.int .i64 (.nat s0))), (9, .val (.own 2 0)), (10, .val (outV l)), (20, .val (.int .i64 (.nat m))), (21, .val (.int .i64 (.nat i)))], ⟨true, [.slv p m c], none⟩ :: ⟨true, [.int .u64 (.v kh)], none⟩ :: ⟨true, hadL l, none⟩ :: outR l⟩
  obtain ⟨hd, hhd⟩ : ∃ h, h = hadL l := ⟨_, rfl⟩
  have hbd : ∀ m, hd.all (bd m) = true := fun m => by rw [hhd]; exact hadL_bd
  rw [← hhd]
  by_cases hz : l = []
  · skip
    rw [hz] at hhd hgo hlen ⊢
    show X (mkE Try.prog Try.f14 (BytRet F w) w (InR [] []) im (fun _ _ => False) (fun _ => True) [] B14) _ ⟨[(2, .val (.int .i64 (.v many))), (3, .val (.own 0 0)), (8, .val (.int .i64 (.nat s0))), (9, .val (.own 2 0)), (10, .val (.raw (.slice none 0 0))), (20, .val (.int .i64 (.nat m))), (21, .val (.int .i64 (.nat i)))], [⟨true, [.slv p m c], none⟩, ⟨true, [.int .u64 (.v kh)], none⟩, ⟨true, hd, none⟩]⟩
    refine X.go T14_ok 400 _ rfl Try.results14 ?_
    conv => arg 2; cbv
    refine X.cond rfl (fun hlt => ?_) (fun hge => ?_)
    · simp only [SB.T, SI.den] at hlt
      have hlt : i < m := by omega
      have hmi : m - i = (m - (i + 1)) + 1 := by omega
      rw [hmi, keepGo] at hgo
      refine X.go T14_ok 400 _ rfl Try.results14 ?_
      conv => arg 2; cbv
      refine X.cond rfl (fun hfull => ?_) (fun hroom => ?_)
      · simp only [SB.T, SI.den] at hfull
        have hfull : many ≤ (0 : Int) := hfull
        refine X.go T14_ok 400 _ rfl Try.results14 ?_
        conv => arg 2; cbv
        have hFl : F = [] := by rw [if_pos (by simpa using hfull)] at hgo; exact hgo.symm
        refine X.done T14_ok rfl (fun N w' v hN hS hv => ?_)
        simp [resV, SV.den, one?] at hv
        exact ⟨none, 0, by rw [← hv, hFl]; rfl, by rw [hFl]; exact Nat.le_refl _, .inl ⟨hFl, rfl, rfl⟩, hS.chg.none⟩
      · simp only [SB.F, SI.den] at hroom
        have hroom : ¬ many ≤ (0 : Int) := fun h => absurd h (by have hr := hroom; simpa using hr)
        rw [if_neg (by simpa using hroom)] at hgo
        obtain ⟨z, hz1⟩ : ∃ z, z = (s0 + i) % m := ⟨_, rfl⟩
        have hzm : z < m := by rw [hz1]; exact Nat.mod_lt _ (by omega)
        obtain ⟨oz, hoz⟩ : ∃ q, q = o + z * 2 := ⟨_, rfl⟩
        have hRi : R i = L[z]!.2 := by rw [hRR, nodeAt, hm, hz1]
        obtain ⟨x, hx⟩ : ∃ x, x = R i := ⟨_, rfl⟩
        obtain ⟨xz, hxz, hx256⟩ : ∃ y : Nat, x = (y : Int) ∧ y < 256 := by
          have hmem : L[z]! ∈ L := by rw [getElem!_pos L z (by omega)]; exact List.getElem_mem _
          have := hN _ hmem
          exact ⟨x.toNat, by omega, by omega⟩
        rw [← hx] at hgo
        have hix : im b (oz + 1) = some (.int .u8 x) := by rw [him, els_old, hoz, hx, hRi]; exact (hL z (by omega)).2
        obtain ⟨t, ht⟩ : ∃ t, t = hadB [] xz := ⟨_, rfl⟩
        have hdx : hd[xz]? = some (.bool (.v t)) := by rw [hhd, ht]; exact hadL_at _ hx256
        refine X.goP ([(34, .int .i64 (.nat z)), (35, .ext b oz 0), (37, .int .u8 (.v x)), (39, .own 2 xz), (40, .bool (.v t))]) T14_ok 400 _ rfl Try.results14 (fun pr fin hpr hfin => ?_)
        conv => cbv
        refine ⟨hpr _ (vk_load1 rfl Try.isAgg4 rfl hdx), hpr _ (vk_arr (z := xz) rfl rfl (fun _ => hxz) Try.underlying58 Try.sizeOf4 hx256 (by omega) (Nat.lt_of_sub_eq_succ rfl)), hpr _ (ValOk.im1 rfl Try.isAgg5 (fun _ => rfl) fun _ => hix), hpr _ (ValOk.at (z := z) rfl rfl (fun _ => rfl) Try.underlying27 Try.sizeOf52 (fun _ => hzm) (hp (by omega)) hoz), hpr _ (vk_rem rfl rfl (fun _ => by simp (disch := omega) only [SI.den, wrapN]; exact ⟨by omega, by rw [hz1]; rfl⟩)), hfin _ _ ?_⟩
        refine X.cond rfl (fun hnew => ?_) (fun hold => ?_)
        · simp only [SB.T, SB.F] at hnew
          have htf : t = false := by simpa using hnew
          have hnm : ¬ x ∈ ([] : List Int) := by simp
          rw [if_neg hnm] at hgo
          refine X.goP ([(43, .own 2 xz)]) T14_ok 4 _ rfl Try.results14 (fun pr fin hpr hfin => ?_)
          conv => cbv
          refine ⟨hpr _ (vk_arr (z := xz) rfl rfl (fun _ => hxz) Try.underlying58 Try.sizeOf4 hx256 (by omega) (Nat.lt_of_sub_eq_succ rfl)), hfin _ _ ?_⟩
          have hdl : hd.length = 256 := by rw [hhd]; exact hadL_len _
          refine X.opEq T14_ok (oe_store (v := .bool (.lit true)) (g := ⟨true, hd, none⟩) (cs' := setRow hd xz [.bool (.lit true)]) rfl rfl rfl rfl rfl rfl rfl rfl rfl rfl (by show xz + 1 ≤ hd.length; omega) rfl rfl) ?_
          refine X.recell 2 ⟨true, setRow hd xz [.bool (.lit true)], none⟩ (hadL ([] ++ [x])) rfl (by rw [hadL_len, setRow_length _ _ _ (by omega)]; simp; omega) (fun N _ j c c' h1 h2 v hv => ?_) ?_
          · obtain ⟨hj, rfl⟩ := hadL_get h2
            simp only at h1
            rw [setRow_at _ _ _ _ (by simp; omega)] at h1
            by_cases e : j = xz
            · subst e
              rw [if_pos (by simp), Nat.sub_self] at h1
              obtain rfl : c = .bool (.lit true) := (Option.some.inj h1).symm
              rw [← hv]
              simp [SV.den, SB.den, hadB, hxz]
            · rw [if_neg (by simp; omega), hhd, hadL_at _ hj] at h1
              obtain rfl := (Option.some.inj h1).symm
              have hne : ¬ (j : Int) = x := by omega
              rw [← hv]
              simp [SV.den, SB.den, hadB, hne]
          obtain ⟨hd2, hhd2⟩ : ∃ h, h = hadL ([] ++ [x]) := ⟨_, rfl⟩
          rw [← hhd2]
          have hbd2 : ∀ m, hd2.all (bd m) = true := fun m => by rw [hhd2]; exact hadL_bd
          show X (mkE Try.prog Try.f14 (BytRet F w) w (InR [] []) im (fun _ _ => False) (fun _ => True) [] B14) _ ⟨_, [⟨true, [.slv p m c], none⟩, ⟨true, [.int .u64 (.v kh)], none⟩, ⟨true, hd2, none⟩]⟩
          refine X.go T14_ok 5 _ rfl Try.results14 ?_
          conv => arg 2; cbv
          refine X.opEq (T := T14) T14_ok (opE_append (te := ti5) (new := [.int .u8 (.v x)]) (m := 1) rfl rfl rfl rfl rfl rfl rfl rfl (appSrc_row (g := ⟨true, [.int .u8 (.v x)], none⟩) rfl rfl rfl rfl) (appV_nil (by decide) (appOk_ok (by decide) rfl rfl rfl (by decide) (by decide))) rfl) ?_
          refine X.go T14_ok 400 _ rfl Try.results14 ?_
          conv => arg 2; cbv
          refine X.less [2, 3, 8, 9, 10, 20, 21] ?_
          refine X.dropAt rfl [(21, .val (.int .i64 (.wrap .i64 (.add (.nat i) (.lit 1))))), (10, .val (.osl 3 0 1 1 none)), (2, .val (.int .i64 (.v many))), (3, .val (.own 0 0)), (8, .val (.int .i64 (.nat s0))), (9, .val (.own 2 0)), (20, .val (.int .i64 (.nat m)))] [⟨true, [.slv p m c], none⟩, ⟨true, [.int .u64 (.v kh)], none⟩, ⟨true, hd2, none⟩] (rB := [⟨true, [.int .u8 (.v x)], none⟩]) (fun A x B hA => by obtain ⟨a1, a2, a3, rfl⟩ := len3 hA; exact ⟨rfl, fun _ h => h, rfl, fun _ h => h, rfl, fun _ h => h, rfl, fun _ h => h, rfl, fun _ h => h, rfl, fun _ h => h, rfl, fun _ h => h, trivial⟩) (fun g hg c hc N N' v hv => ?_) (fun g hg => ?_) ?_
          · simp only [List.cons_append, List.nil_append, List.mem_cons, List.not_mem_nil, or_false] at hg
            rcases hg with rfl | rfl | rfl | rfl
            · obtain rfl : c = .slv p m _ := List.mem_singleton.1 hc
              exact hv
            · obtain rfl : c = .int .u64 (.v kh) := List.mem_singleton.1 hc
              exact hv
            · exact hadL_den (by rw [← hhd2]; exact hc) hv
            · exact bytL_den (l := [x]) hc hv
          · simp only [List.cons_append, List.nil_append, List.mem_cons, List.not_mem_nil, or_false] at hg
            rcases hg with rfl | rfl | rfl | rfl <;> rfl
          refine X.back (fun N ac w' hN hf hS => hq ⟨(i + 1, [] ++ [x]), ⟨by simp only; omega, hgo, by simp only [List.length_append, List.length_singleton]; simp⟩⟩ ac w' (by simp only; omega) ?_)
          show At (mkE Try.prog Try.f14 (BytRet F w) w (InR [] []) im (fun _ _ => False) (fun _ => True) [] B14) ⟨[(2, .val (.int .i64 (.v many))), (3, .val (.own 0 0)), (8, .val (.int .i64 (.nat s0))), (9, .val (.own 2 0)), (10, .val (outV ([] ++ [x]))), (20, .val (.int .i64 (.nat m))), (21, .val (.int .i64 (.nat (i + 1))))], ⟨true, [.slv p m c], none⟩ :: ⟨true, [.int .u64 (.v kh)], none⟩ :: ⟨true, hadL ([] ++ [x]), none⟩ :: outR ([] ++ [x])⟩ ac w'
          rw [← hhd2]
          exact At.again hf hS (by repeat first | exact trivial | refine ⟨⟨_, rfl, .inl ⟨rfl, rfl⟩⟩, ?_⟩ | refine ⟨⟨_, rfl, .inr ⟨_, rfl, rfl⟩⟩, ?_⟩ | refine ⟨⟨_, rfl, .inr ⟨_, rfl, by simp (disch := omega) [SV.den, SI.den, wrapU, wrapD] <;> omega⟩⟩, ?_⟩) ⟨fun h => h, SubC.refl rfl, rfl, fun h => h, SubC.refl rfl, rfl, fun h => h, SubC.refl (hbd2 _), rfl, fun h => h, SubC.refl rfl, rfl, trivial⟩
        · simp only [SB.T, SB.F] at hold
          have htt : t = true := by simpa using hold
          have hmem : x ∈ ([] : List Int) := by rw [htt] at ht; rw [hxz]; simpa [hadB] using ht.symm
          exact absurd hmem (by simp)
    · simp only [SB.F, SI.den] at hge
      have hie : m - i = 0 := by omega
      refine X.go T14_ok 400 _ rfl Try.results14 ?_
      conv => arg 2; cbv
      have hFl : F = [] := by rw [hie, keepGo] at hgo; exact hgo.symm
      refine X.done T14_ok rfl (fun N w' v hN hS hv => ?_)
      simp [resV, SV.den, one?] at hv
      exact ⟨none, 0, by rw [← hv, hFl]; rfl, by rw [hFl]; exact Nat.le_refl _, .inl ⟨hFl, rfl, rfl⟩, hS.chg.none⟩
  · skip
    rw [outV_pos hz, outR_pos hz]
    obtain ⟨cs, hcs⟩ : ∃ c, c = bytL l := ⟨_, rfl⟩
    obtain ⟨ll, hll⟩ : ∃ q, q = l.length := ⟨_, rfl⟩
    rw [← hcs, ← hll]
    rw [← hll] at hlen
    have hcl : cs.length = ll := by rw [hcs, bytL_len, hll]
    have hcb : ∀ m, cs.all (bd m) = true := fun m => by rw [hcs]; exact bytL_bd
    have hl0 : 0 < ll := by rw [hll]; exact List.length_pos_iff.2 hz
    refine X.go T14_ok 400 _ rfl Try.results14 ?_
    conv => arg 2; cbv
    refine X.cond rfl (fun hlt => ?_) (fun hge => ?_)
    · simp only [SB.T, SI.den] at hlt
      have hlt : i < m := by omega
      have hmi : m - i = (m - (i + 1)) + 1 := by omega
      rw [hmi, keepGo] at hgo
      refine X.go T14_ok 400 _ rfl Try.results14 ?_
      conv => arg 2; cbv
      refine X.cond rfl (fun hfull => ?_) (fun hroom => ?_)
      · simp only [SB.T, SI.den] at hfull
        have hfull : many ≤ (ll : Int) := hfull
        refine X.go T14_ok 400 _ rfl Try.results14 ?_
        conv => arg 2; cbv
        have hFl : F = l := by rw [if_pos (by omega)] at hgo; exact hgo.symm
        refine X.done T14_ok rfl (fun N w' v hN hS hv => ?_)
        obtain ⟨p4, hp4⟩ : ∃ p, N[3]? = some p := ⟨_, List.getElem?_eq_getElem (by rw [hS.len]; simp)⟩
        have hext := hS.ext 3 _ p4 rfl hp4 rfl
        simp only [hcl] at hext
        simp only [resV, SV.den, hp4, Num.cap, Option.some.injEq] at hv
        refine ⟨some ⟨p4.b, p4.o, none⟩, _, by rw [← hv, hFl, ← hll, Nat.add_zero], by rw [hFl, ← hll]; simpa using hext, .inr ⟨by rw [hFl]; exact hz, p4.b, p4.o, rfl, ?_, fun j hj => ?_⟩, hS.chg.none⟩
        · rcases hS.foot 3 _ p4 rfl hp4 rfl with h | h
          · exact h
          · exact absurd (h 0 (by omega)) (fun h => inR_nil h)
        · rw [hFl] at hj ⊢
          have hj : j < l.length := by simpa using hj
          obtain ⟨v0, h1, h2⟩ := hS.cell 3 _ p4 rfl hp4 j (.int .u8 (.v l[j]!)) (by show cs[j]? = _; rw [hcs]; simp [bytL, hj])
          simp only [SV.den, SI.den, Option.some.injEq] at h1
          subst h1
          exact ⟨by simpa using h2, (hS.room 3 _ p4 rfl hp4 rfl j (by omega)).2⟩
      · simp only [SB.F, SI.den] at hroom
        have hroom : ¬ many ≤ (ll : Int) := fun h => absurd h (by have hr := hroom; simpa using hr)
        rw [if_neg (by omega)] at hgo
        obtain ⟨z, hz1⟩ : ∃ z, z = (s0 + i) % m := ⟨_, rfl⟩
        have hzm : z < m := by rw [hz1]; exact Nat.mod_lt _ (by omega)
        obtain ⟨oz, hoz⟩ : ∃ q, q = o + z * 2 := ⟨_, rfl⟩
        have hRi : R i = L[z]!.2 := by rw [hRR, nodeAt, hm, hz1]
        obtain ⟨x, hx⟩ : ∃ x, x = R i := ⟨_, rfl⟩
        obtain ⟨xz, hxz, hx256⟩ : ∃ y : Nat, x = (y : Int) ∧ y < 256 := by
          have hmem : L[z]! ∈ L := by rw [getElem!_pos L z (by omega)]; exact List.getElem_mem _
          have := hN _ hmem
          exact ⟨x.toNat, by omega, by omega⟩
        rw [← hx] at hgo
        have hix : im b (oz + 1) = some (.int .u8 x) := by rw [him, els_old, hoz, hx, hRi]; exact (hL z (by omega)).2
        obtain ⟨t, ht⟩ : ∃ t, t = hadB l xz := ⟨_, rfl⟩
        have hdx : hd[xz]? = some (.bool (.v t)) := by rw [hhd, ht]; exact hadL_at _ hx256
        refine X.goP ([(34, .int .i64 (.nat z)), (35, .ext b oz 0), (37, .int .u8 (.v x)), (39, .own 2 xz), (40, .bool (.v t))]) T14_ok 400 _ rfl Try.results14 (fun pr fin hpr hfin => ?_)
        conv => cbv
        refine ⟨hpr _ (vk_load1 rfl Try.isAgg4 rfl hdx), hpr _ (vk_arr (z := xz) rfl rfl (fun _ => hxz) Try.underlying58 Try.sizeOf4 hx256 (by omega) (Nat.lt_of_sub_eq_succ rfl)), hpr _ (ValOk.im1 rfl Try.isAgg5 (fun _ => rfl) fun _ => hix), hpr _ (ValOk.at (z := z) rfl rfl (fun _ => rfl) Try.underlying27 Try.sizeOf52 (fun _ => hzm) (hp (by omega)) hoz), hpr _ (vk_rem rfl rfl (fun _ => by simp (disch := omega) only [SI.den, wrapN]; exact ⟨by omega, by rw [hz1]; rfl⟩)), hfin _ _ ?_⟩
        refine X.cond rfl (fun hnew => ?_) (fun hold => ?_)
        · simp only [SB.T, SB.F] at hnew
          have htf : t = false := by simpa using hnew
          have hnm : ¬ x ∈ (l : List Int) := by rw [htf] at ht; rw [hxz]; simpa [hadB] using ht.symm
          rw [if_neg hnm] at hgo
          refine X.goP ([(43, .own 2 xz)]) T14_ok 4 _ rfl Try.results14 (fun pr fin hpr hfin => ?_)
          conv => cbv
          refine ⟨hpr _ (vk_arr (z := xz) rfl rfl (fun _ => hxz) Try.underlying58 Try.sizeOf4 hx256 (by omega) (Nat.lt_of_sub_eq_succ rfl)), hfin _ _ ?_⟩
          have hdl : hd.length = 256 := by rw [hhd]; exact hadL_len _
          refine X.opEq T14_ok (oe_store (v := .bool (.lit true)) (g := ⟨true, hd, none⟩) (cs' := setRow hd xz [.bool (.lit true)]) rfl rfl rfl rfl rfl rfl rfl rfl rfl rfl (by show xz + 1 ≤ hd.length; omega) rfl rfl) ?_
          refine X.recell 2 ⟨true, setRow hd xz [.bool (.lit true)], none⟩ (hadL (l ++ [x])) rfl (by rw [hadL_len, setRow_length _ _ _ (by omega)]; simp; omega) (fun N _ j c c' h1 h2 v hv => ?_) ?_
          · obtain ⟨hj, rfl⟩ := hadL_get h2
            simp only at h1
            rw [setRow_at _ _ _ _ (by simp; omega)] at h1
            by_cases e : j = xz
            · subst e
              rw [if_pos (by simp), Nat.sub_self] at h1
              obtain rfl : c = .bool (.lit true) := (Option.some.inj h1).symm
              rw [← hv]
              simp [SV.den, SB.den, hadB, hxz]
            · rw [if_neg (by simp; omega), hhd, hadL_at _ hj] at h1
              obtain rfl := (Option.some.inj h1).symm
              have hne : ¬ (j : Int) = x := by omega
              rw [← hv]
              simp [SV.den, SB.den, hadB, hne]
          obtain ⟨hd2, hhd2⟩ : ∃ h, h = hadL (l ++ [x]) := ⟨_, rfl⟩
          rw [← hhd2]
          have hbd2 : ∀ m, hd2.all (bd m) = true := fun m => by rw [hhd2]; exact hadL_bd
          show X (mkE Try.prog Try.f14 (BytRet F w) w (InR [] []) im (fun _ _ => False) (fun _ => True) [] B14) _ ⟨_, [⟨true, [.slv p m c], none⟩, ⟨true, [.int .u64 (.v kh)], none⟩, ⟨true, hd2, none⟩, ⟨true, cs, none⟩]⟩
          refine X.go T14_ok 5 _ rfl Try.results14 ?_
          conv => arg 2; cbv
          refine X.opEq (T := T14) T14_ok (opE_append (te := ti5) (new := [.int .u8 (.v x)]) (m := 1) rfl rfl rfl rfl rfl rfl rfl rfl (appSrc_row (g := ⟨true, [.int .u8 (.v x)], none⟩) rfl rfl rfl rfl) (appV_hid (te := ti5) (cs := cs) rfl (by show cs.length = ll * 1; omega) (by decide) (appOk_ok (by decide) rfl rfl rfl (by show (2 * (ll + 1) + 256) * 1 ≤ _; omega) (by omega))) rfl) ?_
          obtain ⟨cs2, hcs2⟩ : ∃ c, c = cs ++ [.int .u8 (.v x)] := ⟨_, rfl⟩
          rw [← hcs2]
          have hc2 : cs2 = bytL (l ++ [x]) := by rw [hcs2, hcs]; simp [bytL]
          refine X.go T14_ok 400 _ rfl Try.results14 ?_
          conv => arg 2; cbv
          refine X.less [2, 3, 8, 9, 10, 20, 21] ?_
          refine X.dropAt rfl [(21, .val (.int .i64 (.wrap .i64 (.add (.nat i) (.lit 1))))), (10, .val (.osl 4 0 (ll + 1) 1 none)), (2, .val (.int .i64 (.v many))), (3, .val (.own 0 0)), (8, .val (.int .i64 (.nat s0))), (9, .val (.own 2 0)), (20, .val (.int .i64 (.nat m)))] [⟨true, [.slv p m c], none⟩, ⟨true, [.int .u64 (.v kh)], none⟩, ⟨true, hd2, none⟩] (rB := [⟨true, [.int .u8 (.v x)], none⟩, ⟨true, cs2, none⟩]) (fun A x B hA => by obtain ⟨a1, a2, a3, rfl⟩ := len3 hA; exact ⟨rfl, fun _ h => h, rfl, fun _ h => h, rfl, fun _ h => h, rfl, fun _ h => h, rfl, fun _ h => h, rfl, fun _ h => h, rfl, fun _ h => h, trivial⟩) (fun g hg c hc N N' v hv => ?_) (fun g hg => ?_) ?_
          · simp only [List.cons_append, List.nil_append, List.mem_cons, List.not_mem_nil, or_false] at hg
            rcases hg with rfl | rfl | rfl | rfl | rfl
            · obtain rfl : c = .slv p m _ := List.mem_singleton.1 hc
              exact hv
            · obtain rfl : c = .int .u64 (.v kh) := List.mem_singleton.1 hc
              exact hv
            · exact hadL_den (by rw [← hhd2]; exact hc) hv
            · exact bytL_den (l := [x]) hc hv
            · exact bytL_den (l := l ++ [x]) (by rw [← hc2]; exact hc) hv
          · simp only [List.cons_append, List.nil_append, List.mem_cons, List.not_mem_nil, or_false] at hg
            rcases hg with rfl | rfl | rfl | rfl | rfl <;> rfl
          refine X.dropAt rfl [(21, .val (.int .i64 (.wrap .i64 (.add (.nat i) (.lit 1))))), (10, .val (.osl 3 0 (ll + 1) 1 none)), (2, .val (.int .i64 (.v many))), (3, .val (.own 0 0)), (8, .val (.int .i64 (.nat s0))), (9, .val (.own 2 0)), (20, .val (.int .i64 (.nat m)))] [⟨true, [.slv p m c], none⟩, ⟨true, [.int .u64 (.v kh)], none⟩, ⟨true, hd2, none⟩] (rB := [⟨true, cs2, none⟩]) (fun A x B hA => by obtain ⟨a1, a2, a3, rfl⟩ := len3 hA; exact ⟨rfl, fun _ h => h, rfl, fun _ h => h, rfl, fun _ h => h, rfl, fun _ h => h, rfl, fun _ h => h, rfl, fun _ h => h, rfl, fun _ h => h, trivial⟩) (fun g hg c hc N N' v hv => ?_) (fun g hg => ?_) ?_
          · simp only [List.cons_append, List.nil_append, List.mem_cons, List.not_mem_nil, or_false] at hg
            rcases hg with rfl | rfl | rfl | rfl
            · obtain rfl : c = .slv p m _ := List.mem_singleton.1 hc
              exact hv
            · obtain rfl : c = .int .u64 (.v kh) := List.mem_singleton.1 hc
              exact hv
            · exact hadL_den (by rw [← hhd2]; exact hc) hv
            · exact bytL_den (l := l ++ [x]) (by rw [← hc2]; exact hc) hv
          · simp only [List.cons_append, List.nil_append, List.mem_cons, List.not_mem_nil, or_false] at hg
            rcases hg with rfl | rfl | rfl | rfl <;> rfl
          refine X.back (fun N ac w' hN hf hS => hq ⟨(i + 1, l ++ [x]), ⟨by simp only; omega, hgo, by simp only [List.length_append, List.length_singleton]; omega⟩⟩ ac w' (by simp only; omega) ?_)
          show At (mkE Try.prog Try.f14 (BytRet F w) w (InR [] []) im (fun _ _ => False) (fun _ => True) [] B14) ⟨[(2, .val (.int .i64 (.v many))), (3, .val (.own 0 0)), (8, .val (.int .i64 (.nat s0))), (9, .val (.own 2 0)), (10, .val (outV (l ++ [x]))), (20, .val (.int .i64 (.nat m))), (21, .val (.int .i64 (.nat (i + 1))))], ⟨true, [.slv p m c], none⟩ :: ⟨true, [.int .u64 (.v kh)], none⟩ :: ⟨true, hadL (l ++ [x]), none⟩ :: outR (l ++ [x])⟩ ac w'
          rw [outV_pos (by simp), outR_pos (by simp), ← hc2, ← hhd2, List.length_append, ← hll]
          have hcb2 : ∀ m, cs2.all (bd m) = true := fun m => by rw [hc2]; exact bytL_bd
          exact At.again hf hS (by repeat first | exact trivial | refine ⟨⟨_, rfl, .inl ⟨rfl, rfl⟩⟩, ?_⟩ | refine ⟨⟨_, rfl, .inr ⟨_, rfl, rfl⟩⟩, ?_⟩ | refine ⟨⟨_, rfl, .inr ⟨_, rfl, by simp (disch := omega) [SV.den, SI.den, wrapU, wrapD] <;> omega⟩⟩, ?_⟩) ⟨fun h => h, SubC.refl rfl, rfl, fun h => h, SubC.refl rfl, rfl, fun h => h, SubC.refl (hbd2 _), rfl, fun h => h, SubC.refl (hcb2 _), rfl, trivial⟩
        · simp only [SB.T, SB.F] at hold
          have htt : t = true := by simpa using hold
          have hmem : x ∈ (l : List Int) := by rw [htt] at ht; rw [hxz]; simpa [hadB] using ht.symm
          rw [if_pos hmem] at hgo
          refine X.go T14_ok 400 _ rfl Try.results14 ?_
          conv => arg 2; cbv
          refine X.back (fun N ac w' hN hf hS => hq ⟨(i + 1, l), ⟨by simp only; omega, hgo, by simp only; omega⟩⟩ ac w' (by simp only; omega) ?_)
          show At (mkE Try.prog Try.f14 (BytRet F w) w (InR [] []) im (fun _ _ => False) (fun _ => True) [] B14) ⟨[(2, .val (.int .i64 (.v many))), (3, .val (.own 0 0)), (8, .val (.int .i64 (.nat s0))), (9, .val (.own 2 0)), (10, .val (outV l)), (20, .val (.int .i64 (.nat m))), (21, .val (.int .i64 (.nat (i + 1))))], ⟨true, [.slv p m c], none⟩ :: ⟨true, [.int .u64 (.v kh)], none⟩ :: ⟨true, hadL l, none⟩ :: outR l⟩ ac w'
          rw [outV_pos hz, outR_pos hz, ← hcs, ← hll, ← hhd]
          exact At.again hf hS (by repeat first | exact trivial | refine ⟨⟨_, rfl, .inl ⟨rfl, rfl⟩⟩, ?_⟩ | refine ⟨⟨_, rfl, .inr ⟨_, rfl, rfl⟩⟩, ?_⟩ | refine ⟨⟨_, rfl, .inr ⟨_, rfl, by simp (disch := omega) [SV.den, SI.den, wrapU, wrapD] <;> omega⟩⟩, ?_⟩) ⟨fun h => h, SubC.refl rfl, rfl, fun h => h, SubC.refl rfl, rfl, fun h => h, SubC.refl (hbd _), rfl, fun h => h, SubC.refl (hcb _), rfl, trivial⟩
    · simp only [SB.F, SI.den] at hge
      have hie : m - i = 0 := by omega
      refine X.go T14_ok 400 _ rfl Try.results14 ?_
      conv => arg 2; cbv
      have hFl : F = l := by rw [hie, keepGo] at hgo; exact hgo.symm
      refine X.done T14_ok rfl (fun N w' v hN hS hv => ?_)
      obtain ⟨p4, hp4⟩ : ∃ p, N[3]? = some p := ⟨_, List.getElem?_eq_getElem (by rw [hS.len]; simp)⟩
      have hext := hS.ext 3 _ p4 rfl hp4 rfl
      simp only [hcl] at hext
      simp only [resV, SV.den, hp4, Num.cap, Option.some.injEq] at hv
      refine ⟨some ⟨p4.b, p4.o, none⟩, _, by rw [← hv, hFl, ← hll, Nat.add_zero], by rw [hFl, ← hll]; simpa using hext, .inr ⟨by rw [hFl]; exact hz, p4.b, p4.o, rfl, ?_, fun j hj => ?_⟩, hS.chg.none⟩
      · rcases hS.foot 3 _ p4 rfl hp4 rfl with h | h
        · exact h
        · exact absurd (h 0 (by omega)) (fun h => inR_nil h)
      · rw [hFl] at hj ⊢
        have hj : j < l.length := by simpa using hj
        obtain ⟨v0, h1, h2⟩ := hS.cell 3 _ p4 rfl hp4 j (.int .u8 (.v l[j]!)) (by show cs[j]? = _; rw [hcs]; simp [bytL, hj])
        simp only [SV.den, SI.den, Option.some.injEq] at h1
        subst h1
        exact ⟨by simpa using h2, (hS.room 3 _ p4 rfl hp4 rfl j (by omega)).2⟩

end Go.Proofs.Ythaffebapmkppaa

namespace Go.Proofs.Ythaffebapmkppaa
open Go Go.Eng Go.Sort

set_option maxHeartbeats 4000000 in
set_option maxRecDepth 100000 in
set_option cbv.maxSteps 100000000 in
theorem pdq8_nil (k : Nat) (w : World) : Calls Try.prog 58 #[.slice none 0 0, .int .i64 0, .int .i64 0, .int .i64 k] w fun e w' => e = .returned (.tuple #[]) ∧ Chg (fun _ _ => False) w w' := by
  refine X.begin (rg := []) (N := []) (ss := [.raw (.slice none 0 0), .int .i64 (.lit 0), .int .i64 (.lit 0), .int .i64 (.nat k)]) Try.func58 rfl B58_ok rfl rfl Sat.std0 ?_
  refine X.goC FALL_ok true T58_ok 4000 _ rfl Try.results58 ?_
  conv => arg 2; cbv
  refine X.done T58_ok rfl (fun N w' v hN hS hv => ?_)
  simp only [resV, SV.den, SV.denL, Option.some.injEq] at hv
  exact ⟨by rw [← hv], hS.chg.none⟩

set_option maxHeartbeats 4000000 in
set_option maxRecDepth 100000 in
set_option cbv.maxSteps 100000000 in
theorem sort8_nil (w : World) : Calls Try.prog 35 #[.slice none 0 0] w fun e w' => e = .returned (.tuple #[]) ∧ Chg (fun _ _ => False) w w' := by
  refine X.begin (rg := []) (N := []) (ss := [.raw (.slice none 0 0)]) Try.func35 rfl B35_ok rfl rfl Sat.std0 ?_
  refine X.go T35_ok 400 _ rfl Try.results35 ?_
  conv => arg 2; cbv
  refine X.call rfl rfl rfl rfl Try.call59 (fun N w1 args hN hS ha => ?_)
  have ha : args = [.int .u64 ((0 : Nat) : Int)] := (Option.some.inj ha).symm
  rw [ha]
  refine Calls.mono (len_ok 0 (by omega) w1) fun e w' ⟨k, hk, he, hw⟩ => ⟨_, he, ?_⟩
  subst hw
  refine Goes.same hN hS (Chg.refl _ _) (r := .int .i64 (.nat k)) rfl rfl ?_
  refine X.go T35_ok 400 _ rfl Try.results35 ?_
  conv => arg 2; cbv
  refine X.call rfl rfl rfl rfl Try.call58 (fun N w1 args hN hS ha => ?_)
  have ha : args = [.slice none 0 0, .int .i64 0, .int .i64 0, .int .i64 k] := (Option.some.inj ha).symm
  rw [ha]
  refine (pdq8_nil k w1).mono fun e w2 ⟨he, hc⟩ => ⟨_, he, Goes.same hN hS hc (r := .tup []) rfl rfl ?_⟩
  refine X.go T35_ok 400 _ rfl Try.results35 ?_
  conv => arg 2; cbv
  refine X.over T35_ok rfl (fun N w' v hN hS hv => ?_)
  simp only [resV, SV.den, SV.denL, Option.some.injEq] at hv
  exact ⟨by rw [← hv], hS.chg.none⟩

set_option maxHeartbeats 4000000 in
set_option maxRecDepth 100000 in
set_option cbv.maxSteps 100000000 in
theorem build_nil (cp : Nat) (w : World) : Calls Try.prog 13 #[.slice none 0 cp] w (PtsRet [] w) := by
  refine X.begin (rg := []) (N := []) (ss := [.slv none 0 cp]) Try.func13 rfl B13_ok rfl rfl Sat.std0 ?_
  refine X.go T13_ok 400 _ rfl Try.results13 ?_
  conv => arg 2; cbv
  refine X.call rfl rfl rfl rfl Try.call36 (fun N w1 args hN hS ha => ?_)
  have ha : args = [.slice none 0 cp] := (Option.some.inj ha).symm
  rw [ha]
  refine (clone8_nil cp w1).mono fun e w2 ⟨he, hc⟩ => ⟨_, he, Goes.same hN hS hc (r := .raw (.slice none 0 0)) rfl rfl ?_⟩
  refine X.go T13_ok 400 _ rfl Try.results13 ?_
  conv => arg 2; cbv
  refine X.call rfl rfl rfl rfl Try.call35 (fun N w1 args hN hS ha => ?_)
  have ha : args = [.slice none 0 0] := (Option.some.inj ha).symm
  rw [ha]
  refine (sort8_nil w1).mono fun e w2 ⟨he, hc⟩ => ⟨_, he, Goes.same hN hS hc (r := .tup []) rfl rfl ?_⟩
  refine X.goC FALL_ok true T13_ok 4000 _ rfl Try.results13 ?_
  conv => arg 2; cbv
  refine X.call rfl rfl rfl rfl Try.call39 (fun N w1 args hN hS ha => ?_)
  have ha : args = [.slice none 0 0, .func (.func 40) #[] #[]] := (Option.some.inj ha).symm
  rw [ha]
  have key := AnyF.slices_SortFunc_none (P := Try.prog) { Try.sortL with } none 0 (.func (.func 40) #[] #[]) w1
  refine Calls.mono key fun e w2 ⟨he, hw⟩ => ⟨_, he, ?_⟩
  subst hw
  refine Goes.same hN hS (Chg.refl _ _) (r := .tup []) rfl rfl ?_
  refine X.go T13_ok 400 _ rfl Try.results13 ?_
  conv => arg 2; cbv
  refine X.done T13_ok rfl (fun N w' v hN hS hv => ?_)
  simp [resV, SV.den, one?] at hv
  exact ⟨none, 0, by rw [← hv]; rfl, .inl rfl, hS.chg.none⟩

end Go.Proofs.Ythaffebapmkppaa

namespace Go.Proofs.Ythaffebapmkppaa
open Go Go.Eng Go.Sort

theorem ringP_nil : ringP #[] = [] := by simp [ringP, ringU, ascA, srtA, Go.Lib.compactUpTo]

theorem build_ok (po : Option Addr) (n cp : Nat) (d : Array Int) (w : World) (hle : n ≤ 1000) (hA : InB po n d w) :
    Calls Try.prog 13 #[.slice po n cp] w (PtsRet (ringP d) w) := by
  cases po with
  | none =>
    have h0 : n = 0 := by
      rcases Nat.eq_zero_or_pos n with h | h
      · exact h
      · obtain ⟨b, y, h1, _⟩ := hA.2 h
        cases h1
    subst h0
    have : d = #[] := Array.size_eq_zero_iff.1 hA.1
    subst this
    rw [ringP_nil]
    exact build_nil cp w
  | some a => exact build_pos (some a) n cp d w (by simp) hle hA

theorem ringP_perm (d : Array Int) : (ringP d).Perm (ringU (ascA d)) := List.mergeSort_perm _ _
theorem ringP_len (d : Array Int) : (ringP d).length ≤ 8 * d.size := by
  rw [(ringP_perm d).length_eq, ← ringTo_all, ringTo_len _ _ (Nat.le_refl _)]
  have := ascA_size d
  omega
theorem srtA_perm (d : Array Int) : (srtA d).toList.Perm d.toList := by
  show (d.toList.mergeSort _).Perm _
  exact List.mergeSort_perm _ _
theorem ascA_mem {d : Array Int} {x : Int} (h : x ∈ (ascA d).toList) : x ∈ d.toList := by
  simp only [ascA, Go.Lib.compactUpTo, List.mem_map, List.mem_filter, List.mem_range] at h
  obtain ⟨k, ⟨hk, _⟩, rfl⟩ := h
  refine (srtA_perm d).mem_iff.1 ?_
  have hk' : k < (srtA d).size := by rw [srtA_size]; exact hk
  rw [getElem!_pos _ k hk']
  exact Array.getElem_mem_toList hk'
theorem ringP_node {d : Array Int} {y : Int × Int} (h : y ∈ ringP d) : y.2 ∈ d.toList := by
  have h := (ringP_perm d).mem_iff.1 h
  obtain ⟨n, hn, h⟩ := List.mem_flatMap.1 h
  obtain ⟨v, _, rfl⟩ := List.mem_map.1 h
  exact ascA_mem hn
theorem ringP_byte {d : Array Int} (hd : ∀ x ∈ d.toList, 0 ≤ x ∧ x < 256) : ∀ y ∈ ringP d, 0 ≤ y.2 ∧ y.2 < 256 := fun _ hy => hd _ (ringP_node hy)
theorem ringP_rise (d : Array Int) : Rise (ringP d) := fun a b hab hb => by
  have hs : (ringP d).Pairwise (fun x y => (!ltOf cfP y x) = true) := List.pairwise_mergeSort (fun x y z h1 h2 => by
    simp only [ltP, Bool.not_eq_true', decide_eq_false_iff_not] at h1 h2 ⊢
    omega) (fun x y => by
    simp only [ltP, Bool.or_eq_true, Bool.not_eq_true', decide_eq_false_iff_not]
    omega) _
  rcases Nat.lt_or_ge a b with h | h
  · have := List.pairwise_iff_getElem.1 hs a b (by omega) hb h
    rw [getElem!_pos _ a (by omega), getElem!_pos _ b hb]
    simp only [ltP, Bool.not_eq_true', decide_eq_false_iff_not] at this
    omega
  · have : a = b := by omega
    subst this
    exact Int.le_refl _

theorem im_new {E : Env} {N : Nums} {rg : List Rg} {w : World} (h : Sat E N rg w) {k o : Nat} (hk : w.heap.size ≤ k) : E.im k o = none := by
  cases hv : E.im k o with
  | none => rfl
  | some v =>
    have := h.imm k o v hv
    simp [World.cell?, Array.getElem?_eq_none hk] at this

theorem keepGo_len (R : Nat → Int) (many : Int) : ∀ (k i : Nat) (out : List Int), (keepGo R many k i out).length ≤ out.length + k
  | 0, _, out => Nat.le_refl _
  | k + 1, i, out => by
    unfold keepGo
    split
    · omega
    · have := keepGo_len R many k (i + 1) (if R i ∈ out then out else out ++ [R i])
      have h2 : (if R i ∈ out then out else out ++ [R i]).length ≤ out.length + 1 := by split <;> simp
      omega
theorem keepL_len (L : List (Int × Int)) (key many : Int) : (keepL L key many).length ≤ L.length := by
  have := keepGo_len (nodeAt L (atP L (keyZ key))) many L.length 0 []
  simpa [keepL] using this

def ofL (d : Array Int) (key : Int) : List Int := (srtA (keepL (ringP d) key 3).toArray).toList

set_option maxHeartbeats 8000000 in
set_option maxRecDepth 100000 in
set_option cbv.maxSteps 100000000 in
theorem of_ok (po : Option Addr) (n cp : Nat) (d : Array Int) (key : Int) (w : World) (hle : n ≤ 1000) (hA : InB po n d w) (hd : ∀ x ∈ d.toList, 0 ≤ x ∧ x < 256) :
    Calls Try.prog 12 #[.slice po n cp, .int .u8 key] w (BytRet (ofL d key) w) := by
  obtain ⟨F, hF⟩ : ∃ F, F = ofL d key := ⟨_, rfl⟩
  rw [← hF]
  refine X.begin (rg := []) (N := []) (ss := [.slv po n cp, .int .u8 (.v key)]) Try.func12 rfl B12_ok rfl rfl Sat.std0 ?_
  refine X.go T12_ok 400 _ rfl Try.results12 ?_
  conv => arg 2; cbv
  refine X.call rfl rfl rfl rfl Try.call13 (fun N w1 args hN hS ha => ?_)
  have ha : args = [.slice po n cp] := (Option.some.inj ha).symm
  rw [ha]
  refine (build_ok po n cp d w1 hle (hA.stays hS.chg.none)).mono fun e w2 ⟨p, c, he, hr, hch⟩ => ⟨_, he, ?_⟩
  obtain ⟨L, hL⟩ : ∃ L, L = ringP d := ⟨_, rfl⟩
  obtain ⟨m, hm⟩ : ∃ m, m = L.length := ⟨_, rfl⟩
  have hm8 : m ≤ 8000 := by rw [hm, hL]; have := ringP_len d; have := hA.1; omega
  rw [← hL] at hr
  rw [← hL, ← hm]
  refine Goes.newMem hN hS hch (r := .slv p m c) rfl rfl (fun hold hnew => ?_)
  obtain ⟨im, him⟩ : ∃ im, im = imNew (elsewhere [] [] w) w1 w2 := ⟨_, rfl⟩
  have hpt : 0 < m → ∃ b o, p = some ⟨b, o, none⟩ ∧ ∀ j, j < L.length → im b (o + j * 2) = some (.int .u64 L[j]!.1) ∧ im b (o + j * 2 + 1) = some (.int .u8 L[j]!.2) := fun h0 => by
    rcases hr with h | ⟨b, o, h1, h2, h3⟩
    · rw [h] at hm; simp at hm; omega
    · refine ⟨b, o, h1, fun j hj => ?_⟩
      have := PtIn.of h3 j hj
      rw [him]
      exact ⟨hnew _ _ _ h2 this.1, hnew _ _ _ h2 this.2⟩
  show X (mkE Try.prog Try.f12 (BytRet F w) w (InR [] []) (imNew (elsewhere [] [] w) w1 w2) (fun _ _ => False) (fun _ => True) [] B12) _ _
  rw [← him]
  clear him hold hnew hr hch he ha hS hN
  refine X.go T12_ok 400 _ rfl Try.results12 ?_
  conv => arg 2; cbv
  refine X.call rfl rfl rfl rfl Try.call14 (fun N w3 args hN hS ha => ?_)
  have ha : args = [.slice p m c, .int .u8 key, .int .i64 3] := (Option.some.inj ha).symm
  rw [ha]
  obtain ⟨b, o, hp, hpi⟩ : ∃ b o, (0 < m → p = some ⟨b, o, none⟩) ∧ PtIn b o L w3 := by
    rcases Nat.eq_zero_or_pos m with h | h
    · exact ⟨0, 0, fun h2 => by omega, fun j hj => by omega⟩
    · obtain ⟨b, o, h1, h2⟩ := hpt h
      exact ⟨b, o, fun _ => h1, fun j hj => ⟨hS.imm _ _ _ (h2 j hj).1, hS.imm _ _ _ (h2 j hj).2⟩⟩
  refine (keepers_ok b o m c p L key 3 w3 hp hm.symm hm8 hpi (by rw [hL]; exact ringP_rise d) (by rw [hL]; exact ringP_byte hd)).mono fun e w4 ⟨p2, c2, he, hc2, hr, hch⟩ => ⟨_, he, ?_⟩
  obtain ⟨out, hout⟩ : ∃ l, l = keepL L key 3 := ⟨_, rfl⟩
  obtain ⟨ll, hll⟩ : ∃ q, q = out.length := ⟨_, rfl⟩
  rw [← hout] at hr hc2
  rw [← hout, ← hll]
  have hFo : F = (srtA out.toArray).toList := by rw [hF, ofL, ← hL, ← hout]
  rcases hr with ⟨h1, h2, h3⟩ | ⟨hne, b2, o2, h1, h2, h3⟩
  · subst h2 h3
    have hl0 : ll = 0 := by rw [hll, h1]; rfl
    subst hl0
    have hFn : F = [] := by rw [hFo, h1]; simp [srtA]
    refine Goes.same hN hS hch (r := .raw (.slice none 0 0)) rfl rfl ?_
    refine X.go T12_ok 400 _ rfl Try.results12 ?_
    conv => arg 2; cbv
    refine X.call rfl rfl rfl rfl Try.call35 (fun N w5 args hN hS ha => ?_)
    have ha : args = [.slice none 0 0] := (Option.some.inj ha).symm
    rw [ha]
    refine (sort8_nil w5).mono fun e w6 ⟨he, hc⟩ => ⟨_, he, Goes.same hN hS hc (r := .tup []) rfl rfl ?_⟩
    refine X.go T12_ok 400 _ rfl Try.results12 ?_
    conv => arg 2; cbv
    refine X.done T12_ok rfl (fun N w' v hN hS hv => ?_)
    simp [resV, SV.den, one?] at hv
    exact ⟨none, 0, by rw [← hv, hFn]; rfl, by rw [hFn]; exact Nat.le_refl _, .inl ⟨hFn, rfl, rfl⟩, hS.chg.none⟩
  · have hsz : out.toArray.size = ll := by rw [hll]; simp
    have hbw : w.heap.size ≤ b2 := Nat.le_trans hS.chg.size h2
    have hdw : ∀ k o, arrD b2 o2 ll k o → w.heap.size ≤ k := fun k o ⟨e1, _, _⟩ => by rw [e1]; exact hbw
    have hdi : ∀ k o, arrD b2 o2 ll k o → im k o = none := fun k o ⟨e1, _, _⟩ => im_new hS (by rw [e1]; exact h2)
    refine Goes.turn (r := .slv p2 ll c2) (arrD b2 o2 ll) (fun w => AtA w b2 o2 out.toArray) hN hS hch (fun _ _ h => h.elim) (fun _ _ h => h.elim) (by simp) (fun k o hk => ⟨.inr (by obtain ⟨e1, e2, e3⟩ := hk; rw [e1]; exact h2), h3.there (by omega) hk⟩) (AtA.loc (by omega)) h3 rfl rfl ?_
    clear h3 hch he ha hS hN
    show X (mkE Try.prog Try.f12 (BytRet F w) w (InR [] []) im (arrD b2 o2 ll) (fun w => AtA w b2 o2 out.toArray) [] B12) _ _
    refine X.go T12_ok 400 _ rfl Try.results12 ?_
    conv => arg 2; cbv
    refine X.call rfl rfl rfl rfl Try.call35 (fun N w5 args hN hS ha => ?_)
    have ha : args = [.slice p2 ll c2] := (Option.some.inj ha).symm
    rw [ha, h1]
    have hll8 : ll ≤ 8000 := by have := keepL_len L key 3; rw [← hout] at this; omega
    refine (sort8_ok b2 o2 ll c2 out.toArray w5 hS.res hsz (by omega)).mono fun e w6 ⟨S, ⟨g1, g2⟩, he, hA1, hch⟩ => ⟨_, he, ?_⟩
    have hSr := srtA_of hsz g1 g2
    subst hSr
    have hsn : (srtA out.toArray).size = ll := by rw [srtA_size, hsz]
    refine Goes.turn (r := .tup []) (arrD b2 o2 ll) (fun w => AtA w b2 o2 (srtA out.toArray)) hN hS hch (fun k o h => .inl (hdw k o h)) hdi (by simp) (fun k o hk => ⟨.inl hk, hA1.there (by omega) hk⟩) (AtA.loc (by omega)) hA1 rfl rfl ?_
    clear hA1 hch he ha hS hN g1 g2
    show X (mkE Try.prog Try.f12 (BytRet F w) w (InR [] []) im (arrD b2 o2 ll) (fun w => AtA w b2 o2 (srtA out.toArray)) [] B12) _ _
    refine X.go T12_ok 400 _ rfl Try.results12 ?_
    conv => arg 2; cbv
    refine X.done T12_ok rfl (fun N w' v hN hS hv => ?_)
    simp only [resV, SV.den, Option.some.injEq] at hv
    have hFl : F.length = ll := by rw [hFo]; simpa using hsn
    exact ⟨some ⟨b2, o2, none⟩, c2, by rw [← hv, hFl], by rw [hFl, hll]; exact hc2, .inr ⟨fun h => hne (List.eq_nil_of_length_eq_zero (by rw [← hll, ← hFl, h]; rfl)), b2, o2, rfl, hbw, by rw [hFo]; exact hS.res⟩, hS.chg.none⟩

end Go.Proofs.Ythaffebapmkppaa

namespace Go.Proofs.Ythaffebapmkppaa
open Go Go.Eng Go.Sort

section
variable {E : Ctx}
theorem X.callG {all : Array Oper} {i : Nat} {rest : List Nat} {k : List It} {s : St} {o : Oper} {g : FuncId} {xs : Array Operand} {ts : Array TypeId} {l : List SV} (ho : nth all.toList i = some o) (hgd : gdOf all s.fr o = some .yes)
    (hop : o.op = .call { callee := .value (.func g), args := xs, argTypes := ts }) (hl : evL s.fr xs.toList = some l) (hb : ∀ args w, (callFunc g args).run E.P w = .ok (.enter g args) w)
    (h : ∀ (N : Nums) (w : World) (args : List Value), E.N0.le N → Sat E.toEnv N s.rg w → SV.denL N l = some args →
      Calls E.P g args.toArray w fun e w' => ∃ v, e = .returned v ∧ Goes E N (.ops all rest :: k) s.fr o.dst v w') : X E (.ops all (i :: rest) :: k) s := by
  intro N a w hN hfr hS
  show wpOps _ _ _ _ _ _
  have ho' : all[i]? = some o := by rw [nth_eq] at ho; simpa using ho
  have hw : Region.wanted o (yielded all a.tmps) = true := gdOf_sound hfr hgd
  simp only [wpOps, ho', hw, if_true]
  refine .inl ?_
  have hargs := evL_sound hfr _ hl
  have hc := h N w _ hN hS hargs
  have hrun : (execOp a.eval o).run E.P w = .ok (.enter g (xs.toList.map a.eval).toArray) w := by
    simp only [execOp, hop, resolve, Act.eval, Deferred.ofValue, Sem.run_bind, Sem.run_pure, Result.andThen, invoke]
    rw [hb]
    congr 2
    apply Array.ext'
    simp
  unfold Oper.wp
  rw [hrun]
  refine Calls.mono hc fun e w' ⟨v, he, E', N', r, rg', f', h1, h2, h3, hB, h4, h5, h6, h7, h8, h9⟩ => ?_
  subst he
  have := h9 N' (a.put o.dst v) w' h5 (by rw [h2]; exact putO_sound (hfr.mono h4) h7 h8) h6
  rw [h1, h3, hB] at this
  exact this
end

end Go.Proofs.Ythaffebapmkppaa

namespace Go.Eng

end Go.Eng

namespace Go.Proofs.Ythaffebapmkppaa
open Go Go.Eng Go.Sort

theorem appSrc_part {T : Tab} {rg : List Rg} {te ti : TI} {tx e r c n : Nat} {g : Rg} {k : Option Nat} (ht : lookT T tx = some ti) (hk : ti.kind = .slice e) (hr : nth rg r = some g) (hz : te.size = 1) (hcs : c + n ≤ g.cells.length) : appSrc T rg te (.osl r c n 1 k) tx = some ((g.cells.drop c).take n, n) := by
  have e2 : Nat.ble (c + n) g.cells.length = true := Nat.ble_eq_true_of_le hcs
  have e3 : Nat.beq 1 1 = true := rfl
  simp only [appSrc, ht, hk, srcV, hr, hz, Nat.mul_one, e2, e3, Bool.and_self, cond_true]

theorem appV_none {rg : List Rg} {te : TI} {r n : Nat} {cs : List SV} (hr : nth rg r = some ⟨true, cs, none⟩) (hcs : cs.length = n * te.size) (hok : appV.appOk te [] n 0 = true) :
    appV rg te (.osl r 0 n te.size none) [] 0 = some (.osl r 0 n te.size none, rg) := by
  have e2 : Nat.ble (0 + n * te.size) cs.length = true := by rw [hcs]; exact Nat.ble_eq_true_of_le (by omega)
  simp only [appV, hr, hok, e2, Nat.beq_refl, Bool.and_self, cond_true]

/-- a row that was made since, only read -/
theorem Sat.addRo {E : Env} {N : Nums} {rg : List Rg} {w : World} (h : Sat E N rg w) {b o x s0 : Nat} {cs : List SV} (hN : ∀ (r : Nat) (p : Num), N[r]? = some p → p.b < s0) (hs0 : s0 ≤ b) (hb : b < w.heap.size)
    (hcs : ∀ (j : Nat) (c : SV), cs[j]? = some c → ∃ v, c.den N = some v ∧ w.cell? ⟨b, o + j, none⟩ = some v) : Sat E (N ++ [⟨b, o, x⟩]) (rg ++ [⟨false, cs, none⟩]) w := by
  have hle : N.le (N ++ [⟨b, o, x⟩]) := Nums.le_append _ _
  refine ⟨by simp [h.len], ?_, ?_, ?_, ?_, ?_, ?_, ?_, h.imm, ?_, ?_, h.dlt, h.loc, h.res, h.chg, ?_⟩
  · intro i q hq
    rcases Nat.lt_or_ge i N.length with hi | hi
    · rw [List.getElem?_append_left hi] at hq; exact h.lt i q hq
    · rw [List.getElem?_append_right hi] at hq
      have hz : i - N.length = 0 := by
        have := (List.getElem?_eq_some_iff.1 hq).1
        simp at this; omega
      rw [hz] at hq; simp at hq; subst hq; exact hb
  · intro i g q hg hq j d hj
    rcases get_snoc h.len hg hq with ⟨a, b⟩ | ⟨_, rfl, rfl⟩
    · obtain ⟨v, h1, h2⟩ := h.cell i g q a b j d hj
      exact ⟨v, SV.den_mono hle d h1, h2⟩
    · obtain ⟨v, h1, h2⟩ := hcs j d hj
      exact ⟨v, SV.den_mono hle d h1, h2⟩
  · intro i g q hg hq ho
    rcases get_snoc h.len hg hq with ⟨a, b⟩ | ⟨_, rfl, rfl⟩
    · exact h.ext i g q a b ho
    · cases ho
  · intro i g q hg hq ho
    rcases get_snoc h.len hg hq with ⟨a, b⟩ | ⟨_, rfl, rfl⟩
    · exact h.room i g q a b ho
    · cases ho
  · intro i i' g g' q q' hg hq hg' hq' ho hne j hj hb'
    rcases get_snoc h.len hg hq with ⟨a1, a2⟩ | ⟨a0, rfl, rfl⟩
    · rcases get_snoc h.len hg' hq' with ⟨b1, b2⟩ | ⟨b0, rfl, rfl⟩
      · exact h.disj i i' g g' q q' a1 a2 b1 b2 ho hne j hj hb'
      · have := hN i q a2; simp at hb'; omega
    · cases ho
  · intro i g q ob hg hq ho
    rcases get_snoc h.len hg hq with ⟨a, b⟩ | ⟨_, rfl, rfl⟩
    · obtain ⟨⟨o', k1, k2⟩, k3⟩ := h.obj i g q ob a b ho
      exact ⟨⟨o', Ob.den_mono hle ob k1, k2⟩, k3⟩
    · simp at ho
  · intro i i' g g' q q' hg hq hg' hq' ho ho' hne
    rcases get_snoc h.len hg hq with ⟨a1, a2⟩ | ⟨a0, rfl, rfl⟩
    · rcases get_snoc h.len hg' hq' with ⟨b1, b2⟩ | ⟨b0, rfl, rfl⟩
      · exact h.odisj i i' g g' q q' a1 a2 b1 b2 ho ho' hne
      · simp at ho'
    · simp at ho
  · intro i g q hg hq ho
    rcases get_snoc h.len hg hq with ⟨a, b⟩ | ⟨_, rfl, rfl⟩
    · exact h.imd i g q a b ho
    · cases ho
  · intro i g q hg hq ho
    rcases get_snoc h.len hg hq with ⟨a, b⟩ | ⟨_, rfl, rfl⟩
    · exact h.dd i g q a b ho
    · cases ho
  · intro i g q hg hq ho
    rcases get_snoc h.len hg hq with ⟨a, b⟩ | ⟨_, rfl, rfl⟩
    · exact h.foot i g q a b ho
    · cases ho

/-- a row that is new, to be read -/
def RoRet (cs : List SV) (n : Nat) (w : World) (e : Ending) (w' : World) : Prop :=
  ∃ b o c, e = .returned (.slice (some ⟨b, o, none⟩) n c) ∧ w.heap.size ≤ b ∧ b < w'.heap.size ∧ (∀ (j : Nat) (c : SV), cs[j]? = some c → ∃ v, (∀ N, c.den N = some v) ∧ w'.cell? ⟨b, o + j, none⟩ = some v) ∧ Chg (fun _ _ => False) w w'
theorem RoRet.sat {E : Env} {N : Nums} {rg : List Rg} {w w' : World} {cs : List SV} {n sz : Nat} {e : Ending} (hz : 0 < sz) (hf : RoRet cs n w e w') (h : Sat E N rg w) :
    ∃ N' v, e = .returned v ∧ N.le N' ∧ (SV.osl rg.length 0 n sz none).den N' = some v ∧ Sat E N' (rg ++ [⟨false, cs, none⟩]) w' := by
  obtain ⟨b, o, c, he, h1, h2, h3, hc⟩ := hf
  have hget : (N ++ [⟨b, o, sz * c⟩] : Nums)[rg.length]? = some ⟨b, o, sz * c⟩ := by rw [← h.len]; simp
  refine ⟨N ++ [⟨b, o, sz * c⟩], _, he, Nums.le_append _ _, by simp only [SV.den, hget, Num.cap, Nat.add_zero, Nat.sub_zero, Nat.mul_div_cancel_left _ hz], ?_⟩
  exact Sat.addRo (h.after0 hc) (s0 := w.heap.size) (fun r p hp => h.lt r p hp) h1 h2 (fun j c hj => by
    obtain ⟨v, k1, k2⟩ := h3 j c hj
    exact ⟨v, k1 N, k2⟩)

theorem PtsRet.ro {L : List (Int × Int)} {w : World} {e : Ending} {w' : World} (h : PtsRet L w e w') (hL : L ≠ []) : RoRet (ptsL L) L.length w e w' := by
  obtain ⟨p, c, he, hr, hc⟩ := h
  rcases hr with h | ⟨b, o, rfl, h2, h3⟩
  · exact absurd h hL
  · have h0 : 0 < L.length := List.length_pos_iff.2 hL
    refine ⟨b, o, c, he, h2, World.block_lt_of_cell? _ _ (h3 0 (by rw [size_flatK]; simp; omega)).1, fun j x hj => ?_, hc⟩
    have hj2 : j < L.length * 2 := by rw [← ptsL_len]; exact (List.getElem?_eq_some_iff.1 hj).1
    obtain ⟨x', k1, k2⟩ := ptsL_get L j hj2
    rw [hj] at k1
    cases k1
    exact ⟨_, k2, (h3 j (by rw [size_flatK]; simpa using hj2)).1⟩
theorem BytRet.ro {l : List Int} {w : World} {e : Ending} {w' : World} (h : BytRet l w e w') (hl : l ≠ []) : RoRet (bytL l) l.length w e w' := by
  obtain ⟨p, c, he, _, hr, hc⟩ := h
  rcases hr with ⟨h, _⟩ | ⟨_, b, o, rfl, h2, h3⟩
  · exact absurd h hl
  · have h0 : 0 < l.length := List.length_pos_iff.2 hl
    refine ⟨b, o, c, he, h2, World.block_lt_of_cell? _ _ (h3 0 (by simpa using h0)).1, fun j x hj => ?_, hc⟩
    have hj2 : j < l.length := by rw [← bytL_len]; exact (List.getElem?_eq_some_iff.1 hj).1
    obtain ⟨z, k1, rfl⟩ : ∃ z, l[j]? = some z ∧ x = .int .u8 (.v z) := by
      unfold bytL at hj
      rw [List.getElem?_map] at hj
      obtain ⟨z, k1, k2⟩ := Option.map_eq_some_iff.1 hj
      exact ⟨z, k1, k2.symm⟩
    refine ⟨_, fun _ => rfl, ?_⟩
    have := (h3 j (by simpa using hj2)).1
    rw [this]
    have hz : l[j] = z := by rw [List.getElem?_eq_getElem hj2] at k1; exact Option.some.inj k1
    simp [SI.den, hj2, hz]

theorem ascA_pos {d : Array Int} (h : 0 < d.size) : 0 < (ascA d).size := by
  have h0 : (0 : Nat) ∈ (List.range d.size).filter (Go.Lib.keeps (srtA d)) := List.mem_filter.2 ⟨List.mem_range.2 h, Go.Lib.keeps_lt_one _ 0 (by omega)⟩
  simp only [ascA, Go.Lib.compactUpTo, List.size_toArray, List.length_map]
  exact List.length_pos_of_mem h0
theorem ringP_pos {d : Array Int} (h : 0 < d.size) : ringP d ≠ [] := fun e => by
  have h1 := (ringP_perm d).length_eq
  rw [e, ← ringTo_all, ringTo_len _ _ (Nat.le_refl _)] at h1
  have := ascA_pos h
  simp at h1
  omega
theorem keepGo_ge (R : Nat → Int) (many : Int) : ∀ (k i : Nat) (out : List Int), out.length ≤ (keepGo R many k i out).length
  | 0, _, out => Nat.le_refl _
  | k + 1, i, out => by
    unfold keepGo
    split
    · exact Nat.le_refl _
    · have h1 := keepGo_ge R many k (i + 1) (if R i ∈ out then out else out ++ [R i])
      have h2 : out.length ≤ (if R i ∈ out then out else out ++ [R i]).length := by split <;> simp
      omega
theorem ofL_pos {d : Array Int} {key : Int} (h : 0 < d.size) : ofL d key ≠ [] := fun e => by
  have h1 : (keepL (ringP d) key 3).length = 0 := by
    have := congrArg List.length e
    simp only [ofL, Array.length_toList, srtA_size, List.size_toArray, List.length_nil] at this
    exact this
  have hL : 0 < (ringP d).length := List.length_pos_iff.2 (ringP_pos h)
  obtain ⟨q, hq⟩ : ∃ q, (ringP d).length = q + 1 := ⟨(ringP d).length - 1, by omega⟩
  unfold keepL at h1
  rw [hq, keepGo, if_neg (by simp), if_neg (by simp)] at h1
  have := keepGo_ge (nodeAt (ringP d) (atP (ringP d) (keyZ key))) 3 q (0 + 1) ([] ++ [nodeAt (ringP d) (atP (ringP d) (keyZ key)) 0])
  rw [h1] at this
  simp at this

end Go.Proofs.Ythaffebapmkppaa

namespace Go.Eng
open Go

mutual
/-- it speaks of no region but those below L, and not of r -/
def SV.frr (L r : Nat) : SV → Bool
  | .own q _ => Nat.blt q L && !(Nat.beq q r)
  | .osl q _ _ _ _ => Nat.blt q L && !(Nat.beq q r)
  | .mp q => Nat.blt q L && !(Nat.beq q r)
  | .ch q => Nat.blt q L && !(Nat.beq q r)
  | .agg cs => SV.frrL L r cs
  | .tup cs => SV.frrL L r cs
  | .fn _ cs => SV.frrL L r cs
  | _ => true
def SV.frrL (L r : Nat) : List SV → Bool
  | [] => true
  | c :: cs => c.frr L r && SV.frrL L r cs
end

theorem num_swap {N : Nums} {q : Num} {L r i : Nat} (hN : N.length = L) (h : (Nat.blt i L && !(Nat.beq i r)) = true) : (N ++ [q])[i]? = (N.set r q)[i]? := by
  simp only [Bool.and_eq_true, Bool.not_eq_true', Nat.blt_eq] at h
  obtain ⟨h1, h2⟩ := h
  have hne : ¬ i = r := fun e => by subst e; simp at h2
  rw [List.getElem?_append_left (by omega), List.getElem?_set_ne (fun e => hne e.symm)]

mutual
theorem SV.frr_den {N : Nums} {q : Num} {L r : Nat} (hN : N.length = L) : ∀ (s : SV), s.frr L r = true → s.den (N ++ [q]) = s.den (N.set r q)
  | .int _ _, _ => rfl
  | .bool _, _ => rfl
  | .own i c, h => by simp only [SV.den, num_swap hN h]
  | .ext _ _ _, _ => rfl
  | .sl _ _ _ _, _ => rfl
  | .slv _ _ _, _ => rfl
  | .raw _, _ => rfl
  | .big _, _ => rfl
  | .agg cs, h => by simp only [SV.den, SV.frrL_den hN cs h]
  | .tup cs, h => by simp only [SV.den, SV.frrL_den hN cs h]
  | .osl i c n z k, h => by simp only [SV.den, num_swap hN h]
  | .fn f cs, h => by simp only [SV.den, SV.frrL_den hN cs h]
  | .mp i, h => by simp only [SV.den, num_swap hN h]
  | .ch i, h => by simp only [SV.den, num_swap hN h]
theorem SV.frrL_den {N : Nums} {q : Num} {L r : Nat} (hN : N.length = L) : ∀ (s : List SV), SV.frrL L r s = true → SV.denL (N ++ [q]) s = SV.denL (N.set r q) s
  | [], _ => rfl
  | c :: cs, h => by
    simp only [SV.frrL, Bool.and_eq_true] at h
    simp only [SV.denL, SV.frr_den hN c h.1, SV.frrL_den hN cs h.2]
end
/-- that, as a sentence -/
def FrP (L r : Nat) : Fr → Prop
  | [] => True
  | (_, .val v) :: f => v.frr L r = true ∧ FrP L r f
  | _ => False
theorem FrP.sh {N : Nums} {q : Num} {L r : Nat} (hN : N.length = L) : ∀ {f : Fr}, FrP L r f → Sh (N ++ [q]) (N.set r q) f f
  | [], _ => trivial
  | (_, .val v) :: _, h => ⟨rfl, fun x hx => by rw [← SV.frr_den hN v h.1]; exact hx, FrP.sh hN h.2⟩
  | (_, .opt _ _ _) :: _, h => h.elim
  | (_, .dead) :: _, h => h.elim

/-- so do the cells of all regions but r -/
def RgF (L r : Nat) : Nat → List Rg → Prop
  | _, [] => True
  | j, g :: gs => (j = r ∨ g.cells.all (SV.frr L r) = true) ∧ RgF L r (j + 1) gs

theorem RgF.get {L r : Nat} : ∀ {gs : List Rg} {j i : Nat} {g : Rg}, RgF L r j gs → gs[i]? = some g → j + i ≠ r → g.cells.all (SV.frr L r) = true
  | [], _, _, _, _, h, _ => by simp at h
  | g0 :: gs, j, 0, g, h, hi, hne => by
    simp at hi
    subst hi
    exact h.1.resolve_left (by omega)
  | g0 :: gs, j, i + 1, g, h, hi, hne => RgF.get (j := j + 1) h.2 (by simpa using hi) (by omega)

/-- the last region takes the place of another one -/
theorem Sat.swap {E : Env} {N : Nums} {rg : List Rg} {w : World} {q : Num} {g0 g : Rg} {r : Nat} (h : Sat E (N ++ [q]) (rg ++ [g]) w) (hr : rg[r]? = some g0) (hc : RgF rg.length r 0 rg) (hg : g.cells.all (SV.frr rg.length r) = true)
    (ho : ∀ g' ∈ rg ++ [g], g'.ob = none) : Sat E (N.set r q) (rg.set r g) w := by
  have hN : N.length = rg.length := by have := h.len; simp at this; exact this
  have hrl : r < rg.length := (List.getElem?_eq_some_iff.1 hr).1
  have hl1 : (rg ++ [g])[rg.length]? = some g := by simp
  have hl2 : (N ++ [q])[rg.length]? = some q := by rw [← hN]; simp
  -- where a region stood
  have back : ∀ {i : Nat} {g' : Rg} {p : Num}, (rg.set r g)[i]? = some g' → (N.set r q)[i]? = some p → ∃ j, (rg ++ [g])[j]? = some g' ∧ (N ++ [q])[j]? = some p ∧ (i = r ∧ j = rg.length ∨ i ≠ r ∧ j = i ∧ i < rg.length) := fun {i g' p} h1 h2 => by
    by_cases e : i = r
    · subst e
      rw [List.getElem?_set_self hrl] at h1
      rw [List.getElem?_set_self (by omega)] at h2
      exact ⟨rg.length, by rw [hl1, h1], by rw [hl2, h2], .inl ⟨rfl, rfl⟩⟩
    · rw [List.getElem?_set_ne (fun h => e h.symm)] at h1 h2
      have hi := (List.getElem?_eq_some_iff.1 h1).1
      exact ⟨i, by rw [List.getElem?_append_left hi]; exact h1, by rw [List.getElem?_append_left (by omega)]; exact h2, .inr ⟨e, rfl, hi⟩⟩
  have free : ∀ {j : Nat} {g' : Rg} {i : Nat}, (rg ++ [g])[j]? = some g' → (i = r ∧ j = rg.length ∨ i ≠ r ∧ j = i ∧ i < rg.length) → g'.cells.all (SV.frr rg.length r) = true := fun {j g' i} h1 h2 => by
    rcases h2 with ⟨_, rfl⟩ | ⟨h2, rfl, h3⟩
    · rw [hl1] at h1; cases h1; exact hg
    · rw [List.getElem?_append_left h3] at h1
      exact hc.get h1 (by omega)
  have noob : ∀ {j : Nat} {g' : Rg}, (rg ++ [g])[j]? = some g' → g'.ob = none := fun h => ho _ (List.mem_of_getElem? h)
  exact { h with
    len := by simp [hN]
    lt := fun i p hp => by
      by_cases e : i = r
      · subst e
        rw [List.getElem?_set_self (by omega)] at hp
        cases hp
        exact h.lt _ _ hl2
      · rw [List.getElem?_set_ne (fun h => e h.symm)] at hp
        exact h.lt i p (by rw [List.getElem?_append_left (List.getElem?_eq_some_iff.1 hp).1]; exact hp)
    cell := fun i g' p h1 h2 j c hj => by
      obtain ⟨k, k1, k2, k3⟩ := back h1 h2
      obtain ⟨v, hv, hw⟩ := h.cell k g' p k1 k2 j c hj
      have := List.all_eq_true.1 (free k1 k3) c (List.mem_of_getElem? hj)
      exact ⟨v, by rw [← SV.frr_den hN c this]; exact hv, hw⟩
    ext := fun i g' p h1 h2 => by obtain ⟨k, k1, k2, _⟩ := back h1 h2; exact h.ext k g' p k1 k2
    room := fun i g' p h1 h2 => by obtain ⟨k, k1, k2, _⟩ := back h1 h2; exact h.room k g' p k1 k2
    disj := fun i i' g' g'' p p' h1 h2 h3 h4 hown hne => by
      obtain ⟨k, k1, k2, k3⟩ := back h1 h2
      obtain ⟨l, l1, l2, l3⟩ := back h3 h4
      exact h.disj k l g' g'' p p' k1 k2 l1 l2 hown (by omega)
    obj := fun i g' p ob h1 h2 h3 => by obtain ⟨k, k1, k2, _⟩ := back h1 h2; rw [noob k1] at h3; cases h3
    odisj := fun i i' g' g'' p p' h1 h2 h3 h4 h5 => by obtain ⟨k, k1, k2, _⟩ := back h1 h2; rw [noob k1] at h5; cases h5
    imd := fun i g' p h1 h2 => by obtain ⟨k, k1, k2, _⟩ := back h1 h2; exact h.imd k g' p k1 k2
    dd := fun i g' p h1 h2 => by obtain ⟨k, k1, k2, _⟩ := back h1 h2; exact h.dd k g' p k1 k2
    foot := fun i g' p h1 h2 => by obtain ⟨k, k1, k2, _⟩ := back h1 h2; exact h.foot k g' p k1 k2 }

section
variable {E : Ctx}
theorem X.swap {k : List It} (h0 : E.N0 = []) {d n z : Nat} {f : Fr} {rg : List Rg} {g0 g : Rg} (r : Nat) (hr : rg[r]? = some g0) (hc : RgF rg.length r 0 rg) (hg : g.cells.all (SV.frr rg.length r) = true) (ho : ∀ g' ∈ rg ++ [g], g'.ob = none) (hf : FrP rg.length r f)
    (h : X E k ⟨(d, .val (.osl r 0 n z none)) :: f, rg.set r g⟩) : X E k ⟨(d, .val (.osl rg.length 0 n z none)) :: f, rg ++ [g]⟩ := by
  refine X.conv fun N a w hN hfr hS => ?_
  have hlen := hS.len
  obtain ⟨M, q, rfl⟩ : ∃ M q, N = M ++ [q] := by
    rcases List.eq_nil_or_concat N with h | ⟨M, q, h⟩
    · subst h; simp at hlen
    · exact ⟨M, q, by rw [h]; simp⟩
  have hM : M.length = rg.length := by simpa using hlen
  have hrl : r < rg.length := (List.getElem?_eq_some_iff.1 hr).1
  refine ⟨E, ⟨(d, .val (.osl r 0 n z none)) :: f, rg.set r g⟩, rfl, rfl, rfl, rfl, ⟨M.set r q, by rw [h0]; exact nil_le _, hfr.sh ⟨rfl, fun x hx => ?_, FrP.sh hM hf⟩, hS.swap hr hc hg ho⟩, h⟩
  have e1 : (M ++ [q])[rg.length]? = some q := by rw [← hM]; simp
  have e2 : (M.set r q)[r]? = some q := List.getElem?_set_self (by omega)
  simp only [SV.den, e1] at hx
  simpa only [SV.den, e2] using hx

end

/-- a list that was nil at first -/
def gV (r n z : Nat) : SV := bif Nat.beq n 0 then .raw (.slice none 0 0) else .osl r 0 n z none
/-- .. that was a literal without elements at first -/
def eV (r n z : Nat) : SV := bif Nat.beq n 0 then .osl r 0 0 z (some 0) else .osl r 0 n z none

section
variable {E : Ctx}
/-- appended, in its place -/
theorem X.appG {T : Tab} (hT : TabOk E.P T) (h0 : E.N0 = []) (kp : List Nat) {all : Array Oper} {i : Nat} {rest : List Nat} {k : List It} {s : St} {o : Oper} {x y : Operand} {ts tx e m n d r : Nat} {ti te : TI} {sx sy : SV} {cs new : List SV} {f1 f2 : Fr} (ho : nth all.toList i = some o) (hg : sure all s.fr o = true)
    (hop : o.op = .call { callee := .builtin .append, args := #[x, y], argTypes := #[ts, tx] }) (hx : ev s.fr x = some sx) (hy : ev s.fr y = some sy) (hti : lookT T ts = some ti) (hk : ti.kind = .slice e) (hte : lookT T e = some te)
    (hsx : sx = gV r n te.size ∨ sx = eV r n te.size ∨ sx = .osl r 0 n te.size none) (hr : nth s.rg r = some ⟨true, cs, none⟩) (hcs : cs.length = n * te.size) (hm : m ≠ 0) (hsrc : appSrc T s.rg te sy tx = some (new, m)) (hok : appV.appOk te new n m = true)
    (hd : o.dst = some d) (hp : putO E.n s.fr (some d) (.val (.osl s.rg.length 0 (n + m) te.size none)) = some f1) (hf : f1.filter (fun p => kp.elem p.1) = (d, .val (.osl s.rg.length 0 (n + m) te.size none)) :: f2)
    (hfr : FrP s.rg.length r f2) (hcr : RgF s.rg.length r 0 s.rg) (hcn : (cs ++ new).all (SV.frr s.rg.length r) = true) (hob : s.rg.all (fun g => g.ob.isNone) = true)
    (h : X E (.ops all rest :: k) ⟨(d, .val (.osl r 0 (n + m) te.size none)) :: f2, s.rg.set r ⟨true, cs ++ new, none⟩⟩) : X E (.ops all (i :: rest) :: k) s := by
  have hr' : s.rg[r]? = some ⟨true, cs, none⟩ := by rw [← nth_eq]; exact hr
  have hrl : r < s.rg.length := (List.getElem?_eq_some_iff.1 hr').1
  have hnob : ∀ g' ∈ s.rg, g'.ob = none := fun g' hg' => by
    have := List.all_eq_true.1 hob g' hg'
    cases h : g'.ob with
    | none => rfl
    | some _ => rw [h] at this; cases this
  -- the last region of rg1, put in place r
  have fin : ∀ rg1 : List Rg, rg1.length = s.rg.length → (∀ g, rg1.set r g = s.rg.set r g) → (∃ g0, rg1[r]? = some g0) → RgF s.rg.length r 0 rg1 → (∀ g' ∈ rg1, g'.ob = none) → X E (.ops all rest :: k) ⟨f1, rg1 ++ [⟨true, cs ++ new, none⟩]⟩ := fun rg1 e1 e2 ⟨g0, e3⟩ e4 e5 => by
    refine X.less kp ?_
    simp only [hf]
    rw [← e1]
    refine X.swap h0 r e3 (by rw [e1]; exact e4) (by rw [e1]; exact hcn) (fun g' hg' => ?_) (by rw [e1]; exact hfr) (by rw [e2]; exact h)
    rcases List.mem_append.1 hg' with h | h
    · exact e5 g' h
    · rw [List.mem_singleton.1 h]
  have late : X E (.ops all rest :: k) ⟨f1, s.rg.set r ⟨false, [], none⟩ ++ [⟨true, cs ++ new, none⟩]⟩ := by
    refine fin (s.rg.set r ⟨false, [], none⟩) (by simp) (fun g => by simp) ⟨_, List.getElem?_set_self hrl⟩ ?_ (fun g' hg' => ?_)
    · have key : ∀ (gs : List Rg) (j i : Nat), RgF s.rg.length r j gs → j + i = r → RgF s.rg.length r j (gs.set i ⟨false, [], none⟩) := fun gs => by
        induction gs with
        | nil => intro j i h1 _; simpa using h1
        | cons g gs ih =>
          intro j i h1 h2
          cases i with
          | zero => exact ⟨.inl (by omega), h1.2⟩
          | succ i => exact ⟨h1.1, ih (j + 1) i h1.2 (by omega)⟩
      exact key s.rg 0 r hcr (by omega)
    · rcases List.mem_or_eq_of_mem_set hg' with h | h
      · exact hnob g' h
      · rw [h]
  by_cases hx3 : sx = .osl r 0 n te.size none
  · subst hx3
    exact X.opEq hT (opE_append ho hg hop hx hy hti hk hte hsrc (appV_hid hr hcs hm hok) (by rw [hd]; exact hp)) late
  have hsx : sx = gV r n te.size ∨ sx = eV r n te.size := by
    rcases hsx with h | h | h
    · exact .inl h
    · exact .inr h
    · exact absurd h hx3
  by_cases hn : n = 0
  · subst hn
    have hcs0 : cs = [] := List.eq_nil_of_length_eq_zero (by rw [hcs, Nat.zero_mul])
    have happ : appV s.rg te sx new m = some (.osl s.rg.length 0 (0 + m) te.size none, s.rg ++ [⟨true, cs ++ new, none⟩]) := by
      rw [hcs0, List.nil_append, Nat.zero_add]
      rcases hsx with rfl | rfl
      · exact appV_nil hm hok
      · exact appV_new hr hm hok
    refine X.opEq hT (opE_append ho hg hop hx hy hti hk hte hsrc happ (by rw [hd]; exact hp)) ?_
    exact fin s.rg rfl (fun _ => rfl) ⟨_, hr'⟩ hcr hnob
  · have hb : Nat.beq n 0 = false := by cases h : Nat.beq n 0 with | false => rfl | true => exact absurd (Nat.eq_of_beq_eq_true h) hn
    have hsx' : sx = .osl r 0 n te.size none := by
      rcases hsx with rfl | rfl
      · simp only [gV, hb, cond_false]
      · simp only [eV, hb, cond_false]
    subst hsx'
    refine X.opEq hT (opE_append ho hg hop hx hy hti hk hte hsrc (appV_hid hr hcs hm hok) (by rw [hd]; exact hp)) ?_
    exact late

end

theorem denL_cons {N : Nums} {c : SV} {cs : List SV} {l : List Value} (h : SV.denL N (c :: cs) = some l) : ∃ v l', l = v :: l' ∧ c.den N = some v ∧ SV.denL N cs = some l' := by
  simp only [SV.denL] at h
  split at h
  · rename_i v hv
    split at h
    · rename_i l' hl
      exact ⟨v, l', (Option.some.inj h).symm, hv, hl⟩
    · cases h
  · cases h
theorem denL_nil {N : Nums} {l : List Value} (h : SV.denL N [] = some l) : l = [] := by
  simp only [SV.denL] at h
  exact (Option.some.inj h).symm

/-- some of the regions are kept, in another order -/
theorem X.keep {E : Ctx} {k : List It} (h0 : E.N0 = []) (rs : List Nat) (hnd : rs.Nodup) {f : Fr} (f' : Fr) {rg : List Rg} (rg' : List Rg) (hl : rg'.length = rs.length) (hrg : ∀ (i r : Nat), rs[i]? = some r → rg'[i]? = rg[r]?)
    (hs : ∀ N N' : Nums, N.length = rg.length → N'.length = rs.length → (∀ (i r : Nat), rs[i]? = some r → N'[i]? = N[r]?) → Sh N N' f f') (hc : ∀ g ∈ rg', ∀ c ∈ g.cells, ∀ (N N' : Nums) (v : Value), c.den N = some v → c.den N' = some v) (hob : ∀ g ∈ rg', g.ob = none) (h : X E k ⟨f', rg'⟩) : X E k ⟨f, rg⟩ := by
  refine X.conv fun N a w hN hfr hS => ?_
  have hNl : N.length = rg.length := hS.len
  have hlt : ∀ (i r : Nat), rs[i]? = some r → r < rg.length := fun i r hi => by
    have h1 := hrg i r hi
    have hi2 : i < rg'.length := by rw [hl]; exact (List.getElem?_eq_some_iff.1 hi).1
    rw [List.getElem?_eq_getElem hi2] at h1
    exact (List.getElem?_eq_some_iff.1 h1.symm).1
  obtain ⟨N', hN', hget⟩ : ∃ N' : Nums, N'.length = rs.length ∧ ∀ (i r : Nat), rs[i]? = some r → N'[i]? = N[r]? := by
    refine ⟨rs.map fun r => N.getD r ⟨0, 0, 0⟩, by simp, fun i r hi => ?_⟩
    have hr := hlt i r hi
    simp [List.getElem?_map, hi, List.getElem?_eq_getElem (show r < N.length by omega)]
  have back : ∀ {i : Nat} {g : Rg} {p : Num}, rg'[i]? = some g → N'[i]? = some p → ∃ r, rs[i]? = some r ∧ rg[r]? = some g ∧ N[r]? = some p := fun {i g p} h1 h2 => by
    have hi : i < rs.length := by rw [← hl]; exact (List.getElem?_eq_some_iff.1 h1).1
    refine ⟨rs[i], List.getElem?_eq_getElem hi, ?_, ?_⟩
    · rw [← hrg i _ (List.getElem?_eq_getElem hi)]; exact h1
    · rw [← hget i _ (List.getElem?_eq_getElem hi)]; exact h2
  have noob : ∀ {i : Nat} {g : Rg}, rg'[i]? = some g → g.ob = none := fun h => hob _ (List.mem_of_getElem? h)
  refine ⟨E, ⟨f', rg'⟩, rfl, rfl, rfl, rfl, ⟨N', by rw [h0]; exact nil_le _, hfr.sh (hs N N' hNl hN' hget), ?_⟩, h⟩
  exact { hS with
    len := by rw [hN', hl]
    lt := fun i p hp => by
      have hi : i < rs.length := by rw [← hN']; exact (List.getElem?_eq_some_iff.1 hp).1
      rw [hget i _ (List.getElem?_eq_getElem hi)] at hp
      exact hS.lt _ p hp
    cell := fun i g p h1 h2 j c hj => by
      obtain ⟨r, _, k1, k2⟩ := back h1 h2
      obtain ⟨v, hv, hw⟩ := hS.cell r g p k1 k2 j c hj
      exact ⟨v, hc g (List.mem_of_getElem? h1) c (List.mem_of_getElem? hj) _ _ v hv, hw⟩
    ext := fun i g p h1 h2 => by obtain ⟨r, _, k1, k2⟩ := back h1 h2; exact hS.ext r g p k1 k2
    room := fun i g p h1 h2 => by obtain ⟨r, _, k1, k2⟩ := back h1 h2; exact hS.room r g p k1 k2
    disj := fun i i' g g' p p' h1 h2 h3 h4 hown hne => by
      obtain ⟨r, r1, k1, k2⟩ := back h1 h2
      obtain ⟨r', r2, l1, l2⟩ := back h3 h4
      refine hS.disj r r' g g' p p' k1 k2 l1 l2 hown fun e => hne ?_
      subst e
      exact (List.getElem?_inj (List.getElem?_eq_some_iff.1 r1).1 hnd).1 (by rw [r1, r2])
    obj := fun i g p ob h1 h2 h3 => by rw [noob h1] at h3; cases h3
    odisj := fun i i' g g' p p' h1 h2 h3 h4 h5 => by rw [noob h1] at h5; cases h5
    imd := fun i g p h1 h2 => by obtain ⟨r, _, k1, k2⟩ := back h1 h2; exact hS.imd r g p k1 k2
    dd := fun i g p h1 h2 => by obtain ⟨r, _, k1, k2⟩ := back h1 h2; exact hS.dd r g p k1 k2
    foot := fun i g p h1 h2 => by obtain ⟨r, _, k1, k2⟩ := back h1 h2; exact hS.foot r g p k1 k2 }

end Go.Eng

namespace Go.Proofs.Ythaffebapmkppaa
open Go Go.Eng

theorem wrap64 (z : Int) : IntKind.u64.wrap z = z % 18446744073709551616 := by
  simp [IntKind.wrap, IntKind.bits, IntKind.signed]
/-- a row of one's own, handed in -/
theorem inB_own {E : Env} {N : Nums} {rg : List Rg} {w : World} (hS : Sat E N rg w) {r n : Nat} {ow : Bool} {x : Array Int} {xs : List SV} {p : Num} (hg : rg[r]? = some ⟨ow, xs, none⟩) (hp : N[r]? = some p) (hn : x.size = n) (hx : ∀ j, j < n → ∃ e, xs[j]? = some (.int .u8 e) ∧ e.den = x[j]!) : InB (some ⟨p.b, p.o + 0, none⟩) n x w :=
  ⟨hn, fun _ => ⟨p.b, p.o, rfl, fun j hj => by
    obtain ⟨e, h1, h2⟩ := hx j (by omega)
    obtain ⟨v, h3, h4⟩ := hS.cell r _ p hg hp j _ h1
    simp only [SV.den, h2, Option.some.injEq] at h3
    rw [h4, ← h3]⟩⟩

end Go.Proofs.Ythaffebapmkppaa

namespace Go.Eng
open Go

/-- the orders that are gone through -/
inductive STree where
  | nil
  | q (i : Nat) (blk : List Nat) (r : STree)
  | one (i : Nat) (r : STree)
  | two (i j : Nat) (x y : STree)

def only2 (l : List Nat) (i j : Nat) : Bool := match l with
  | [a, b] => (Nat.beq a i && Nat.beq b j) || (Nat.beq a j && Nat.beq b i)
  | _ => false
theorem only2_spec {l : List Nat} {i j : Nat} (h : only2 l i j = true) : l = [i, j] ∨ l = [j, i] := by
  unfold only2 at h
  split at h
  · simp only [Bool.or_eq_true, Bool.and_eq_true] at h
    rcases h with ⟨h1, h2⟩ | ⟨h1, h2⟩
    · exact .inl (by rw [Nat.eq_of_beq_eq_true h1, Nat.eq_of_beq_eq_true h2])
    · exact .inr (by rw [Nat.eq_of_beq_eq_true h1, Nat.eq_of_beq_eq_true h2])
  · cases h

def treeOk (ops : Array Oper) : STree → Nat → Array Bool → Bool
  | .nil, m, L => Nat.beq m 0 && (Region.ready .any ops L).isEmpty
  | .q i blk r, m, L => match m with
    | 0 => false
    | m + 1 => (Region.ready .any ops L).contains i && Region.free .any ops L i && closedB ops i blk && withinB L ops.size blk && treeOk ops r m (L.setIfInBounds i true)
  | .one i r, m, L => match m with
    | 0 => false
    | m + 1 => only (Region.ready .any ops L) i && treeOk ops r m (L.setIfInBounds i true)
  | .two i j x y, m, L => match m with
    | 0 => false
    | m + 1 => only2 (Region.ready .any ops L) i j && treeOk ops x m (L.setIfInBounds i true) && treeOk ops y m (L.setIfInBounds j true)

def prL (pr : Owe → Prop) : List Owe → Prop → Prop
  | [], p => p
  | o :: os, p => pr o ∧ prL pr os p
theorem prL_spec {pr : Owe → Prop} : ∀ {os : List Owe} {p : Prop}, prL pr os p → (∀ q ∈ os, pr q) ∧ p
  | [], _, h => ⟨fun _ h => absurd h List.not_mem_nil, h⟩
  | o :: os, p, ⟨h1, h2⟩ => by
    obtain ⟨h3, h4⟩ := prL_spec h2
    exact ⟨fun q hq => by rcases List.mem_cons.1 hq with rfl | h; exact h1; exact h3 q h, h4⟩

/-- one operation, and what is behind it -/
def stepT (pr : Owe → Prop) (td : List (Nat × SV)) (T : Tab) (n : Nat) (all : Array Oper) (K : KW) (i : Nat) (c : St → Prop) (s : St) : Prop :=
  match qP td T n all s.rg i s.fr with
  | some (f, o) => prL pr o (c ⟨f, s.rg⟩)
  | none => match opE T n all i s with
    | some s' => (match stR s.fr all i with | some k => memN (lookK K i) k | none => true) = true ∧ c s'
    | none => match pcall td n all i s.fr with
      | some (f, gk, g, l, v) => pr (.call s.rg gk g l v) ∧ c ⟨f, s.rg⟩
      | none => False

end Go.Eng

namespace Go.Proofs.Ythaffebapmkppaa
open Go Go.Eng Go.Sort

/-- what is known becomes a region that is only read -/
theorem X.addRo {P : Program} {fn : Func} {Q : Ending → World → Prop} {W : World} {O D : Nat → Nat → Prop} {Rr : World → Prop} {im : Mem} {B : SchT} {k : List It} {f : Fr} (f' : Fr) (b y : Nat) {cs : List SV} (h0 : 0 < cs.length) (hc : ∀ (j : Nat) (c : SV), cs[j]? = some c → ∃ v, (∀ N, c.den N = some v) ∧ im b (y + j) = some v)
    (hs : Sh [] [⟨b, y, cs.length⟩] f f') (h : X (mkE P fn Q W O im D Rr [] B) k ⟨f', [⟨false, cs, none⟩]⟩) : X (mkE P fn Q W O im D Rr [] B) k ⟨f, []⟩ := by
  refine X.conv fun N a w hN hf hS => ?_
  have hN0 : N = [] := List.eq_nil_of_length_eq_zero hS.len
  subst hN0
  refine ⟨mkE P fn Q W O im D Rr [] B, ⟨f', [⟨false, cs, none⟩]⟩, rfl, rfl, rfl, rfl, ⟨[⟨b, y, cs.length⟩], nil_le _, hf.sh hs, ?_⟩, h⟩
  have own0 : ∀ {r : Nat} {g : Rg}, ([⟨false, cs, none⟩] : List Rg)[r]? = some g → g = ⟨false, cs, none⟩ := fun {r g} h => by
    match r, h with
    | 0, h => exact (Option.some.inj h).symm
  have num0 : ∀ {r : Nat} {q : Num}, ([⟨b, y, cs.length⟩] : Nums)[r]? = some q → q = ⟨b, y, cs.length⟩ := fun {r q} h => by
    match r, h with
    | 0, h => exact (Option.some.inj h).symm
  have cell : ∀ (j : Nat) (c : SV), cs[j]? = some c → ∃ v, c.den [⟨b, y, cs.length⟩] = some v ∧ w.cell? ⟨b, y + j, none⟩ = some v := fun j c hj => by
    obtain ⟨v, h1, h2⟩ := hc j c hj
    exact ⟨v, h1 _, hS.imm _ _ _ h2⟩
  exact { hS with
    len := rfl
    lt := fun r q hq => by
      rw [num0 hq]
      obtain ⟨v, _, h2⟩ := cell 0 _ (List.getElem?_eq_getElem h0)
      exact World.block_lt_of_cell? _ _ h2
    cell := fun r g q hg hq j c hj => by
      rw [num0 hq]
      rw [own0 hg] at hj
      exact cell j c hj
    ext := fun r g q hg hq ho => by rw [own0 hg] at ho; cases ho
    room := fun r g q hg hq ho => by rw [own0 hg] at ho; cases ho
    disj := fun r r' g g' q q' hg hq hg' hq' ho => by rw [own0 hg] at ho; cases ho
    obj := fun r g q ob hg hq ho => by rw [own0 hg] at ho; cases ho
    odisj := fun r r' g g' q q' hg hq hg' hq' ho => by rw [own0 hg] at ho; cases ho
    imd := fun r g q hg hq ho => by rw [own0 hg] at ho; cases ho
    dd := fun r g q hg hq ho => by rw [own0 hg] at ho; cases ho
    foot := fun r g q hg hq ho => by rw [own0 hg] at ho; cases ho }

theorem num_of {E : Env} {N : Nums} {rg : List Rg} {w : World} (hS : Sat E N rg w) {r : Nat} {g : Rg} (hg : rg[r]? = some g) : ∃ p, N[r]? = some p := ⟨_, List.getElem?_eq_getElem (by rw [hS.len]; exact (List.getElem?_eq_some_iff.1 hg).1)⟩

end Go.Proofs.Ythaffebapmkppaa

namespace Go.Proofs.Ythaffebapmkppaa
open Go Go.Eng Go.ChangeShapes Go.WideShapes Go.ChangeAt Go.RowKit

theorem byte_wf {z : Int} (h : (Lit.int .u8 z).wf = true) : 0 ≤ z ∧ z < 256 := by
  simp [Lit.wf, IntKind.min, IntKind.max, IntKind.bits, IntKind.signed] at h
  omega

set_option maxRecDepth 100000 in
theorem kinds_u8 : kindsOf Try.prog 8 5 = some [.int .u8] := by kernel_rfl
set_option maxRecDepth 100000 in
theorem cells_u8 : Try.prog.cellsOf 5 = 1 := by kernel_rfl

theorem rd_cells {W : World} {b y e : Nat} {ks : List CK} (h : RdAt Try.prog W 0 b y e) (hk : kindsOf Try.prog 8 e = some ks) : ∃ cs, CellsOk Try.prog W 0 ks cs ∧ ∀ (j : Nat) (v : Value), cs[j]? = some v → W.cell? ⟨b, y + j, none⟩ = some v := by
  obtain ⟨_, cs, _, h2, h3⟩ := h
  exact ⟨cs, kindsOf_sound 8 e ks cs hk h3, h2⟩

theorem bytes_of {W : World} {v : Value} (h : CellOk Try.prog W 0 (.slice 5) v) : ∃ po n cp d, v = .slice po n cp ∧ InB po n d W ∧ n ≤ cp ∧ ∀ x ∈ d.toList, 0 ≤ x ∧ x < 256 := by
  obtain ⟨po, n, cp, rfl, hc, _, hr⟩ := h
  by_cases h0 : n = 0
  · subst h0
    exact ⟨po, 0, cp, #[], rfl, ⟨rfl, fun h => absurd h (Nat.lt_irrefl 0)⟩, hc, fun x hx => by simp at hx⟩
  · obtain ⟨b, y, hpo, hr⟩ := hr (by rw [cells_u8]; omega) (by omega)
    have cell : ∀ i, i < n → ∃ z : Int, W.cell? ⟨b, y + i, none⟩ = some (.int .u8 z) ∧ 0 ≤ z ∧ z < 256 := fun i hi => by
      have hr := hr i hi
      rw [cells_u8, Nat.mul_one] at hr
      obtain ⟨cs, hcs, hcell⟩ := rd_cells hr kinds_u8
      obtain ⟨v0, r0, rfl, h0, hcs⟩ := CellsOk.cons hcs
      obtain ⟨z, rfl, hz⟩ := h0
      exact ⟨z, by have := hcell 0 _ rfl; rwa [Nat.add_zero] at this, byte_wf hz⟩
    obtain ⟨d, hd1, hd2⟩ : ∃ d : Array Int, d.size = n ∧ ∀ i, i < n → W.cell? ⟨b, y + i, none⟩ = some (.int .u8 d[i]!) ∧ 0 ≤ d[i]! ∧ d[i]! < 256 := by
      refine ⟨((List.range n).map fun i => if h : i < n then (cell i h).choose else 0).toArray, by simp, fun i hi => ?_⟩
      have e : (((List.range n).map fun i => if h : i < n then (cell i h).choose else 0).toArray)[i]! = (cell i hi).choose := by simp [hi]
      rw [e]
      exact (cell i hi).choose_spec
    refine ⟨po, n, cp, d, rfl, ⟨hd1, fun _ => ⟨b, y, hpo, fun j hj => (hd2 j (by omega)).1⟩⟩, hc, fun x hx => ?_⟩
    obtain ⟨i, hi⟩ := List.mem_iff_getElem?.1 hx
    have hin : i < d.size := by simpa using (List.getElem?_eq_some_iff.1 hi).1
    have := hd2 i (by omega)
    rw [getElem!_pos d i hin] at this
    have hx2 : d[i] = x := by simpa [hin] using hi
    rw [hx2] at this
    exact this.2

end Go.Proofs.Ythaffebapmkppaa

namespace Go.Proofs.Ythaffebapmkppaa
open Go Go.Eng Go.Sort

/-- each once, in the order of its first coming -/
def dd : List Int → List Int → List Int
  | [], out => out
  | x :: xs, out => dd xs (if x ∈ out then out else out ++ [x])

theorem dd_pre : ∀ (l out : List Int), out <+: dd l out
  | [], out => List.prefix_refl out
  | x :: l, out => by
    unfold dd
    refine List.IsPrefix.trans ?_ (dd_pre l _)
    split
    · exact List.prefix_refl out
    · exact List.prefix_append out [x]
theorem dd_mem : ∀ (l out : List Int) (y : Int), y ∈ dd l out ↔ y ∈ out ∨ y ∈ l
  | [], out, y => by simp [dd]
  | x :: l, out, y => by
    unfold dd
    rw [dd_mem l _ y]
    split
    · rename_i h
      constructor
      · rintro (h1 | h1)
        · exact .inl h1
        · exact .inr (List.mem_cons_of_mem _ h1)
      · rintro (h1 | h1)
        · exact .inl h1
        · rcases List.mem_cons.1 h1 with rfl | h1
          · exact .inl h
          · exact .inr h1
    · simp [or_assoc]
theorem dd_nodup : ∀ (l out : List Int), out.Nodup → (dd l out).Nodup
  | [], out, h => h
  | x :: l, out, h => by
    unfold dd
    refine dd_nodup l _ ?_
    split
    · exact h
    · rename_i hx
      refine List.nodup_append.2 ⟨h, by simp, fun a ha b hb e => ?_⟩
      subst e
      rw [List.mem_singleton.1 hb] at ha
      exact hx ha
theorem take_pre {l m : List Int} {n : Nat} (h : l <+: m) (hn : n ≤ l.length) : m.take n = l.take n := by
  obtain ⟨t, rfl⟩ := h
  rw [List.take_append_of_le_length hn]

theorem keepGo_dd (R : Nat → Int) (many : Int) : ∀ (k i : Nat) (out : List Int), out.length ≤ many.toNat → keepGo R many k i out = (dd ((List.range' i k).map R) out).take many.toNat
  | 0, i, out, h => by simp [keepGo, dd, List.take_of_length_le h]
  | k + 1, i, out, h => by
    unfold keepGo
    by_cases hm : many ≤ out.length
    · rw [if_pos hm, take_pre (dd_pre _ _) (by omega), List.take_of_length_le (by omega)]
    · rw [if_neg hm, keepGo_dd R many k (i + 1) _ (by split; exact h; simp; omega)]
      rw [List.range'_succ, List.map_cons, dd]

theorem comp_mem (d : Array Int) : ∀ (m : Nat), m ≤ d.size → ∀ y, y ∈ Go.Lib.compactUpTo d m ↔ ∃ j, j < m ∧ d[j]! = y
  | 0, _, y => by simp [Go.Lib.compactUpTo]
  | m + 1, hm, y => by
    rw [Go.Lib.compactUpTo_succ, List.mem_append, comp_mem d m (by omega) y]
    constructor
    · rintro (⟨j, h1, h2⟩ | h)
      · exact ⟨j, by omega, h2⟩
      · split at h
        · exact ⟨m, by omega, (List.mem_singleton.1 h).symm⟩
        · cases h
    · rintro ⟨j, h1, h2⟩
      by_cases hj : j < m
      · exact .inl ⟨j, hj, h2⟩
      · have : j = m := by omega
        subst this
        by_cases hk : Go.Lib.keeps d j = true
        · exact .inr (by rw [if_pos hk]; exact List.mem_singleton.2 h2.symm)
        · have hk : ¬ (j = 0 ∨ d[j]! ≠ d[j - 1]!) := by simpa [Go.Lib.keeps] using hk
          have h0 : j ≠ 0 := fun e => hk (.inl e)
          have he : d[j]! = d[j - 1]! := Classical.byContradiction fun e => hk (.inr e)
          exact .inl ⟨j - 1, by omega, by rw [← he, h2]⟩
theorem comp_lt (d : Array Int) (hs : ∀ i j, i ≤ j → j < d.size → d[i]! ≤ d[j]!) : ∀ (m : Nat), m ≤ d.size → (Go.Lib.compactUpTo d m).Pairwise (· < ·)
  | 0, _ => by simp [Go.Lib.compactUpTo]
  | m + 1, hm => by
    rw [Go.Lib.compactUpTo_succ]
    have ih := comp_lt d hs m (by omega)
    split
    · rename_i hk
      refine List.pairwise_append.2 ⟨ih, by simp, fun a ha b hb => ?_⟩
      rw [List.mem_singleton.1 hb]
      obtain ⟨j, h1, h2⟩ := (comp_mem d m (by omega) a).1 ha
      have hk : m = 0 ∨ d[m]! ≠ d[m - 1]! := by simpa [Go.Lib.keeps] using hk
      rcases hk with hk | hk
      · omega
      · have a1 := hs j (m - 1) (by omega) (by omega)
        have a2 := hs (m - 1) m (by omega) (by omega)
        omega
    · simpa using ih
theorem lt_eq {a b : List Int} (ha : a.Pairwise (· < ·)) (hb : b.Pairwise (· < ·)) (h : ∀ y, y ∈ a ↔ y ∈ b) : a = b := by
  have na : a.Nodup := ha.imp fun h => by omega
  have nb : b.Nodup := hb.imp fun h => by omega
  exact List.Perm.eq_of_pairwise (fun x y _ _ h1 h2 => by omega) ha hb ((List.perm_ext_iff_of_nodup na nb).2 h)
/-! ### the points of one node more -/
theorem srtA_le (d : Array Int) : ∀ i j, i ≤ j → j < (srtA d).size → (srtA d)[i]! ≤ (srtA d)[j]! := fun i j hij hj => by
  have hs : (srtA d).toList.Pairwise (fun x y => (!ltInt y x) = true) := List.pairwise_mergeSort (fun x y z h1 h2 => by
    simp only [ltInt, Bool.not_eq_true', decide_eq_false_iff_not] at h1 h2 ⊢
    omega) (fun x y => by
    simp only [ltInt, Bool.or_eq_true, Bool.not_eq_true', decide_eq_false_iff_not]
    omega) _
  rcases Nat.lt_or_ge i j with h | h
  · have := List.pairwise_iff_getElem.1 hs i j (by simpa using (by omega : i < (srtA d).size)) (by simpa using hj) h
    simp only [ltInt, Bool.not_eq_true', decide_eq_false_iff_not, Array.getElem_toList] at this
    rw [getElem!_pos _ i (by omega), getElem!_pos _ j hj]
    omega
  · have : i = j := by omega
    subst this
    exact Int.le_refl _
theorem ascA_lt (d : Array Int) : (ascA d).toList.Pairwise (· < ·) := comp_lt (srtA d) (srtA_le d) d.size (by rw [srtA_size]; exact Nat.le_refl _)
theorem ascA_iff (d : Array Int) (y : Int) : y ∈ (ascA d).toList ↔ y ∈ d.toList := by
  refine (comp_mem (srtA d) d.size (by rw [srtA_size]; exact Nat.le_refl _) y).trans ?_
  rw [← (srtA_perm d).mem_iff]
  constructor
  · rintro ⟨j, h1, rfl⟩
    have hj : j < (srtA d).size := by rw [srtA_size]; exact h1
    rw [getElem!_pos _ j hj]
    exact Array.getElem_mem_toList hj
  · intro h
    obtain ⟨j, hj⟩ := List.mem_iff_getElem?.1 h
    have hlt : j < (srtA d).size := by simpa using (List.getElem?_eq_some_iff.1 hj).1
    refine ⟨j, by rw [← srtA_size d]; exact hlt, ?_⟩
    rw [getElem!_pos _ j hlt]
    simpa [hlt] using hj
/-! ### the ring, turned to a key's place -/
def turnL (L : List (Int × Int)) (kh : Int) : List (Int × Int) := L.filter (fun p => decide (kh ≤ p.1)) ++ L.filter (fun p => !decide (kh ≤ p.1))
theorem split_mono (p : Int × Int → Bool) : ∀ (L : List (Int × Int)), L.Pairwise (fun x y => p x = true → p y = true) → L.take (L.countP fun x => !p x) = L.filter (fun x => !p x) ∧ L.drop (L.countP fun x => !p x) = L.filter p
  | [], _ => ⟨rfl, rfl⟩
  | x :: L, h => by
    obtain ⟨h1, h2⟩ := List.pairwise_cons.1 h
    obtain ⟨i1, i2⟩ := split_mono p L h2
    cases hx : p x with
    | false =>
      rw [List.countP_cons_of_pos (by simp [hx]), List.filter_cons_of_pos (by simp [hx]), List.filter_cons_of_neg (by simp [hx])]
      exact ⟨by rw [List.take_succ_cons, i1], by rw [List.drop_succ_cons, i2]⟩
    | true =>
      have hall : ∀ y ∈ L, p y = true := fun y hy => h1 y hy hx
      have h0 : L.countP (fun x => !p x) = 0 := List.countP_eq_zero.2 fun y hy => by simp [hall y hy]
      rw [List.countP_cons_of_neg (by simp [hx]), h0, List.filter_cons_of_neg (by simp [hx]), List.filter_cons_of_pos hx]
      refine ⟨?_, ?_⟩
      · rw [List.filter_eq_nil_iff.2 fun y hy => by simp [hall y hy]]
        rfl
      · rw [List.filter_eq_self.2 hall]
        rfl
theorem atP_count (L : List (Int × Int)) (kh : Int) : atP L kh = L.countP fun p => !decide (kh ≤ p.1) := by
  unfold atP
  have : L = (List.range L.length).map fun i => L[i]! := by
    apply List.ext_getElem
    · simp
    · intro i h1 h2
      simp [h1]
  conv => rhs; rw [this, List.countP_map]
  rfl
theorem rise_pair {L : List (Int × Int)} (h : Rise L) (kh : Int) : L.Pairwise (fun x y => decide (kh ≤ x.1) = true → decide (kh ≤ y.1) = true) := List.pairwise_iff_getElem.2 fun i j hi hj hij h1 => by
  have := h i j (by omega) hj
  rw [getElem!_pos _ i hi, getElem!_pos _ j hj] at this
  have h1 := of_decide_eq_true h1
  exact decide_eq_true (by omega)
theorem nodes_turn {L : List (Int × Int)} (h : Rise L) (kh : Int) : (List.range' 0 L.length).map (nodeAt L (atP L kh)) = (turnL L kh).map (·.2) := by
  obtain ⟨h1, h2⟩ := split_mono (fun p => decide (kh ≤ p.1)) L (rise_pair h kh)
  rw [← atP_count] at h1 h2
  have hle := atP_le L kh
  unfold turnL
  rw [← h1, ← h2]
  obtain ⟨s, hs⟩ : ∃ s, s = atP L kh := ⟨_, rfl⟩
  rw [← hs] at hle ⊢
  apply List.ext_getElem
  · simp; omega
  · intro i hi1 hi2
    have hi : i < L.length := by simpa using hi1
    simp only [List.getElem_map, List.getElem_range', Nat.zero_add, Nat.one_mul, nodeAt]
    rw [List.getElem_append]
    split
    · rename_i hlt
      have hlt : i < L.length - s := by simpa using hlt
      rw [Nat.mod_eq_of_lt (by omega), getElem!_pos _ _ (by omega), List.getElem_drop]
    · rename_i hge
      have hge : ¬ i < L.length - s := by simpa using hge
      have e : (s + i) % L.length = s + i - L.length := by rw [Nat.mod_eq_sub_mod (by omega), Nat.mod_eq_of_lt (by omega)]
      rw [e, getElem!_pos _ _ (by omega), List.getElem_take]
      congr 2
      simp
      omega
theorem keepL_eq {L : List (Int × Int)} (h : Rise L) (key many : Int) : keepL L key many = (dd ((turnL L (keyZ key)).map (·.2)) []).take many.toNat := by
  unfold keepL
  rw [keepGo_dd _ _ _ _ _ (by simp), nodes_turn h]
/-! ### all keepers -/
theorem ringP_mem (d : Array Int) (y : Int) : y ∈ (ringP d).map (·.2) ↔ y ∈ d.toList := by
  rw [List.mem_map, ← ascA_iff]
  constructor
  · rintro ⟨p, hp, rfl⟩
    obtain ⟨n, hn, h⟩ := List.mem_flatMap.1 ((ringP_perm d).mem_iff.1 hp)
    obtain ⟨v, _, rfl⟩ := List.mem_map.1 h
    exact hn
  · intro h
    exact ⟨(placeZ y (0 : Nat), y), (ringP_perm d).mem_iff.2 (List.mem_flatMap.2 ⟨y, h, List.mem_map.2 ⟨0, by simp, rfl⟩⟩), rfl⟩
theorem turn_mem (L : List (Int × Int)) (kh : Int) (p : Int × Int) : p ∈ turnL L kh ↔ p ∈ L := by
  unfold turnL
  rw [List.mem_append, List.mem_filter, List.mem_filter]
  by_cases h : kh ≤ p.1 <;> simp [h]
theorem nodes_mem (d : Array Int) (kh y : Int) : y ∈ (turnL (ringP d) kh).map (·.2) ↔ y ∈ d.toList := by
  refine Iff.trans ?_ (ringP_mem d y)
  simp only [List.mem_map, turn_mem]
end Go.Proofs.Ythaffebapmkppaa

namespace Go.Proofs.Ythaffebapmkppaa
open Go Go.Eng Go.Sort

/-- all regions given up -/
theorem X.noRegs {E : Ctx} {k : List It} {f : Fr} (f' : Fr) {rg : List Rg} (h0 : E.N0 = []) (hs : ∀ N : Nums, N.length = rg.length → Sh N [] f f') (h : X E k ⟨f', []⟩) : X E k ⟨f, rg⟩ := by
  refine X.conv fun N a w hN hf hS => ⟨E, ⟨f', []⟩, rfl, rfl, rfl, rfl, ⟨[], by rw [h0]; exact nil_le _, hf.sh (hs N hS.len), ?_⟩, h⟩
  exact { hS with
    len := rfl
    lt := fun r q hq => by simp at hq
    cell := fun r g q hg hq => by simp at hg
    ext := fun r g q hg hq => by simp at hg
    room := fun r g q hg hq => by simp at hg
    disj := fun r r' g g' q q' hg hq => by simp at hg
    obj := fun r g q ob hg hq => by simp at hg
    odisj := fun r r' g g' q q' hg hq => by simp at hg
    imd := fun r g q hg hq => by simp at hg
    dd := fun r g q hg hq => by simp at hg
    foot := fun r g q hg hq => by simp at hg }

theorem ofL_perm (d : Array Int) (key : Int) : (ofL d key).Perm (keepL (ringP d) key 3) := by
  unfold ofL
  exact srtA_perm _
theorem ofL_len (d : Array Int) (key : Int) (h : d.size ≤ 100) : (ofL d key).length ≤ 1000 := by
  rw [(ofL_perm d key).length_eq]
  have h1 := keepL_len (ringP d) key 3
  have h2 := ringP_len d
  omega

end Go.Proofs.Ythaffebapmkppaa

namespace Go.Proofs.Ythaffebapmkppaa
open Go Go.Eng Go.Sort

theorem take_snoc {l : List Int} {i : Nat} (h : i < l.length) : l.take (i + 1) = l.take i ++ [l[i]!] := by
  rw [List.take_add_one, List.getElem?_eq_getElem h, getElem!_pos l i h]
  rfl
theorem byteN {x : Int} (h : 0 ≤ x ∧ x < 256) : ∃ y : Nat, x = (y : Int) ∧ y < 256 := ⟨x.toNat, by omega, by omega⟩

end Go.Proofs.Ythaffebapmkppaa

namespace Go.Proofs.Ythaffebapmkppaa
open Go Go.Eng Go.Sort

theorem bytL_frr {l : List Int} {a b : Nat} : (bytL l).all (SV.frr a b) = true := List.all_eq_true.2 fun c hc => by
  obtain ⟨x, _, rfl⟩ := List.mem_map.1 hc; rfl
theorem bytL_one {l : List Int} : (bytL l).all SV.one = true := List.all_eq_true.2 fun c hc => by
  obtain ⟨x, _, rfl⟩ := List.mem_map.1 hc; rfl
/-- a row of one's own is handed back, that began as a literal without elements: to be read -/
def RoR (cs : List SV) (n : Nat) (w : World) (e : Ending) (w' : World) : Prop :=
  ∃ b o c, e = .returned (.slice (some ⟨b, o, none⟩) n c) ∧ (0 < cs.length → w.heap.size ≤ b) ∧ b < w'.heap.size ∧ (∀ (j : Nat) (c : SV), cs[j]? = some c → ∃ v, (∀ N, c.den N = some v) ∧ w'.cell? ⟨b, o + j, none⟩ = some v) ∧ Chg (fun _ _ => False) w w'
end Go.Proofs.Ythaffebapmkppaa

namespace Go.Proofs.Ythaffebapmkppaa
open Go Go.Eng Go.Sort

theorem foldl_take {α β : Type} [Inhabited α] (f : β → α → β) (b : β) {L : List α} {k : Nat} (h : k < L.length) : (L.take (k + 1)).foldl f b = f ((L.take k).foldl f b) L[k]! := by
  rw [List.take_add_one, List.getElem?_eq_getElem h, Option.toList_some, List.foldl_append, getElem!_pos L k h]
  rfl

end Go.Proofs.Ythaffebapmkppaa
