/- Rows of bytes: sorted. -/
import Derived.Test.YthaffebapmkppaaPd9

namespace Go.Proofs.Ythaffebapmkppaa
open Go Go.Eng Go.Sort

theorem swoI : SWO ltInt where
  irrefl x := by simp [ltInt]
  trans x y z h1 h2 := by simp [ltInt] at *; omega
  ntrans x y z h1 h2 := by simp [ltInt] at *; omega

/-- a Bool, under a name -/
theorem X.anyB {E : Ctx} {k : List It} {s : St} (t : Nat) {c : SB} (hl : Eng.look s.fr t = FV.val (SV.bool c)) (h : ∀ x : Bool, X E k ⟨(t, .val (.bool (.v x))) :: s.fr, s.rg⟩) : X E k s :=
  X.reval t (.bool (.v c.den)) hl (fun N _ x hx => hx) (h _)

def SortedPost (b y n a e : Nat) (d : Array Int) (w : World) : Ending → World → Prop := fun en w' => ∃ d', (PermIn a e d d' ∧ SortedIn ltInt a e d') ∧ PostA b y n w d' en w'

/-- what is known at the head of the loop -/
structure PG (n a e lim : Nat) (d : Array Int) (a1 e1 l1 : Nat) (d1 : Array Int) : Prop where
  sz : d1.size = n
  lo : a ≤ a1
  mid : a1 ≤ e1
  hi : e1 ≤ e
  lim : l1 ≤ lim
  below : Below ltInt a1 e1 d1
  ends : ∀ R, PermIn a1 e1 d1 R → SortedIn ltInt a1 e1 R → PermIn a e d R ∧ SortedIn ltInt a e R

theorem PG.perm {n a e lim : Nat} {d : Array Int} {a1 e1 l1 l2 : Nat} {d1 d2 : Array Int} (g : PG n a e lim d a1 e1 l1 d1) (hen : e ≤ n) (h : PermIn a1 e1 d1 d2) (hl : l2 ≤ l1) : PG n a e lim d a1 e1 l2 d2 :=
  ⟨h.1.trans g.sz, g.lo, g.mid, g.hi, Nat.le_trans hl g.lim, g.below.perm (by have := g.hi; have := g.sz; omega) h, fun R hR hs => g.ends R (permIn_trans _ _ _ _ _ h hR) hs⟩

set_option maxHeartbeats 8000000 in
set_option maxRecDepth 100000 in
set_option cbv.maxSteps 100000000 in
theorem pdq8_step (b y n c m : Nat) (hbig : n < 2305843009213693952) (ih : ∀ (a e lim : Nat) (d : Array Int) (w : World), e - a < m → AtA w b y d → d.size = n → a ≤ e → e ≤ n → lim < 4611686018427387904 → Below ltInt a e d → Calls Try.prog 58 #[.slice (some ⟨b, y, none⟩) n c, .int .i64 a, .int .i64 e, .int .i64 lim] w (SortedPost b y n a e d w))
    (a e lim : Nat) (d : Array Int) (w : World) (hm : e - a ≤ m) (hA : AtA w b y d) (hn : d.size = n) (hae : a ≤ e) (hen : e ≤ n) (hlim : lim < 4611686018427387904) (hB : Below ltInt a e d) :
    Calls Try.prog 58 #[.slice (some ⟨b, y, none⟩) n c, .int .i64 a, .int .i64 e, .int .i64 lim] w (SortedPost b y n a e d w) := by
  obtain ⟨p, hp⟩ : ∃ p, p = some (Addr.mk b y none) := ⟨_, rfl⟩
  rw [← hp] at ih ⊢
  refine X.beginA hA hn (ss := [.slv p n c, .int .i64 (.nat a), .int .i64 (.nat e), .int .i64 (.nat lim)]) Try.func58 rfl B58_ok rfl rfl ?_
  refine X.go T58_ok 400 _ rfl Try.results58 ?_
  conv => arg 2; cbv
  refine X.loop (fun g : {g : ((Nat × Nat × Nat) × (Bool × Bool)) × Array Int // PG n a e lim d g.1.1.1 g.1.1.2.1 g.1.1.2.2 g.2} => aE Try.prog Try.f58 _ w b y n (wm w) g.1.2 [] B58)
    (fun g => ⟨[(0, .val (.slv p n c)), (1, .val (.int .i64 (.nat g.1.1.1.1))), (2, .val (.int .i64 (.nat g.1.1.1.2.1))), (3, .val (.int .i64 (.nat g.1.1.1.2.2))), (8, .val (.bool (.v g.1.1.2.1))), (9, .val (.bool (.v g.1.1.2.2)))], []⟩) (fun g => g.1.1.1.2.1 - g.1.1.1.1) (fun _ => ⟨rfl, rfl, rfl, rfl⟩)
    (fun N ac w' hN hf hS => ⟨⟨(((a, e, lim), (true, true)), d), ⟨hn, Nat.le_refl _, hae, Nat.le_refl _, Nat.le_refl _, hB, fun R h1 h2 => ⟨h1, h2⟩⟩⟩, ?_⟩) (fun g q hq => ?_)
  · exact At.again hf hS (by repeat first | exact trivial | refine ⟨⟨_, rfl, .inl ⟨rfl, rfl⟩⟩, ?_⟩ | refine ⟨⟨_, rfl, .inr ⟨_, rfl, rfl⟩⟩, ?_⟩ | refine ⟨⟨_, rfl, .inr ⟨_, rfl, (by first | (simp (disch := omega) only [SV.den, SI.den, wrapN, Option.some.injEq, Value.int.injEq, true_and]; done) | (simp (disch := omega) only [SV.den, SI.den, wrapN, Option.some.injEq, Value.int.injEq, true_and]; omega))⟩⟩, ?_⟩) trivial
  obtain ⟨⟨⟨⟨a1, e1, l1⟩, ⟨wb, wp⟩⟩, d1⟩, G⟩ := g
  have G : PG n a e lim d a1 e1 l1 d1 := G
  have glo := G.lo
  have gmid := G.mid
  have ghi := G.hi
  have glim := G.lim
  have sd1 := G.sz
  show X (aE Try.prog Try.f58 _ w b y n (wm w) d1 [] B58) _ ⟨[(0, .val (.slv p n c)), (1, .val (.int .i64 (.nat a1))), (2, .val (.int .i64 (.nat e1))), (3, .val (.int .i64 (.nat l1))), (8, .val (.bool (.v wb))), (9, .val (.bool (.v wp)))], []⟩
  refine X.go T58_ok 400 _ rfl Try.results58 ?_
  conv => arg 2; cbv
  obtain ⟨l, hl⟩ : ∃ l, l = e1 - a1 := ⟨_, rfl⟩
  refine X.reval 10 (.int .i64 (.nat l)) rfl (fun N _ v hv => by rw [← hv]; simp (disch := omega) only [SV.den, SI.den, wrapN, Int.tdiv_eq_ediv_of_nonneg, Option.some.injEq, Value.int.injEq, true_and] <;> omega) ?_
  refine X.cond rfl (fun h12 => ?_) (fun h12 => ?_)
  · refine X.go T58_ok 400 _ rfl Try.results58 ?_
    conv => arg 2; cbv
    refine X.call rfl rfl rfl rfl Try.call74 (fun N w1 args hN hS ha => ?_)
    have ha : args = [.slice p n c, .int .i64 a1, .int .i64 e1] := (Option.some.inj ha).symm
    rw [ha]
    obtain ⟨h1, h2⟩ := insertionSort_holds swoI d1 a1 e1 gmid (by omega)
    have key := ins8_ok b y n c a1 e1 d1 w1 (Sat.arr hS hA hn sd1).1 sd1 (by omega) (by omega) (by omega)
    rw [← hp] at key
    refine Calls.mono key fun en w' ⟨he, hA', hc'⟩ => ⟨_, he, Goes.arr hN hS sd1 (h1.1.trans sd1) hA' hc' (by simp) (r := .tup []) rfl rfl ?_⟩
    refine X.go T58_ok 400 _ rfl Try.results58 ?_
    conv => arg 2; cbv
    refine X.done T58_ok rfl (fun N w' v hN hS hv => ⟨_, G.ends _ h1 h2, ?_, ?_⟩)
    · simp only [resV, SV.den, SV.denL, Option.some.injEq] at hv
      rw [← hv]
    · exact Sat.arr hS hA hn (h1.1.trans sd1)
  simp (disch := omega) only [SB.F, SI.den, wrapN] at h12
  refine X.go T58_ok 400 _ rfl Try.results58 ?_
  conv => arg 2; cbv
  refine X.cond rfl (fun h0 => ?_) (fun h0 => ?_)
  · refine X.go T58_ok 400 _ rfl Try.results58 ?_
    conv => arg 2; cbv
    refine X.call rfl rfl rfl rfl Try.call75 (fun N w1 args hN hS ha => ?_)
    have ha : args = [.slice p n c, .int .i64 a1, .int .i64 e1] := (Option.some.inj ha).symm
    rw [ha]
    obtain ⟨h1, h2⟩ := heapSort_holds swoI d1 a1 e1 gmid (by omega)
    have key := heap8_ok b y n c a1 e1 d1 w1 (Sat.arr hS hA hn sd1).1 sd1 (by omega) (by omega) (by omega)
    rw [← hp] at key
    refine Calls.mono key fun en w' ⟨he, hA', hc'⟩ => ⟨_, he, Goes.arr hN hS sd1 (h1.1.trans sd1) hA' hc' (by simp) (r := .tup []) rfl rfl ?_⟩
    refine X.go T58_ok 400 _ rfl Try.results58 ?_
    conv => arg 2; cbv
    refine X.done T58_ok rfl (fun N w' v hN hS hv => ⟨_, G.ends _ h1 h2, ?_, ?_⟩)
    · simp only [resV, SV.den, SV.denL, Option.some.injEq] at hv
      rw [← hv]
    · exact Sat.arr hS hA hn (h1.1.trans sd1)
  simp only [SB.F, SI.den] at h0
  refine X.go T58_ok 2 _ rfl Try.results58 ?_
  conv => arg 2; cbv
  refine X.join (ι := {x : Array Int × Nat // PG n a e lim d a1 e1 x.2 x.1}) (fun x => aE Try.prog Try.f58 _ w b y n (wm w) x.1.1 [] B58) (fun x => ⟨[(0, .val (.slv p n c)), (1, .val (.int .i64 (.nat a1))), (2, .val (.int .i64 (.nat e1))), (3, .val (.int .i64 (.nat x.1.2))), (8, .val (.bool (.v wb))), (9, .val (.bool (.v wp))), (10, .val (.int .i64 (.nat l)))], []⟩) (fun _ => ⟨rfl, rfl, rfl⟩) (fun qj hqj => ?_) (fun x => ?_)
  · refine X.go T58_ok 400 _ rfl Try.results58 ?_
    conv => arg 2; cbv
    refine X.cond rfl (fun hb => ?_) (fun hb => ?_)
    · refine X.go T58_ok 400 _ rfl Try.results58 ?_
      conv => arg 2; cbv
      refine X.call rfl rfl rfl rfl Try.call76 (fun N w1 args hN hS ha => ?_)
      have ha : args = [.slice p n c, .int .i64 a1, .int .i64 e1] := (Option.some.inj ha).symm
      rw [ha]
      have key := brk8_ok b y n c a1 e1 d1 w1 (Sat.arr hS hA hn sd1).1 sd1 (by omega) (by omega) hbig
      rw [← hp] at key
      refine Calls.mono key fun en w' ⟨d2, h1, he, hA', hc'⟩ => ⟨_, he, Goes.arr hN hS sd1 (h1.1.trans sd1) hA' hc' (by simp) (r := .tup []) rfl rfl ?_⟩
      refine X.go T58_ok 400 _ rfl Try.results58 ?_
      conv => arg 2; cbv
      refine X.back (fun N ac w' hN hf hS => hqj ⟨(d2, l1 - 1), G.perm hen h1 (by omega)⟩ ac w' ?_)
      exact At.again hf hS (by repeat first | exact trivial | refine ⟨⟨_, rfl, .inl ⟨rfl, rfl⟩⟩, ?_⟩ | refine ⟨⟨_, rfl, .inr ⟨_, rfl, rfl⟩⟩, ?_⟩ | refine ⟨⟨_, rfl, .inr ⟨_, rfl, (by first | (simp (disch := omega) only [SV.den, SI.den, wrapN, Option.some.injEq, Value.int.injEq, true_and]; done) | (simp (disch := omega) only [SV.den, SI.den, wrapN, Option.some.injEq, Value.int.injEq, true_and]; omega))⟩⟩, ?_⟩) trivial
    · refine X.go T58_ok 400 _ rfl Try.results58 ?_
      conv => arg 2; cbv
      refine X.back (fun N ac w' hN hf hS => hqj ⟨(d1, l1), G⟩ ac w' ?_)
      exact At.again hf hS (by repeat first | exact trivial | refine ⟨⟨_, rfl, .inl ⟨rfl, rfl⟩⟩, ?_⟩ | refine ⟨⟨_, rfl, .inr ⟨_, rfl, rfl⟩⟩, ?_⟩ | refine ⟨⟨_, rfl, .inr ⟨_, rfl, (by first | (simp (disch := omega) only [SV.den, SI.den, wrapN, Option.some.injEq, Value.int.injEq, true_and]; done) | (simp (disch := omega) only [SV.den, SI.den, wrapN, Option.some.injEq, Value.int.injEq, true_and]; omega))⟩⟩, ?_⟩) trivial
  clear G sd1 glim
  obtain ⟨⟨d2, l2⟩, G⟩ := x
  have G : PG n a e lim d a1 e1 l2 d2 := G
  have glim := G.lim
  have sd2 := G.sz
  show X (aE Try.prog Try.f58 _ w b y n (wm w) d2 [] B58) _ ⟨[(0, .val (.slv p n c)), (1, .val (.int .i64 (.nat a1))), (2, .val (.int .i64 (.nat e1))), (3, .val (.int .i64 (.nat l2))), (8, .val (.bool (.v wb))), (9, .val (.bool (.v wp))), (10, .val (.int .i64 (.nat l)))], []⟩
  refine X.go T58_ok 1 _ rfl Try.results58 ?_
  conv => arg 2; cbv
  obtain ⟨pv, hpv⟩ : ∃ x, x = (choosePivot ltInt d2 a1 e1).1 := ⟨_, rfl⟩
  obtain ⟨hz, hhz⟩ : ∃ x, x = hintZ (choosePivot ltInt d2 a1 e1).2 := ⟨_, rfl⟩
  have hpr1 : a1 ≤ pv ∧ pv < e1 := by rw [hpv]; exact choosePivot_holds ltInt d2 a1 e1 (by omega)
  refine X.join (ι := Unit) (fun x => aE Try.prog Try.f58 _ w b y n (wm w) d2 [] B58) (fun x => ⟨[(0, .val (.slv p n c)), (1, .val (.int .i64 (.nat a1))), (2, .val (.int .i64 (.nat e1))), (3, .val (.int .i64 (.nat l2))), (8, .val (.bool (.v wb))), (9, .val (.bool (.v wp))), (10, .val (.int .i64 (.nat l))), (11, .val (.int .i64 (.nat pv))), (12, .val (.int .i64 (.v (hz))))], []⟩) (fun _ => ⟨rfl, rfl, rfl⟩) (fun qj hqj => ?_) (fun x => ?_)
  · refine X.go T58_ok 400 _ rfl Try.results58 ?_
    conv => arg 2; cbv
    refine X.call rfl rfl rfl rfl Try.call77 (fun N w1 args hN hS ha => ?_)
    have ha : args = [.slice p n c, .int .i64 a1, .int .i64 e1] := (Option.some.inj ha).symm
    rw [ha]
    have key := pivot8_ok b y n c a1 e1 d2 w1 (Sat.arr hS hA hn sd2).1 sd2 (by omega) (by omega) (by omega)
    rw [← hp, ← hpv, ← hhz] at key
    refine Calls.mono key fun en w' ⟨he, hc'⟩ => ⟨_, he, Goes.same hN hS hc' (r := .tup [.int .i64 (.nat pv), .int .i64 (.v hz)]) rfl rfl ?_⟩
    refine X.go T58_ok 400 _ rfl Try.results58 ?_
    conv => arg 2; cbv
    refine X.back (fun N ac w' hN hf hS => hqj () ac w' ?_)
    exact At.again hf hS (by repeat first | exact trivial | refine ⟨⟨_, rfl, .inl ⟨rfl, rfl⟩⟩, ?_⟩ | refine ⟨⟨_, rfl, .inr ⟨_, rfl, rfl⟩⟩, ?_⟩ | refine ⟨⟨_, rfl, .inr ⟨_, rfl, (by first | (simp (disch := omega) only [SV.den, SI.den, wrapN, Option.some.injEq, Value.int.injEq, true_and]; done) | (simp (disch := omega) only [SV.den, SI.den, wrapN, Option.some.injEq, Value.int.injEq, true_and]; omega))⟩⟩, ?_⟩) trivial
  clear hpv hhz
  refine X.go T58_ok 1 _ rfl Try.results58 ?_
  conv => arg 2; cbv
  refine X.join (ι := {x : (Array Int × Nat) × Int // PG n a e lim d a1 e1 l2 x.1.1 ∧ a1 ≤ x.1.2 ∧ x.1.2 < e1}) (fun x => aE Try.prog Try.f58 _ w b y n (wm w) x.1.1.1 [] B58) (fun x => ⟨[(0, .val (.slv p n c)), (1, .val (.int .i64 (.nat a1))), (2, .val (.int .i64 (.nat e1))), (3, .val (.int .i64 (.nat l2))), (8, .val (.bool (.v wb))), (9, .val (.bool (.v wp))), (10, .val (.int .i64 (.nat l))), (11, .val (.int .i64 (.nat x.1.1.2))), (12, .val (.int .i64 (.v (x.1.2))))], []⟩) (fun _ => ⟨rfl, rfl, rfl⟩) (fun qj hqj => ?_) (fun x => ?_)
  · refine X.go T58_ok 400 _ rfl Try.results58 ?_
    conv => arg 2; cbv
    refine X.cond rfl (fun hb => ?_) (fun hb => ?_)
    · refine X.go T58_ok 400 _ rfl Try.results58 ?_
      conv => arg 2; cbv
      refine X.call rfl rfl rfl rfl Try.call78 (fun N w1 args hN hS ha => ?_)
      have ha : args = [.slice p n c, .int .i64 a1, .int .i64 e1] := (Option.some.inj ha).symm
      rw [ha]
      have h1 := reverseRange_holds d2 a1 e1 gmid (by omega)
      have key := rev8_ok b y n c a1 e1 d2 w1 (Sat.arr hS hA hn sd2).1 sd2 (by omega) (by omega) (by omega) (by omega)
      rw [← hp] at key
      refine Calls.mono key fun en w' ⟨he, hA', hc'⟩ => ⟨_, he, Goes.arr hN hS sd2 (h1.1.trans sd2) hA' hc' (by simp) (r := .tup []) rfl rfl ?_⟩
      refine X.go T58_ok 400 _ rfl Try.results58 ?_
      conv => arg 2; cbv
      refine X.back (fun N ac w' hN hf hS => hqj ⟨((reverseRange d2 a1 e1, (e1 - 1) - (pv - a1)), 1), G.perm hen h1 (Nat.le_refl _), by simp only; omega, by simp only; omega⟩ ac w' ?_)
      exact At.again hf hS (by repeat first | exact trivial | refine ⟨⟨_, rfl, .inl ⟨rfl, rfl⟩⟩, ?_⟩ | refine ⟨⟨_, rfl, .inr ⟨_, rfl, rfl⟩⟩, ?_⟩ | refine ⟨⟨_, rfl, .inr ⟨_, rfl, (by first | (simp (disch := omega) only [SV.den, SI.den, wrapN, Option.some.injEq, Value.int.injEq, true_and]; done) | (simp (disch := omega) only [SV.den, SI.den, wrapN, Option.some.injEq, Value.int.injEq, true_and]; omega))⟩⟩, ?_⟩) trivial
    · refine X.go T58_ok 400 _ rfl Try.results58 ?_
      conv => arg 2; cbv
      refine X.back (fun N ac w' hN hf hS => hqj ⟨((d2, pv), hz), G, by simp only; omega, by simp only; omega⟩ ac w' ?_)
      exact At.again hf hS (by repeat first | exact trivial | refine ⟨⟨_, rfl, .inl ⟨rfl, rfl⟩⟩, ?_⟩ | refine ⟨⟨_, rfl, .inr ⟨_, rfl, rfl⟩⟩, ?_⟩ | refine ⟨⟨_, rfl, .inr ⟨_, rfl, (by first | (simp (disch := omega) only [SV.den, SI.den, wrapN, Option.some.injEq, Value.int.injEq, true_and]; done) | (simp (disch := omega) only [SV.den, SI.den, wrapN, Option.some.injEq, Value.int.injEq, true_and]; omega))⟩⟩, ?_⟩) trivial
  clear G sd2 hpr1
  obtain ⟨⟨⟨d3, pv3⟩, hz3⟩, G, hp1, hp2⟩ := x
  have G : PG n a e lim d a1 e1 l2 d3 := G
  have hp1 : a1 ≤ pv3 := hp1
  have hp2 : pv3 < e1 := hp2
  have sd3 := G.sz
  show X (aE Try.prog Try.f58 _ w b y n (wm w) d3 [] B58) _ ⟨[(0, .val (.slv p n c)), (1, .val (.int .i64 (.nat a1))), (2, .val (.int .i64 (.nat e1))), (3, .val (.int .i64 (.nat l2))), (8, .val (.bool (.v wb))), (9, .val (.bool (.v wp))), (10, .val (.int .i64 (.nat l))), (11, .val (.int .i64 (.nat pv3))), (12, .val (.int .i64 (.v (hz3))))], []⟩
  refine X.go T58_ok 1 _ rfl Try.results58 ?_
  conv => arg 2; cbv
  refine X.join (ι := {x : Array Int // PG n a e lim d a1 e1 l2 x}) (fun x => aE Try.prog Try.f58 _ w b y n (wm w) x.1 [] B58) (fun x => ⟨[(0, .val (.slv p n c)), (1, .val (.int .i64 (.nat a1))), (2, .val (.int .i64 (.nat e1))), (3, .val (.int .i64 (.nat l2))), (8, .val (.bool (.v wb))), (9, .val (.bool (.v wp))), (10, .val (.int .i64 (.nat l))), (11, .val (.int .i64 (.nat pv3)))], []⟩) (fun _ => ⟨rfl, rfl, rfl⟩) (fun qj hqj => ?_) (fun x => ?_)
  · refine X.go T58_ok 400 _ rfl Try.results58 ?_
    conv => arg 2; cbv
    refine X.cond rfl (fun hb => ?_) (fun hb => ?_)
    · refine X.go T58_ok 400 _ rfl Try.results58 ?_
      conv => arg 2; cbv
      refine X.call rfl rfl rfl rfl Try.call79 (fun N w1 args hN hS ha => ?_)
      have ha : args = [.slice p n c, .int .i64 a1, .int .i64 e1] := (Option.some.inj ha).symm
      rw [ha]
      obtain ⟨h1, h2⟩ := partialInsertionSort_holds swoI d3 a1 e1 (by omega) (by omega) G.below
      have key := partIns8_ok b y n c a1 e1 d3 w1 (Sat.arr hS hA hn sd3).1 sd3 (by omega) (by omega) (by omega)
      rw [← hp] at key
      obtain ⟨R, hR⟩ : ∃ R, R = partialInsertionSort ltInt d3 a1 e1 := ⟨_, rfl⟩
      rw [← hR] at h1 h2 key
      clear hR
      obtain ⟨d4, dn⟩ := R
      simp only at h1 h2 key
      refine Calls.mono key fun en w' ⟨he, hA', hc'⟩ => ⟨_, he, Goes.arr hN hS sd3 (h1.1.trans sd3) hA' hc' (by simp) (r := .bool (.v dn)) rfl rfl ?_⟩
      refine X.go T58_ok 400 _ rfl Try.results58 ?_
      conv => arg 2; cbv
      refine X.cond rfl (fun hd => ?_) (fun hd => ?_)
      · simp only [SB.T] at hd
        refine X.go T58_ok 400 _ rfl Try.results58 ?_
        conv => arg 2; cbv
        refine X.done T58_ok rfl (fun N w' v hN hS hv => ⟨_, G.ends _ h1 (h2 hd), ?_, ?_⟩)
        · simp only [resV, SV.den, SV.denL, Option.some.injEq] at hv
          rw [← hv]
        · exact Sat.arr hS hA hn (h1.1.trans sd3)
      · refine X.go T58_ok 400 _ rfl Try.results58 ?_
        conv => arg 2; cbv
        refine X.back (fun N ac w' hN hf hS => hqj ⟨d4, G.perm hen h1 (Nat.le_refl _)⟩ ac w' ?_)
        exact At.again hf hS (by repeat first | exact trivial | refine ⟨⟨_, rfl, .inl ⟨rfl, rfl⟩⟩, ?_⟩ | refine ⟨⟨_, rfl, .inr ⟨_, rfl, rfl⟩⟩, ?_⟩ | refine ⟨⟨_, rfl, .inr ⟨_, rfl, (by first | (simp (disch := omega) only [SV.den, SI.den, wrapN, Option.some.injEq, Value.int.injEq, true_and]; done) | (simp (disch := omega) only [SV.den, SI.den, wrapN, Option.some.injEq, Value.int.injEq, true_and]; omega))⟩⟩, ?_⟩) trivial
    · refine X.go T58_ok 400 _ rfl Try.results58 ?_
      conv => arg 2; cbv
      refine X.back (fun N ac w' hN hf hS => hqj ⟨d3, G⟩ ac w' ?_)
      exact At.again hf hS (by repeat first | exact trivial | refine ⟨⟨_, rfl, .inl ⟨rfl, rfl⟩⟩, ?_⟩ | refine ⟨⟨_, rfl, .inr ⟨_, rfl, rfl⟩⟩, ?_⟩ | refine ⟨⟨_, rfl, .inr ⟨_, rfl, (by first | (simp (disch := omega) only [SV.den, SI.den, wrapN, Option.some.injEq, Value.int.injEq, true_and]; done) | (simp (disch := omega) only [SV.den, SI.den, wrapN, Option.some.injEq, Value.int.injEq, true_and]; omega))⟩⟩, ?_⟩) trivial
  clear G sd3
  obtain ⟨d4, G⟩ := x
  have sd4 := G.sz
  show X (aE Try.prog Try.f58 _ w b y n (wm w) d4 [] B58) _ ⟨[(0, .val (.slv p n c)), (1, .val (.int .i64 (.nat a1))), (2, .val (.int .i64 (.nat e1))), (3, .val (.int .i64 (.nat l2))), (8, .val (.bool (.v wb))), (9, .val (.bool (.v wp))), (10, .val (.int .i64 (.nat l))), (11, .val (.int .i64 (.nat pv3)))], []⟩
  obtain ⟨m1, hm1⟩ : ∃ m, m = a1 - 1 := ⟨_, rfl⟩
  obtain ⟨x1, hx1⟩ : ∃ x, d4[m1]! = x := ⟨_, rfl⟩
  obtain ⟨x2, hx2⟩ : ∃ x, d4[pv3]! = x := ⟨_, rfl⟩
  obtain ⟨t, ht⟩ : ∃ t, t = ltInt x1 x2 := ⟨_, rfl⟩
  obtain ⟨o1, ho1⟩ : ∃ o, o = y + m1 := ⟨_, rfl⟩
  obtain ⟨o2, ho2⟩ : ∃ o, o = y + pv3 := ⟨_, rfl⟩
  refine X.goP ([(79, .ext b o1 0), (80, .int .u8 (.v x1)), (83, .ext b o2 0), (84, .int .u8 (.v x2)), (85, .bool (.v t))]) T58_ok 400 _ rfl Try.results58 (fun pr fin hpr hfin => ?_)
  conv => cbv
  refine ⟨hpr _ (less_call rfl ht), hpr _ (ValOk.im1 rfl Try.isAgg5 (fun _ => rfl) fun hT => (by have hT : _ = true := hT; simp [SB.den, SI.den] at hT; (try replace hT := of_decide_eq_true hT); (try simp (disch := omega) only [SI.den, wrapN] at hT); rw [← hx2, ho2]; exact arrM_in (by omega))), hpr _ (ValOk.im1 rfl Try.isAgg5 (fun _ => rfl) fun hT => (by have hT : _ = true := hT; simp [SB.den, SI.den] at hT; (try replace hT := of_decide_eq_true hT); (try simp (disch := omega) only [SI.den, wrapN] at hT); rw [← hx1, ho1]; exact arrM_in (by omega))), hpr _ (ValOk.at (z := pv3) rfl rfl (fun hT => by have hT : _ = true := hT; simp [SB.den, SI.den] at hT; (try replace hT := of_decide_eq_true hT); (try simp (disch := omega) only [SI.den, wrapN] at hT); first | omega | (simp (disch := omega) only [SI.den, wrapN] <;> omega)) Try.underlying22 Try.sizeOf5 (fun hT => by have hT : _ = true := hT; simp [SB.den, SI.den] at hT; (try replace hT := of_decide_eq_true hT); (try simp (disch := omega) only [SI.den, wrapN] at hT); first | omega | (simp (disch := omega) only [SI.den, wrapN] <;> omega)) hp (by omega)), hpr _ (ValOk.at (z := m1) rfl rfl (fun hT => by have hT : _ = true := hT; simp [SB.den, SI.den] at hT; (try replace hT := of_decide_eq_true hT); (try simp (disch := omega) only [SI.den, wrapN] at hT); first | omega | (simp (disch := omega) only [SI.den, wrapN] <;> omega)) Try.underlying22 Try.sizeOf5 (fun hT => by have hT : _ = true := hT; simp [SB.den, SI.den] at hT; (try replace hT := of_decide_eq_true hT); (try simp (disch := omega) only [SI.den, wrapN] at hT); first | omega | (simp (disch := omega) only [SI.den, wrapN] <;> omega)) hp (by omega)), hfin _ _ ?_⟩
  refine X.cond rfl (fun hc => ?_) (fun hc => ?_)
  · simp only [SB.T, SB.F, SI.den] at hc
    obtain ⟨hc1, hc2⟩ := hc
    refine X.go T58_ok 400 _ rfl Try.results58 ?_
    conv => arg 2; cbv
    refine X.call rfl rfl rfl rfl Try.call80 (fun N w1 args hN hS ha => ?_)
    have ha : args = [.slice p n c, .int .i64 a1, .int .i64 e1, .int .i64 pv3] := (Option.some.inj ha).symm
    rw [ha]
    have key := partEq8_ok b y n c a1 e1 pv3 d4 w1 (Sat.arr hS hA hn sd4).1 sd4 hp1 hp2 (by omega) (by omega)
    rw [← hp] at key
    obtain ⟨R, hR⟩ : ∃ R, R = partitionEqual ltInt d4 a1 e1 pv3 := ⟨_, rfl⟩
    rw [← hR] at key
    obtain ⟨mid, d5⟩ := R
    obtain ⟨r1, r2, r3, r4, r5⟩ := round_eq swoI (partitionEqual_holds ltInt) (by omega) hp1 hp2 (by omega) G.below (by rw [← hm1, hx1, hx2, ← ht, hc2]) hR.symm
    refine Calls.mono key fun en w' ⟨he, hA', hc'⟩ => ⟨_, he, Goes.arr hN hS sd4 (r3.trans sd4) hA' hc' (by simp) (r := .int .i64 (.nat mid)) rfl rfl ?_⟩
    refine X.go T58_ok 400 _ rfl Try.results58 ?_
    conv => arg 2; cbv
    refine X.back (fun N ac w' hN hf hS => hq ⟨(((mid, e1, l2), (wb, wp)), d5), ⟨r3.trans sd4, by simp only; omega, r2, ghi, glim, r4, fun R h1 h2 => G.ends R (r5 R h1 h2).1 (r5 R h1 h2).2⟩⟩ ac w' (by simp only; omega) ?_)
    exact At.again hf hS (by repeat first | exact trivial | refine ⟨⟨_, rfl, .inl ⟨rfl, rfl⟩⟩, ?_⟩ | refine ⟨⟨_, rfl, .inr ⟨_, rfl, rfl⟩⟩, ?_⟩ | refine ⟨⟨_, rfl, .inr ⟨_, rfl, (by first | (simp (disch := omega) only [SV.den, SI.den, wrapN, Option.some.injEq, Value.int.injEq, true_and]; done) | (simp (disch := omega) only [SV.den, SI.den, wrapN, Option.some.injEq, Value.int.injEq, true_and]; omega))⟩⟩, ?_⟩) trivial
  · refine X.go T58_ok 400 _ rfl Try.results58 ?_
    conv => arg 2; cbv
    refine X.call rfl rfl rfl rfl Try.call81 (fun N w1 args hN hS ha => ?_)
    have ha : args = [.slice p n c, .int .i64 a1, .int .i64 e1, .int .i64 pv3] := (Option.some.inj ha).symm
    rw [ha]
    have key := part8_ok b y n c a1 e1 pv3 d4 w1 (Sat.arr hS hA hn sd4).1 sd4 hp1 hp2 (by omega) (by omega)
    rw [← hp] at key
    obtain ⟨R, hR⟩ : ∃ R, R = partition ltInt d4 a1 e1 pv3 := ⟨_, rfl⟩
    rw [← hR] at key
    obtain ⟨mid, al, d5⟩ := R
    obtain ⟨r1, r2, r3, r4, r5, r6, r7⟩ := round_part swoI (partition_holds ltInt) hp1 hp2 (by omega) G.below hR.symm
    refine Calls.mono key fun en w' ⟨he, hA', hc'⟩ => ⟨_, he, Goes.arr hN hS sd4 (r3.trans sd4) hA' hc' (by simp) (r := .tup [.int .i64 (.nat mid), .bool (.v al)]) rfl rfl ?_⟩
    refine X.go T58_ok 400 _ rfl Try.results58 ?_
    conv => arg 2; cbv
    refine X.cond rfl (fun hlt => ?_) (fun hge => ?_)
    · refine X.go T58_ok 400 _ rfl Try.results58 ?_
      conv => arg 2; cbv
      refine X.call rfl rfl rfl rfl Try.call58 (fun N w1 args hN hS ha => ?_)
      have ha : args = [.slice p n c, .int .i64 a1, .int .i64 mid, .int .i64 l2] := (Option.some.inj ha).symm
      rw [ha]
      refine Calls.mono (ih a1 mid l2 d5 w1 (by omega) (Sat.arr hS hA hn (r3.trans sd4)).1 (r3.trans sd4) r1 (by omega) (by omega) r4) fun en w' ⟨L, ⟨h1, h2⟩, he, hA', hc'⟩ => ⟨_, he, Goes.arr hN hS (r3.trans sd4) (h1.1.trans (r3.trans sd4)) hA' hc' (by simp) (r := .tup []) rfl rfl ?_⟩
      refine X.go T58_ok 400 _ rfl Try.results58 ?_
      conv => arg 2; cbv
      refine X.anyB 8 rfl (fun wb' => ?_)
      obtain ⟨k1, k2⟩ := r6 L h1 h2
      refine X.back (fun N ac w' hN hf hS => hq ⟨(((mid + 1, e1, l2), (wb', al)), L), ⟨h1.1.trans (r3.trans sd4), by simp only; omega, by simp only; omega, ghi, glim, k1, fun R h3 h4 => G.ends R (k2 R h3 h4).1 (k2 R h3 h4).2⟩⟩ ac w' (by simp only; omega) ?_)
      exact At.again hf hS (by repeat first | exact trivial | refine ⟨⟨_, rfl, .inl ⟨rfl, rfl⟩⟩, ?_⟩ | refine ⟨⟨_, rfl, .inr ⟨_, rfl, rfl⟩⟩, ?_⟩ | refine ⟨⟨_, rfl, .inr ⟨_, rfl, (by first | (simp (disch := omega) only [SV.den, SI.den, wrapN, Option.some.injEq, Value.int.injEq, true_and]; done) | (simp (disch := omega) only [SV.den, SI.den, wrapN, Option.some.injEq, Value.int.injEq, true_and]; omega))⟩⟩, ?_⟩) trivial
    · refine X.go T58_ok 400 _ rfl Try.results58 ?_
      conv => arg 2; cbv
      obtain ⟨md1, hmd1⟩ : ∃ k, k = mid + 1 := ⟨_, rfl⟩
      refine X.call rfl rfl rfl rfl Try.call58 (fun N w1 args hN hS ha => ?_)
      have ha : args = [.slice p n c, .int .i64 (IntKind.i64.wrap ((mid : Int) + 1)), .int .i64 e1, .int .i64 l2] := (Option.some.inj ha).symm
      rw [wrapN _ (by omega) (by omega), show (mid : Int) + 1 = ((mid + 1 : Nat) : Int) by omega] at ha
      rw [ha]
      refine Calls.mono (ih (mid + 1) e1 l2 d5 w1 (by omega) (Sat.arr hS hA hn (r3.trans sd4)).1 (r3.trans sd4) (by omega) (by omega) (by omega) r5) fun en w' ⟨L, ⟨h1, h2⟩, he, hA', hc'⟩ => ⟨_, he, Goes.arr hN hS (r3.trans sd4) (h1.1.trans (r3.trans sd4)) hA' hc' (by simp) (r := .tup []) rfl rfl ?_⟩
      refine X.go T58_ok 400 _ rfl Try.results58 ?_
      conv => arg 2; cbv
      refine X.anyB 8 rfl (fun wb' => ?_)
      obtain ⟨k1, k2⟩ := r7 L h1 h2
      refine X.back (fun N ac w' hN hf hS => hq ⟨(((a1, mid, l2), (wb', al)), L), ⟨h1.1.trans (r3.trans sd4), glo, r1, by simp only; omega, glim, k1, fun R h3 h4 => G.ends R (k2 R h3 h4).1 (k2 R h3 h4).2⟩⟩ ac w' (by simp only; omega) ?_)
      exact At.again hf hS (by repeat first | exact trivial | refine ⟨⟨_, rfl, .inl ⟨rfl, rfl⟩⟩, ?_⟩ | refine ⟨⟨_, rfl, .inr ⟨_, rfl, rfl⟩⟩, ?_⟩ | refine ⟨⟨_, rfl, .inr ⟨_, rfl, (by first | (simp (disch := omega) only [SV.den, SI.den, wrapN, Option.some.injEq, Value.int.injEq, true_and]; done) | (simp (disch := omega) only [SV.den, SI.den, wrapN, Option.some.injEq, Value.int.injEq, true_and]; omega))⟩⟩, ?_⟩) trivial

end Go.Proofs.Ythaffebapmkppaa
