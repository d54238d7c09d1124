/- The ring: built. -/
import Derived.Test.YthaffebapmkppaaRi4

namespace Go.Proofs.Ythaffebapmkppaa
open Go Go.Eng Go.Sort

def srtA (d : Array Int) : Array Int := (d.toList.mergeSort fun x y => !ltInt y x).toArray
def ascA (d : Array Int) : Array Int := (Go.Lib.compactUpTo (srtA d) d.size).toArray
def ptsTo (n : Int) (v : Nat) : List (Int × Int) := (List.range v).map fun v : Nat => (placeZ n v, n)
def ptsOf (n : Int) : List (Int × Int) := ptsTo n 8
def ringTo (a : Array Int) (i : Nat) : List (Int × Int) := (a.toList.take i).flatMap ptsOf
def ringU (a : Array Int) : List (Int × Int) := a.toList.flatMap ptsOf
def ringP (d : Array Int) : List (Int × Int) := (ringU (ascA d)).mergeSort fun x y => !ltOf cfP y x

theorem srtA_of {d L : Array Int} {n : Nat} (hn : d.size = n) (h1 : PermIn 0 n d L) (h2 : SortedIn ltInt 0 n L) : L = srtA d := by
  subst hn
  apply Array.toList_inj.1
  rw [sorted_unique_holds swo_ltInt (fun x y h1 h2 => by simp [ltInt] at h1 h2; omega) d L h1 h2]
  rfl
theorem srtA_size (d : Array Int) : (srtA d).size = d.size := by simp [srtA]
theorem ascA_size (d : Array Int) : (ascA d).size ≤ d.size := by
  simp only [ascA, Go.Lib.compactUpTo, List.size_toArray, List.length_map]
  exact Nat.le_trans (List.length_filter_le _ _) (by simp)

def ptS (x : Int × Int) : List SV := [.int .u64 (.v x.1), .int .u8 (.v x.2)]
def ptsL (L : List (Int × Int)) : List SV := L.flatMap ptS
theorem ptsL_len (L : List (Int × Int)) : (ptsL L).length = L.length * 2 := by
  induction L with
  | nil => rfl
  | cons x L ih => simp only [ptsL, List.flatMap_cons, List.length_append] at ih ⊢; rw [ih]; simp [ptS]; omega
theorem ptsL_mem {L : List (Int × Int)} {c : SV} (h : c ∈ ptsL L) : ∃ k z, c = .int k (.v z) := by
  obtain ⟨x, _, hc⟩ := List.mem_flatMap.1 h
  simp [ptS] at hc
  rcases hc with rfl | rfl <;> exact ⟨_, _, rfl⟩
theorem ptsL_bd {L : List (Int × Int)} {m : Nat} : (ptsL L).all (bd m) = true := List.all_eq_true.2 fun c hc => by
  obtain ⟨k, z, rfl⟩ := ptsL_mem hc; rfl
theorem ptsL_add (L : List (Int × Int)) (x : Int × Int) : ptsL (L ++ [x]) = ptsL L ++ ptS x := by simp [ptsL]
theorem ptsL_den {L : List (Int × Int)} {c : SV} {N N' : Nums} {v : Value} (h : c ∈ ptsL L) (hv : c.den N = some v) : c.den N' = some v := by
  obtain ⟨k, z, rfl⟩ := ptsL_mem h
  exact hv
theorem wrapP {v : Nat} (h : v < 256) : IntKind.u8.wrap (v : Int) = v := by
  simp [IntKind.wrap, IntKind.bits, IntKind.signed]
  omega
/-- the ring as it grows -/
def ringV (L : List (Int × Int)) : SV := match L with | [] => .raw (.slice none 0 0) | _ :: _ => .osl 0 0 L.length 2 none
def ringR (L : List (Int × Int)) : List Rg := match L with | [] => [] | _ :: _ => [⟨true, ptsL L, none⟩]
theorem ringV_pos {L : List (Int × Int)} (h : L ≠ []) : ringV L = .osl 0 0 L.length 2 none := by cases L with | nil => exact absurd rfl h | cons => rfl
theorem ringR_pos {L : List (Int × Int)} (h : L ≠ []) : ringR L = [⟨true, ptsL L, none⟩] := by cases L with | nil => exact absurd rfl h | cons => rfl
theorem ptsTo_succ (x : Int) (v : Nat) : ptsTo x (v + 1) = ptsTo x v ++ [(placeZ x v, x)] := by simp [ptsTo, List.range_succ]
theorem ptsTo_len (x : Int) (v : Nat) : (ptsTo x v).length = v := by simp [ptsTo]
theorem ringTo_len (a : Array Int) (i : Nat) (h : i ≤ a.size) : (ringTo a i).length = i * 8 := by
  have : ∀ l : List Int, (l.flatMap ptsOf).length = l.length * 8 := fun l => by
    induction l with
    | nil => rfl
    | cons x l ih => rw [List.flatMap_cons, List.length_append, ih, ptsOf, ptsTo_len]; simp; omega
  rw [ringTo, this]
  simp; omega
theorem ringTo_succ (a : Array Int) (i : Nat) (h : i < a.size) : ringTo a (i + 1) = ringTo a i ++ ptsTo a[i]! 8 := by
  unfold ringTo
  rw [List.take_add_one, List.flatMap_append, List.getElem?_eq_getElem (by simpa using h), getElem!_pos a i h]
  simp [ptsOf]
theorem ringTo_all (a : Array Int) : ringTo a a.size = ringU a := by
  unfold ringTo ringU
  rw [List.take_of_length_le (by simp)]

/-- points that are new -/
def PtsRet (L : List (Int × Int)) (w : World) (e : Ending) (w' : World) : Prop :=
  ∃ p c, e = .returned (.slice p L.length c) ∧ (L = [] ∨ ∃ b o, p = some ⟨b, o, none⟩ ∧ w.heap.size ≤ b ∧ HoldsK ptC 2 w' b o L.toArray) ∧ Chg (fun _ _ => False) w w'

theorem AtA.loc {b y n : Nat} {d : Array Int} (h : d.size ≤ n) : Eng.Loc (arrD b y n) (fun w => AtA w b y d) := Eng.Loc.cells fun w w' hs _ hA k hk => by
  obtain ⟨h1, h2⟩ := hs b (y + k) ⟨rfl, by omega, by omega⟩
  rw [h1, h2]
  exact hA k hk
theorem AtA.there {b y n : Nat} {d : Array Int} {w : World} (h : n ≤ d.size) (hA : AtA w b y d) {k o : Nat} (hk : arrD b y n k o) : There w k o := by
  obtain ⟨rfl, h2, h3⟩ := hk
  have := (hA (o - y) (by omega)).1
  rw [show y + (o - y) = o by omega] at this
  exact .inl (by rw [this]; rfl)
theorem els_new {w : World} {k o : Nat} (h : w.heap.size ≤ k) : elsewhere [] [] w k o = none := by
  unfold elsewhere
  split
  · rfl
  · simp [World.cell?, Array.getElem?_eq_none h]

theorem els_old {w : World} {k o : Nat} : elsewhere [] [] w k o = w.cell? ⟨k, o, none⟩ := by
  unfold elsewhere
  rw [if_neg (fun h => inR_nil h)]

theorem X.seeA {P : Program} {fn : Func} {Q : Ending → World → Prop} {W : World} {O : Nat → Nat → Prop} {im : Mem} {N0 : Nums} {B : SchT} {b y n : Nat} {d : Array Int} {k : List It} {s : St} (hd : d.size ≤ n)
    (h : X (mkE P fn Q W O (arrM im b y d) (arrD b y n) (fun w => AtA w b y d) N0 B) k s) : X (mkE P fn Q W O im (arrD b y n) (fun w => AtA w b y d) N0 B) k s := by
  refine X.conv fun N a w hN hf hS => ⟨mkE P fn Q W O (arrM im b y d) (arrD b y n) (fun w => AtA w b y d) N0 B, s, rfl, rfl, rfl, rfl, ⟨N, hN, hf, Sat.imSay (E := (mkE P fn Q W O im (arrD b y n) (fun w => AtA w b y d) N0 B).toEnv) hS fun k o v hv => ?_⟩, h⟩
  rcases arrM_some hv with ⟨⟨e1, e2, e3⟩, e4⟩ | ⟨_, e⟩
  · have hA : AtA w b y d := hS.res
    refine .inr ⟨⟨e1, e2, by omega⟩, ?_⟩
    have := (hA (o - y) (by omega)).1
    rw [show y + (o - y) = o by omega] at this
    rw [e1, e4, this]
  · exact .inl e

/-! ### the order of points -/
theorem ltP (x y : Int × Int) : ltOf cfP x y = decide (x.1 < y.1 ∨ (x.1 = y.1 ∧ x.2 < y.2)) := by
  obtain ⟨x1, x2⟩ := x
  obtain ⟨y1, y2⟩ := y
  unfold ltOf cfP Lib.compareInt
  simp only
  by_cases h1 : x1 < y1
  · simp [h1]
  · by_cases h2 : y1 < x1
    · have : ¬ x1 = y1 := by omega
      simp [h1, h2, this]
    · have : x1 = y1 := by omega
      subst this
      by_cases h3 : x2 < y2
      · simp [h3]
      · by_cases h4 : y2 < x2 <;> simp [h3, h4]
theorem swoP : SWO (ltOf cfP) where
  irrefl x := by rw [ltP]; simp
  trans x y z h1 h2 := by rw [ltP] at *; simp only [decide_eq_true_eq] at *; omega
  ntrans x y z h1 h2 := by rw [ltP] at *; simp only [decide_eq_false_iff_not] at *; omega
theorem totP (x y : Int × Int) (h1 : ltOf cfP x y = false) (h2 : ltOf cfP y x = false) : x = y := by
  rw [ltP] at *
  simp only [decide_eq_false_iff_not] at *
  exact Prod.ext (by omega) (by omega)

/-! ### memory that a sort of points turned -/
theorem chg_putRowId {w : World} (b y : Nat) (F : Array Value) : Chg (arrD b y F.size) w (Go.Sort.putRow id w b y F) := by
  refine chg_mapBlock (fun c => by simp [Go.Sort.putCells]) (fun c o ho => ?_)
  simp only [Go.Sort.putCells, Array.getElem?_mapIdx]
  cases c[o]? with
  | none => rfl
  | some x => simp [ho]
theorem chg_grow (w : World) (os : Array Obj) : Chg (fun _ _ => False) w (Go.Sort.grow w os) := by
  refine ⟨rfl, rfl, rfl, by simp [Go.Sort.grow], Nat.le_refl _, fun k hk _ => ?_, fun k c e f hc => ⟨c, ?_, rfl, fun _ _ => rfl⟩⟩
  · simp [Go.Sort.grow, Array.getElem?_append_left hk]
  · have hk : k < w.heap.size := (Array.getElem?_eq_some_iff.1 hc).1
    simp [Go.Sort.grow, Array.getElem?_append_left hk, hc]
theorem chg_sortK {w : World} (b y m : Nat) (d : Array (Int × Int)) (os : Array Obj) : Chg (arrD b y (d.size * 2)) w (sortWorldK ptC 2 w b y m d os) := by
  have h := chg_putRowId (w := Go.Sort.ahead w m) b y (flatK ptC 2 d)
  rw [size_flatK] at h
  exact (((Chg.drewN (w := w) m).mono fun _ _ _ h => h.elim).trans h fun _ _ _ h => h).trans (chg_grow _ os) fun _ _ _ h => h.elim

theorem HoldsK.loc {b y n : Nat} {d : Array (Int × Int)} (h : d.size * 2 ≤ n) : Eng.Loc (arrD b y n) (fun w => HoldsK ptC 2 w b y d) := Eng.Loc.cells fun w w' hs _ hA k hk => by
  have hk' : k < d.size * 2 := by rw [size_flatK] at hk; exact hk
  obtain ⟨h1, h2⟩ := hs b (y + k) ⟨rfl, by omega, by omega⟩
  rw [h1, h2]
  exact hA k hk

theorem ptsL_get : ∀ (L : List (Int × Int)) (j : Nat), j < L.length * 2 → ∃ c, (ptsL L)[j]? = some c ∧ ∀ N, c.den N = some (flatK ptC 2 L.toArray)[j]!
  | [], j, h => absurd h (by simp)
  | x :: L, 0, _ => ⟨_, rfl, fun N => by rw [get_flatK _ _ _ _ (by simp)]; rfl⟩
  | x :: L, 1, _ => ⟨_, rfl, fun N => by rw [get_flatK _ _ _ _ (by simp; omega)]; rfl⟩
  | x :: L, j + 2, h => by
    have h' : j < L.length * 2 := by simp at h; omega
    obtain ⟨c, h1, h2⟩ := ptsL_get L j h'
    refine ⟨c, by rw [← h1]; rfl, fun N => ?_⟩
    rw [h2 N, get_flatK _ _ L.toArray _ (by simpa using h'), get_flatK _ _ (x :: L).toArray _ (by simpa using h)]
    rw [show (j + 2) / 2 = j / 2 + 1 by omega, show (j + 2) % 2 = j % 2 by omega]
    congr 3
    have : j / 2 < L.length := by omega
    simp [this]

set_option maxHeartbeats 4000000 in
set_option maxRecDepth 100000 in
set_option cbv.maxSteps 100000000 in
theorem build_pos (p0 : Option Addr) (n cp : Nat) (d : Array Int) (w : World) (hs : p0 ≠ none) (hle : n ≤ 1000) (hA : InB p0 n d w) :
    Calls Try.prog 13 #[.slice p0 n cp] w (PtsRet (ringP d) w) := by
  have hn := hA.1
  refine X.begin (rg := []) (N := []) (ss := [.slv p0 n cp]) Try.func13 rfl B13_ok rfl rfl Sat.std0 ?_
  refine X.go T13_ok 400 _ rfl Try.results13 ?_
  conv => arg 2; cbv
  refine X.call rfl rfl rfl rfl Try.call36 (fun N w1 args hN hS ha => ?_)
  have ha : args = [.slice p0 n cp] := (Option.some.inj ha).symm
  rw [ha]
  refine (clone8_any p0 n cp d w1 hs hle (hA.stays hS.chg.none)).mono fun e w2 ⟨b1, y1, c1, he, hfr, hdc, hA1, hch⟩ => ⟨_, he, ?_⟩
  have hfw : 0 < n → w.heap.size ≤ b1 := fun h => Nat.le_trans hS.chg.size (hfr (by omega))
  have hDw : ∀ k o, arrD b1 y1 n k o → w.heap.size ≤ k := fun k o ⟨e1, e2, e3⟩ => by rw [e1]; exact hfw (by omega)
  refine Goes.turn (r := .slv (some ⟨b1, y1, none⟩) d.size c1) (arrD b1 y1 n) (fun w => AtA w b1 y1 d) hN hS hch (fun _ _ h => h.elim) (fun _ _ h => h.elim) (by simp) (fun k o hk => ⟨.inr (by obtain ⟨e1, e2, e3⟩ := hk; rw [e1]; exact hfr (by omega)), hA1.there (by omega) hk⟩) (AtA.loc (by omega)) hA1 rfl rfl ?_
  clear hA1 hch hfr he ha hS hN hA
  obtain ⟨p1, hp1⟩ : ∃ p, p = some (Addr.mk b1 y1 none) := ⟨_, rfl⟩
  rw [hn, ← hp1]
  show X (mkE Try.prog Try.f13 (PtsRet (ringP d) w) w (InR [] []) (elsewhere [] [] w) (arrD b1 y1 n) (fun w => AtA w b1 y1 d) [] B13) _ _
  refine X.go T13_ok 400 _ rfl Try.results13 ?_
  conv => arg 2; cbv
  refine X.call rfl rfl rfl rfl Try.call35 (fun N w1 args hN hS ha => ?_)
  have ha : args = [.slice p1 n c1] := (Option.some.inj ha).symm
  rw [ha, hp1]
  refine (sort8_ok b1 y1 n c1 d w1 hS.res hn (by omega)).mono fun e w2 ⟨L, ⟨h1, h2⟩, he, hA1, hch⟩ => ⟨_, he, ?_⟩
  have hL := srtA_of hn h1 h2
  subst hL
  have hsn : (srtA d).size = n := by rw [srtA_size, hn]
  refine Goes.turn (r := .tup []) (arrD b1 y1 n) (fun w => AtA w b1 y1 (srtA d)) hN hS hch (fun k o h => .inl (hDw k o h)) (fun k o h => els_new (hDw k o h)) (by simp) (fun k o hk => ⟨.inl hk, hA1.there (by omega) hk⟩) (AtA.loc (by omega)) hA1 rfl rfl ?_
  clear hA1 hch he ha hS hN h1 h2
  show X (mkE Try.prog Try.f13 (PtsRet (ringP d) w) w (InR [] []) (elsewhere [] [] w) (arrD b1 y1 n) (fun w => AtA w b1 y1 (srtA d)) [] B13) _ _
  refine X.go T13_ok 400 _ rfl Try.results13 ?_
  conv => arg 2; cbv
  refine X.call rfl rfl rfl rfl Try.call37 (fun N w1 args hN hS ha => ?_)
  have ha : args = [.slice (some ⟨b1, y1, none⟩) n c1] := (Option.some.inj ha).symm
  rw [ha]
  have hAs : AtA w1 b1 y1 (srtA d) := hS.res
  refine (compact8_ok b1 y1 n c1 (srtA d) w1 hAs hsn (by omega) (by omega)).mono fun e w2 ⟨he, hA1, hch⟩ => ⟨_, he, ?_⟩
  obtain ⟨a, ha⟩ : ∃ a, a = ascA d := ⟨_, rfl⟩
  rw [show (Go.Lib.compactUpTo (srtA d) n).toArray = a by rw [ha, ascA, hn]] at hA1
  obtain ⟨m, hm⟩ : ∃ m, m = a.size := ⟨_, rfl⟩
  rw [show (Go.Lib.compactUpTo (srtA d) n).length = m by rw [hm, ha, ascA, hn]; simp]
  have hmn : m ≤ n := by rw [hm, ha, ← hn]; exact ascA_size d
  refine Goes.turn (r := .slv (some ⟨b1, y1, none⟩) m c1) (arrD b1 y1 n) (fun w => AtA w b1 y1 a) hN hS hch (fun k o h => .inl (hDw k o h)) (fun k o h => els_new (hDw k o h)) (by simp) (fun k o hk => ⟨.inl hk, ?_⟩) (AtA.loc (by omega)) hA1 rfl rfl ?_
  · obtain ⟨rfl, h2, h3⟩ := hk
    have := (hAs (o - y1) (by omega)).1
    rw [show y1 + (o - y1) = o by omega] at this
    exact .inl (some_of_chg hch o (by rw [this]; rfl))
  rw [show ringP d = (ringU a).mergeSort fun x y => !ltOf cfP y x by rw [ha]; rfl]
  clear hA1 hch he hS hN hsn hAs
  rw [← hp1]
  show X (mkE Try.prog Try.f13 (PtsRet _ w) w (InR [] []) (elsewhere [] [] w) (arrD b1 y1 n) (fun w => AtA w b1 y1 a) [] B13) _ _
  refine X.seeA (by omega) ?_
  obtain ⟨im, him⟩ : ∃ im, im = arrM (elsewhere [] [] w) b1 y1 a := ⟨_, rfl⟩
  rw [← him]
  have hld : ∀ i, i < m → im b1 (y1 + i) = some (.int .u8 a[i]!) := fun i hi => by rw [him]; exact arrM_in (by omega)
  refine X.go T13_ok 400 _ rfl Try.results13 ?_
  conv => arg 2; cbv
  refine X.loop (fun _ : {i : Nat // i ≤ m} => mkE Try.prog Try.f13 (PtsRet ((ringU a).mergeSort fun x y => !ltOf cfP y x) w) w (InR [] []) im (arrD b1 y1 n) (fun w => AtA w b1 y1 a) [] B13)
    (fun g => ⟨[(4, .val (ringV (ringTo a g.1))), (13, .val (.slv p1 m c1)), (14, .val (.int .i64 (.nat m))), (15, .val (.int .i64 (.nat g.1)))], ringR (ringTo a g.1)⟩) (fun g => m - g.1) (fun _ => ⟨rfl, rfl, rfl, rfl⟩) (fun N ac w' hN hf hS => ⟨⟨0, Nat.zero_le _⟩, ?_⟩) (fun g q hq => ?_)
  · exact At.again hf hS (by repeat first | exact trivial | refine ⟨⟨_, rfl, .inl ⟨rfl, rfl⟩⟩, ?_⟩ | refine ⟨⟨_, rfl, .inr ⟨_, rfl, rfl⟩⟩, ?_⟩ | refine ⟨⟨_, rfl, .inr ⟨_, rfl, by simp (disch := omega) [SV.den, SI.den, wrapU, wrapD] <;> omega⟩⟩, ?_⟩) trivial
  obtain ⟨i, hi⟩ := g
  obtain ⟨L0, hL0⟩ : ∃ L, L = ringTo a i := ⟨_, rfl⟩
  obtain ⟨vs, hvs⟩ : ∃ V, V = ringV L0 := ⟨_, rfl⟩
  obtain ⟨rs, hrs⟩ : ∃ V, V = ringR L0 := ⟨_, rfl⟩
  show X (mkE Try.prog Try.f13 (PtsRet ((ringU a).mergeSort fun x y => !ltOf cfP y x) w) w (InR [] []) im (arrD b1 y1 n) (fun w => AtA w b1 y1 a) [] B13) _ ⟨[(4, .val (ringV (ringTo a i))), (13, .val (.slv p1 m c1)), (14, .val (.int .i64 (.nat m))), (15, .val (.int .i64 (.nat i)))], ringR (ringTo a i)⟩
  rw [← hL0, ← hvs, ← hrs]
  refine X.go T13_ok 400 _ rfl Try.results13 ?_
  conv => arg 2; cbv
  refine X.cond rfl (fun hlt => ?_) (fun hge => ?_)
  · simp only [SB.T, SI.den] at hlt
    have hlt : i < m := by omega
    obtain ⟨x, hx⟩ : ∃ x, a[i]! = x := ⟨_, rfl⟩
    obtain ⟨oi, hoi⟩ : ∃ o, o = y1 + i := ⟨_, rfl⟩
    refine X.goP ([(17, .ext b1 oi 0), (18, .int .u8 (.v x))]) T13_ok 400 _ rfl Try.results13 (fun pr fin hpr hfin => ?_)
    conv => cbv
    refine ⟨hpr _ (ValOk.im1 rfl Try.isAgg5 (fun _ => rfl) fun _ => by rw [← hx, Nat.add_zero, hoi]; exact hld i hlt), hpr _ (ValOk.at (z := i) rfl rfl (fun _ => rfl) Try.underlying22 Try.sizeOf5 (fun _ => hlt) hp1 (by omega)), hfin _ _ ?_⟩
    refine X.loop (fun _ : {v : Nat // v ≤ 8} => mkE Try.prog Try.f13 (PtsRet ((ringU a).mergeSort fun x y => !ltOf cfP y x) w) w (InR [] []) im (arrD b1 y1 n) (fun w => AtA w b1 y1 a) [] B13)
      (fun g => ⟨[(4, .val (ringV (L0 ++ ptsTo x g.1))), (6, .val (.int .u8 (.v x))), (13, .val (.slv p1 m c1)), (14, .val (.int .i64 (.nat m))), (15, .val (.int .i64 (.nat i))), (19, .val (.int .i64 (.nat g.1)))], ringR (L0 ++ ptsTo x g.1)⟩) (fun g => 8 - g.1) (fun _ => ⟨rfl, rfl, rfl, rfl⟩) (fun N ac w' hN hf hS => ⟨⟨0, Nat.zero_le _⟩, ?_⟩) (fun g q2 hq2 => ?_)
    · show At (mkE Try.prog Try.f13 (PtsRet ((ringU a).mergeSort fun x y => !ltOf cfP y x) w) w (InR [] []) im (arrD b1 y1 n) (fun w => AtA w b1 y1 a) [] B13) ⟨[(4, .val (ringV (L0 ++ ptsTo x 0))), (6, .val (.int .u8 (.v x))), (13, .val (.slv p1 m c1)), (14, .val (.int .i64 (.nat m))), (15, .val (.int .i64 (.nat i))), (19, .val (.int .i64 (.nat 0)))], ringR (L0 ++ ptsTo x 0)⟩ ac w'
      rw [show L0 ++ ptsTo x 0 = L0 from List.append_nil _]
      subst hvs hrs
      cases L0 with
      | nil => exact At.again hf hS (by repeat first | exact trivial | refine ⟨⟨_, rfl, .inl ⟨rfl, rfl⟩⟩, ?_⟩ | refine ⟨⟨_, rfl, .inr ⟨_, rfl, rfl⟩⟩, ?_⟩ | refine ⟨⟨_, rfl, .inr ⟨_, rfl, by simp (disch := omega) [SV.den, SI.den, wrapU, wrapD] <;> omega⟩⟩, ?_⟩) trivial
      | cons z L1 => exact At.again hf hS (by repeat first | exact trivial | refine ⟨⟨_, rfl, .inl ⟨rfl, rfl⟩⟩, ?_⟩ | refine ⟨⟨_, rfl, .inr ⟨_, rfl, rfl⟩⟩, ?_⟩ | refine ⟨⟨_, rfl, .inr ⟨_, rfl, by simp (disch := omega) [SV.den, SI.den, wrapU, wrapD] <;> omega⟩⟩, ?_⟩) ⟨fun h => h, SubC.refl ptsL_bd, rfl, trivial⟩
    obtain ⟨v, hv⟩ := g
    obtain ⟨L, hL⟩ : ∃ L, L = L0 ++ ptsTo x v := ⟨_, rfl⟩
    have hlen : L.length = i * 8 + v := by rw [hL, List.length_append, hL0, ringTo_len a i (by omega), ptsTo_len]
    show X (mkE Try.prog Try.f13 (PtsRet ((ringU a).mergeSort fun x y => !ltOf cfP y x) w) w (InR [] []) im (arrD b1 y1 n) (fun w => AtA w b1 y1 a) [] B13) _ ⟨[(4, .val (ringV (L0 ++ ptsTo x v))), (6, .val (.int .u8 (.v x))), (13, .val (.slv p1 m c1)), (14, .val (.int .i64 (.nat m))), (15, .val (.int .i64 (.nat i))), (19, .val (.int .i64 (.nat v)))], ringR (L0 ++ ptsTo x v)⟩
    rw [← hL]
    clear hvs hrs
    obtain ⟨h, hh⟩ : ∃ h, h = placeZ x v := ⟨_, rfl⟩
    by_cases hz : L = []
    · rw [hz]
      rw [hz] at hlen hL
      have hlen : 0 = i * 8 + v := hlen
      have hv0 : v = 0 := by omega
      show X (mkE Try.prog Try.f13 (PtsRet ((ringU a).mergeSort fun x y => !ltOf cfP y x) w) w (InR [] []) im (arrD b1 y1 n) (fun w => AtA w b1 y1 a) [] B13) _ ⟨[(4, .val (.raw (.slice none 0 0))), (6, .val (.int .u8 (.v x))), (13, .val (.slv p1 m c1)), (14, .val (.int .i64 (.nat m))), (15, .val (.int .i64 (.nat i))), (19, .val (.int .i64 (.nat v)))], []⟩
      refine X.go T13_ok 400 _ rfl Try.results13 ?_
      conv => arg 2; cbv
      refine X.cond rfl (fun hlt2 => ?_) (fun hge2 => ?_)
      · have hlt3 : v < 8 := by simp only [SB.T, SI.den] at hlt2; omega
        refine X.goP ([(26, .int .u64 (.v h))]) T13_ok 17 _ rfl Try.results13 (fun pr fin hpr hfin => ?_)
        conv => cbv
        refine ⟨hpr _ (.of Try.call38 [.int .u8 x, .int .u8 v] (.int .u64 h) (fun N => by simp (disch := omega) [SV.denL, SV.den, SI.den, wrapP]) (fun _ => rfl) fun _ w1 _ => by rw [hh]; exact place_ok x v w1), hfin _ _ ?_⟩
        refine X.opEq (T := T13) T13_ok (opE_append (te := ti52) (new := ptS (h, x)) (m := 1) rfl rfl rfl rfl rfl rfl rfl rfl (appSrc_row (g := ⟨true, ptS (h, x), none⟩) rfl rfl rfl rfl) (appV_nil (by decide) (appOk_ok (by decide) rfl rfl rfl (by decide) (by decide))) rfl) ?_
        refine X.go T13_ok 400 _ rfl Try.results13 ?_
        conv => arg 2; cbv
        refine X.less [4, 6, 13, 14, 15, 19] ?_
        refine X.shift (rg := [⟨true, ptS (h, x), none⟩]) rfl [(19, .val (.int .i64 (.wrap .i64 (.add (.nat v) (.lit 1))))), (4, .val (.osl 0 0 1 2 none)), (6, .val (.int .u8 (.v x))), (13, .val (.slv p1 m c1)), (14, .val (.int .i64 (.nat m))), (15, .val (.int .i64 (.nat i)))] (fun p0 N => ⟨rfl, fun _ h => h, rfl, fun _ h => h, rfl, fun _ h => h, rfl, fun _ h => h, rfl, fun _ h => h, rfl, fun _ h => h, trivial⟩) (fun g hg c hc p0 N v hv => ?_) (fun g hg => ?_) ?_
        · simp only [List.mem_cons, List.not_mem_nil, or_false] at hg
          subst hg
          exact ptsL_den (L := [(h, x)]) hc hv
        · simp only [List.mem_cons, List.not_mem_nil, or_false] at hg
          subst hg; rfl
        simp only [SB.T, SI.den] at hlt2
        refine X.back (fun N ac w' hN hf hS => hq2 ⟨v + 1, by omega⟩ ac w' (by simp only; omega) ?_)
        show At (mkE Try.prog Try.f13 (PtsRet ((ringU a).mergeSort fun x y => !ltOf cfP y x) w) w (InR [] []) im (arrD b1 y1 n) (fun w => AtA w b1 y1 a) [] B13) ⟨[(4, .val (ringV (L0 ++ ptsTo x (v + 1)))), (6, .val (.int .u8 (.v x))), (13, .val (.slv p1 m c1)), (14, .val (.int .i64 (.nat m))), (15, .val (.int .i64 (.nat i))), (19, .val (.int .i64 (.nat (v + 1))))], ringR (L0 ++ ptsTo x (v + 1))⟩ ac w'
        rw [show L0 ++ ptsTo x (v + 1) = [(h, x)] by rw [ptsTo_succ, ← List.append_assoc, ← hL, hh]; rfl]
        exact At.again hf hS (by repeat first | exact trivial | refine ⟨⟨_, rfl, .inl ⟨rfl, rfl⟩⟩, ?_⟩ | refine ⟨⟨_, rfl, .inr ⟨_, rfl, rfl⟩⟩, ?_⟩ | refine ⟨⟨_, rfl, .inr ⟨_, rfl, by simp (disch := omega) [SV.den, SI.den, wrapU, wrapD] <;> omega⟩⟩, ?_⟩) ⟨fun h => h, SubC.refl rfl, rfl, trivial⟩
      · simp only [SB.F, SI.den] at hge2
        omega
    · rw [ringV_pos hz, ringR_pos hz]
      obtain ⟨cs, hcs⟩ : ∃ c, c = ptsL L := ⟨_, rfl⟩
      rw [← hcs]
      obtain ⟨ll, hll⟩ : ∃ q, q = L.length := ⟨_, rfl⟩
      rw [← hll] at hlen ⊢
      have hcl : cs.length = ll * 2 := by rw [hcs, ptsL_len, hll]
      refine X.go T13_ok 400 _ rfl Try.results13 ?_
      conv => arg 2; cbv
      refine X.cond rfl (fun hlt2 => ?_) (fun hge2 => ?_)
      · have hlt3 : v < 8 := by simp only [SB.T, SI.den] at hlt2; omega
        refine X.goP ([(26, .int .u64 (.v h))]) T13_ok 17 _ rfl Try.results13 (fun pr fin hpr hfin => ?_)
        conv => cbv
        refine ⟨hpr _ (.of Try.call38 [.int .u8 x, .int .u8 v] (.int .u64 h) (fun N => by simp (disch := omega) [SV.denL, SV.den, SI.den, wrapP]) (fun _ => rfl) fun _ w1 _ => by rw [hh]; exact place_ok x v w1), hfin _ _ ?_⟩
        refine X.opEq (T := T13) T13_ok (opE_append (te := ti52) (new := ptS (h, x)) (m := 1) rfl rfl rfl rfl rfl rfl rfl rfl (appSrc_row (g := ⟨true, ptS (h, x), none⟩) rfl rfl rfl rfl) (appV_hid (te := ti52) (cs := cs) rfl hcl (by decide) (appOk_ok (by decide) rfl rfl rfl (by show (2 * (ll + 1) + 256) * 16 ≤ _; omega) (by omega))) rfl) ?_
        obtain ⟨cs2, hcs2⟩ : ∃ c, c = cs ++ ptS (h, x) := ⟨_, rfl⟩
        rw [← hcs2]
        refine X.go T13_ok 400 _ rfl Try.results13 ?_
        conv => arg 2; cbv
        refine X.less [4, 6, 13, 14, 15, 19] ?_
        have hc2 : cs2 = ptsL (L ++ [(h, x)]) := by rw [hcs2, hcs, ptsL_add]
        refine X.shift (rg := [⟨true, ptS (h, x), none⟩, ⟨true, cs2, none⟩]) rfl [(19, .val (.int .i64 (.wrap .i64 (.add (.nat v) (.lit 1))))), (4, .val (.osl 1 0 (ll + 1) 2 none)), (6, .val (.int .u8 (.v x))), (13, .val (.slv p1 m c1)), (14, .val (.int .i64 (.nat m))), (15, .val (.int .i64 (.nat i)))] (fun p0 N => ⟨rfl, fun _ h => h, rfl, fun _ h => h, rfl, fun _ h => h, rfl, fun _ h => h, rfl, fun _ h => h, rfl, fun _ h => h, trivial⟩) (fun g hg c hc p0 N v hv => ?_) (fun g hg => ?_) ?_
        · simp only [List.mem_cons, List.not_mem_nil, or_false] at hg
          rcases hg with rfl | rfl
          · exact ptsL_den (L := [(h, x)]) hc hv
          · exact ptsL_den (L := L ++ [(h, x)]) (by rw [← hc2]; exact hc) hv
        · simp only [List.mem_cons, List.not_mem_nil, or_false] at hg
          rcases hg with rfl | rfl <;> rfl
        refine X.shift (rg := [⟨true, cs2, none⟩]) rfl [(19, .val (.int .i64 (.wrap .i64 (.add (.nat v) (.lit 1))))), (4, .val (.osl 0 0 (ll + 1) 2 none)), (6, .val (.int .u8 (.v x))), (13, .val (.slv p1 m c1)), (14, .val (.int .i64 (.nat m))), (15, .val (.int .i64 (.nat i)))] (fun p0 N => ⟨rfl, fun _ h => h, rfl, fun _ h => h, rfl, fun _ h => h, rfl, fun _ h => h, rfl, fun _ h => h, rfl, fun _ h => h, trivial⟩) (fun g hg c hc p0 N v hv => ?_) (fun g hg => ?_) ?_
        · simp only [List.mem_cons, List.not_mem_nil, or_false] at hg
          subst hg
          exact ptsL_den (L := L ++ [(h, x)]) (by rw [← hc2]; exact hc) hv
        · simp only [List.mem_cons, List.not_mem_nil, or_false] at hg
          subst hg; rfl
        simp only [SB.T, SI.den] at hlt2
        refine X.back (fun N ac w' hN hf hS => hq2 ⟨v + 1, by omega⟩ ac w' (by simp only; omega) ?_)
        show At (mkE Try.prog Try.f13 (PtsRet ((ringU a).mergeSort fun x y => !ltOf cfP y x) w) w (InR [] []) im (arrD b1 y1 n) (fun w => AtA w b1 y1 a) [] B13) ⟨[(4, .val (ringV (L0 ++ ptsTo x (v + 1)))), (6, .val (.int .u8 (.v x))), (13, .val (.slv p1 m c1)), (14, .val (.int .i64 (.nat m))), (15, .val (.int .i64 (.nat i))), (19, .val (.int .i64 (.nat (v + 1))))], ringR (L0 ++ ptsTo x (v + 1))⟩ ac w'
        rw [show L0 ++ ptsTo x (v + 1) = L ++ [(h, x)] by rw [ptsTo_succ, ← List.append_assoc, ← hL, hh], ringV_pos (by simp), ringR_pos (by simp), ← hc2, List.length_append, ← hll]
        exact At.again hf hS (by repeat first | exact trivial | refine ⟨⟨_, rfl, .inl ⟨rfl, rfl⟩⟩, ?_⟩ | refine ⟨⟨_, rfl, .inr ⟨_, rfl, rfl⟩⟩, ?_⟩ | refine ⟨⟨_, rfl, .inr ⟨_, rfl, by simp (disch := omega) [SV.den, SI.den, wrapU, wrapD] <;> omega⟩⟩, ?_⟩) ⟨fun h => h, SubC.refl (by rw [hc2]; exact ptsL_bd), rfl, trivial⟩
      · simp only [SB.F, SI.den] at hge2
        have hv8 : v = 8 := by omega
        refine X.go T13_ok 400 _ rfl Try.results13 ?_
        conv => arg 2; cbv
        refine X.back (fun N ac w' hN hf hS => hq ⟨i + 1, by omega⟩ ac w' (by simp only; omega) ?_)
        show At (mkE Try.prog Try.f13 (PtsRet ((ringU a).mergeSort fun x y => !ltOf cfP y x) w) w (InR [] []) im (arrD b1 y1 n) (fun w => AtA w b1 y1 a) [] B13) ⟨[(4, .val (ringV (ringTo a (i + 1)))), (13, .val (.slv p1 m c1)), (14, .val (.int .i64 (.nat m))), (15, .val (.int .i64 (.nat (i + 1))))], ringR (ringTo a (i + 1))⟩ ac w'
        rw [show ringTo a (i + 1) = L by rw [ringTo_succ a i (by omega), hx, ← hL0, hL, hv8], ringV_pos hz, ringR_pos hz, ← hcs, ← hll]
        exact At.again hf hS (by repeat first | exact trivial | refine ⟨⟨_, rfl, .inl ⟨rfl, rfl⟩⟩, ?_⟩ | refine ⟨⟨_, rfl, .inr ⟨_, rfl, rfl⟩⟩, ?_⟩ | refine ⟨⟨_, rfl, .inr ⟨_, rfl, by simp (disch := omega) [SV.den, SI.den, wrapU, wrapD] <;> omega⟩⟩, ?_⟩) ⟨fun h => h, SubC.refl (by rw [hcs]; exact ptsL_bd), rfl, trivial⟩
  · simp only [SB.F, SI.den] at hge
    have hie : i = m := by omega
    have hLU : L0 = ringU a := by rw [hL0, hie, hm, ringTo_all]
    rw [← hLU]
    subst hvs hrs
    have hll0 : L0.length ≤ 8000 := by rw [hL0, ringTo_len a i (by omega)]; omega
    clear hL0 hLU
    obtain ⟨S, hSo⟩ : ∃ S, S = L0.mergeSort fun x y => !ltOf cfP y x := ⟨_, rfl⟩
    rw [← hSo]
    have hSl : S.length = L0.length := by rw [hSo, List.length_mergeSort]
    by_cases hz : L0 = []
    · rw [hz] at hSl ⊢
      have hSn : S = [] := List.eq_nil_of_length_eq_zero hSl
      show X (mkE Try.prog Try.f13 (PtsRet S w) w (InR [] []) im (arrD b1 y1 n) (fun w => AtA w b1 y1 a) [] B13) _ ⟨[(16, .val (.bool (.lt (.nat i) (.nat m)))), (4, .val (.raw (.slice none 0 0))), (13, .val (.slv p1 m c1)), (14, .val (.int .i64 (.nat m))), (15, .val (.int .i64 (.nat i)))], []⟩
      refine X.go T13_ok 400 _ rfl Try.results13 ?_
      conv => arg 2; cbv
      refine X.call rfl rfl rfl rfl Try.call39 (fun N w1 args hN hS ha => ?_)
      have ha : args = [.slice none 0 0, .func (.func 40) #[] #[]] := (Option.some.inj ha).symm
      rw [ha]
      have key := AnyF.slices_SortFunc_none (P := Try.prog) { Try.sortL with } none 0 (.func (.func 40) #[] #[]) w1
      refine Calls.mono key fun e w2 ⟨he, hw⟩ => ⟨_, he, ?_⟩
      subst hw
      refine Goes.same hN hS (Chg.refl _ _) (r := .tup []) rfl rfl ?_
      refine X.go T13_ok 400 _ rfl Try.results13 ?_
      conv => arg 2; cbv
      refine X.done T13_ok rfl (fun N w' v hN hS hv => ?_)
      simp [resV, SV.den, one?] at hv
      exact ⟨none, 0, by rw [← hv, hSn]; rfl, .inl hSn, hS.chg.none⟩
    · rw [ringV_pos hz, ringR_pos hz]
      obtain ⟨cs, hcs⟩ : ∃ c, c = ptsL L0 := ⟨_, rfl⟩
      obtain ⟨ll, hll⟩ : ∃ q, q = L0.length := ⟨_, rfl⟩
      rw [← hcs, ← hll]
      have hcl : cs.length = ll * 2 := by rw [hcs, ptsL_len, hll]
      have hl0 : 0 < ll := by rw [hll]; exact List.length_pos_iff.2 hz
      have hlen : ll ≤ 8000 := by rw [hll]; exact hll0
      refine X.go T13_ok 400 _ rfl Try.results13 ?_
      conv => arg 2; cbv
      refine X.call rfl rfl rfl rfl Try.call39 (fun N w1 args hN hS ha => ?_)
      obtain ⟨p, hp⟩ : ∃ p, N[0]? = some p := ⟨_, List.getElem?_eq_getElem (by rw [hS.len]; simp)⟩
      obtain ⟨c, ha⟩ : ∃ c, args = [.slice (some ⟨p.b, p.o, none⟩) L0.toArray.size c, .func (.func 40) #[] #[]] := by
        simp only [SV.denL, SV.den, hp] at ha
        exact ⟨p.cap 0 2 none, by rw [← Option.some.inj ha, hll, Nat.add_zero, List.size_toArray]⟩
      rw [ha]
      have hext := hS.ext 0 _ p rfl hp rfl
      have hH : HoldsK ptC 2 w1 p.b p.o L0.toArray := fun j hj => by
        have hj : j < L0.length * 2 := by rw [size_flatK] at hj; exact hj
        obtain ⟨c, h1, h2⟩ := ptsL_get L0 j hj
        obtain ⟨v, h3, h4⟩ := hS.cell 0 _ p rfl hp j c (by rw [← h1, hcs])
        rw [h2] at h3
        cases h3
        exact ⟨h4, (hS.room 0 _ p rfl hp rfl j (by simp only at hext; omega)).2⟩
      have key := AnyQ.slices_SortFunc_total Try.sortL 2 Try.isAgg52 Try.sizeOf52 ptC (fun _ => rfl) (fun x v hv => by simp [ptC] at hv; rcases hv with rfl | rfl <;> rfl) cfP swoP 40 #[] p.b p.o c L0.toArray w1 Try.call40 (cmpLaysP p.b p.o L0.toArray.size w1) hH (hS.lt 0 p hp) (by simp; omega) totP
      refine Calls.mono key fun e w2 ⟨he, q, os, hw⟩ => ⟨_, he, ?_⟩
      rw [show (L0.toArray.toList.mergeSort fun x y => !ltOf cfP y x) = S by rw [hSo]] at hw
      have hch : Chg (arrD p.b p.o (ll * 2)) w1 w2 := by
        have := chg_sortK (w := w1) p.b p.o q S.toArray os
        rw [← hw, List.size_toArray, hSl, ← hll] at this
        exact this
      have hR2 : HoldsK ptC 2 w2 p.b p.o S.toArray := by
        rw [hw]
        exact holdsK_sortWorldK_c ptC 2 w1 p.b p.o L0.toArray S.toArray q os hH (hS.lt 0 p hp) (by simp [hSl])
      have hfw : w.heap.size ≤ p.b := by
        rcases hS.foot 0 _ p rfl hp rfl with h | h
        · exact h
        · exact absurd (h 0 (by simp only at hext; omega)) (fun h => inR_nil h)
      have s1 := Sat.give hS (r := 0) rfl hp rfl (arrD p.b p.o (ll * 2)) (fun _ => True) (fun k o ⟨e1, e2, e3⟩ => .inr ⟨e1, e2, by simp only at hext; omega⟩) (fun _ _ _ _ _ => trivial) trivial
      have s2 := Sat.turn s1 (D' := arrD p.b p.o (ll * 2)) (R' := fun w => HoldsK ptC 2 w p.b p.o S.toArray) hch (fun k o ⟨e1, _, _⟩ => .inl (by rw [e1]; exact hfw)) (fun k o ⟨e1, e2, e3⟩ => by
        have := hS.imd 0 _ p rfl hp rfl (o - p.o) (by simp only at hext; omega)
        rw [show p.o + (o - p.o) = o by omega] at this
        rw [e1]; exact this) (by simp) (fun k o hk => ⟨.inl hk, by
        obtain ⟨rfl, e2, e3⟩ := hk
        have := (hR2 (o - p.o) (by rw [size_flatK]; simp; omega)).1
        rw [show p.o + (o - p.o) = o by omega] at this
        exact .inl (by rw [this]; rfl)⟩) (HoldsK.loc (by simp; omega)) hR2
      refine ⟨mkE Try.prog Try.f13 (PtsRet S w) w (InR [] []) im (arrD p.b p.o (ll * 2)) (fun w => HoldsK ptC 2 w p.b p.o S.toArray) N B13, N, .tup [], _, _, rfl, rfl, rfl, rfl, Nums.le.refl N, Nums.le.refl N, s2.env rfl rfl rfl rfl rfl, rfl, rfl, ?_⟩
      refine X.go T13_ok 400 _ rfl Try.results13 ?_
      conv => arg 2; cbv
      refine X.done T13_ok rfl (fun N' w' v hN hS hv => ?_)
      have hp' := hN 0 p hp
      simp only [resV, SV.den, hp', Option.some.injEq] at hv
      exact ⟨some ⟨p.b, p.o, none⟩, _, by rw [← hv, hSl, ← hll]; rfl, .inr ⟨p.b, p.o, rfl, hfw, hS.res⟩, hS.chg.none⟩

end Go.Proofs.Ythaffebapmkppaa
