/- The history's functions: Begin. (Printed by genBegin.py.) -/
import Derived.Test.YtcfghkiokdbhjaaHi8

namespace Go.Proofs.Ytcfghkiokdbhjaa
open Go.Eng

/-- an operation's cells -/
def Ent.opv (e : Ent) : Array Value := #[.int .u8 e.k, .int .u8 e.y, .int .u8 e.c, .int .u64 e.s, .int .i64 e.a, .int .i64 e.p, .int .i64 e.r, .int .u8 e.u, .int .u64 e.i, .int .u64 e.l]

/-- what Begin answers -/
def BegAns (e : Ending) : Prop := ∃ (i er : Int) (o : Ent), e = .returned (.tuple #[.int .i64 i, .agg o.opv, .int .i64 er])

/-- Begin's entry -/
def Ent.new (nd k y : Int) (c : Nat) (s a p r u i l at' : Int) : Ent := ⟨nd, k, y, (c : Int), s, a, p, r, u, i, l, at', 0, 0, 0, 0, 0, none, 0, 0⟩

/-- rows of entries, as a region holds them -/
theorem rows_at {E : Env} {N : Nums} {rg : List Rg} {w : World} (hS : Sat E N rg w) {r : Nat} {p : Num} {cs : List SV} {f : Nat → Ent} {n : Nat} (hg : rg[r]? = some ⟨true, cs, none⟩) (hp : N[r]? = some p) (hcs : ∀ i, i < n → ∀ j, j < 18 → cs[i * 18 + j]? = (f i).sv[j]?) :
    ∀ i, i < n → ∀ (q : Nat) (v : Value), (f i).vals[q]? = some v → w.cell? ⟨p.b, p.o + (i * 18 + q), none⟩ = some v := fun i hi q v hq => by
  have hq18 : q < 18 := by rw [← (f i).vlen]; exact (List.getElem?_eq_some_iff.1 hq).1
  obtain ⟨c, hc⟩ : ∃ c, (f i).sv[q]? = some c := ⟨_, List.getElem?_eq_getElem (by rw [(f i).len]; exact hq18)⟩
  obtain ⟨v', h5, h6⟩ := Ent.get _ _ _ hc N
  rw [hq] at h6; cases h6
  exact hS.at hp hg ((hcs i hi q hq18).trans hc) h5

/-- no entry was begun -/
def BegNo (hb hy : Nat) (po : Option Addr) (n cp eb ey c : Nat) (s : Int) (f : Nat → Ent) (w' : World) : Prop := w'.cell? ⟨hb, hy, none⟩ = some (.slice po n cp) ∧ w'.cell? ⟨hb, hy + 1 + c, none⟩ = some (.int .u64 s) ∧
  (∀ i, i < n → ∀ (q : Nat) (v : Value), (f i).vals[q]? = some v → w'.cell? ⟨eb, ey + (i * 18 + q), none⟩ = some v)

/-- an entry was begun -/
def BegTo (hb hy n c : Nat) (s : Int) (f : Nat → Ent) (e : Ent) (O : Nat → Nat → Prop) (w w' : World) : Prop := ∃ b' y' cp', n + 1 ≤ cp' ∧ w'.cell? ⟨hb, hy, none⟩ = some (.slice (some ⟨b', y', none⟩) (n + 1) cp') ∧ w'.cell? ⟨hb, hy + 1 + c, none⟩ = some (.int .u64 s) ∧
  (∀ j, j < cp' * 18 → (w'.cell? ⟨b', y' + j, none⟩).isSome = true ∧ w'.frozen? ⟨b', y' + j, none⟩ = false) ∧
  (∀ i, i < n → ∀ (q : Nat) (v : Value), (f i).vals[q]? = some v → w'.cell? ⟨b', y' + (i * 18 + q), none⟩ = some v) ∧
  (∀ (q : Nat) (v : Value), e.vals[q]? = some v → w'.cell? ⟨b', y' + (n * 18 + q), none⟩ = some v) ∧
  (∀ j, j < cp' * 18 → ¬ (b' = hb ∧ y' + j = hy) ∧ ¬ (b' = hb ∧ y' + j = hy + 1 + c)) ∧
  (w.heap.size ≤ b' ∨ ∀ j, j < cp' * 18 → O b' (y' + j))

set_option maxHeartbeats 40000000 in
set_option maxRecDepth 100000 in
set_option cbv.maxSteps 100000000 in
theorem begin_out (hb hy : Nat) (nd k yy c s a p r u ii l at' : Int) (w : World) (hc : c = 0 ∨ 8 < c) :
    Calls Try.prog 28 #[.pointer (some ⟨hb, hy, none⟩), .int .u8 nd, .agg #[.int .u8 k, .int .u8 yy, .int .u8 c, .int .u64 s, .int .i64 a, .int .i64 p, .int .i64 r, .int .u8 u, .int .u64 ii, .int .u64 l], .int .i64 at'] w
      fun e w' => BegAns e ∧ Chg (fun _ _ => False) w w' := by
  refine X.begin (rg := []) (N := []) (ss := [.ext hb hy 0, .int .u8 (.v nd), .agg [.int .u8 (.v k), .int .u8 (.v yy), .int .u8 (.v c), .int .u64 (.v s), .int .i64 (.v a), .int .i64 (.v p), .int .i64 (.v r), .int .u8 (.v u), .int .u64 (.v ii), .int .u64 (.v l)], .int .i64 (.v at')]) Try.func28 rfl B28_ok rfl rfl Sat.std0 ?_
  refine X.go T28_ok 400 _ rfl Try.results28 ?_
  conv => arg 2; cbv
  refine X.lit 21 rfl (fun _ => ?_) (fun h0 => ?_)
  · refine X.go T28_ok 400 _ rfl Try.results28 ?_
    conv => arg 2; cbv
    refine X.done T28_ok rfl (fun N w' v hN hS hv => ?_)
    cases hv
    exact ⟨⟨_, _, ⟨0, 0, 0, 0, 0, 0, 0, 0, 0, 0, 0, 0, 0, 0, 0, 0, 0, none, 0, 0⟩, rfl⟩, hS.chg.none⟩
  refine X.go T28_ok 400 _ rfl Try.results28 ?_
  conv => arg 2; cbv
  refine X.bare rfl rfl ?_
  refine X.call rfl rfl rfl rfl Try.call66 (fun N w1 args hN hS ha => ?_)
  have ha' : [Value.agg #[.int .u8 k, .int .u8 yy, .int .u8 c, .int .u64 1, .int .i64 a, .int .i64 p, .int .i64 r, .int .u8 u, .int .u64 ii, .int .u64 l]] = args := Option.some.inj (ha ▸ rfl : some _ = some args)
  subst ha'
  refine (may_ok _ _ _ _ _ _ _ _ _ _ w1).mono fun e w' ⟨⟨b, he, hb8⟩, hch⟩ => ⟨_, he, Goes.same (r := .bool (.v b)) hN hS hch rfl rfl ?_⟩
  have hbf : b = false := by
    cases b with
    | false => rfl
    | true =>
      have := hb8 rfl
      simp only [SB.F, SB.den, SI.den] at h0
      omega
  subst hbf
  refine X.go T28_ok 400 _ rfl Try.results28 ?_
  conv => arg 2; cbv
  refine X.cond rfl (fun _ => ?_) (fun h1 => ?_)
  · refine X.go T28_ok 400 _ rfl Try.results28 ?_
    conv => arg 2; cbv
    refine X.done T28_ok rfl (fun N w' v hN hS hv => ?_)
    cases hv
    exact ⟨⟨_, _, ⟨0, 0, 0, 0, 0, 0, 0, 0, 0, 0, 0, 0, 0, 0, 0, 0, 0, none, 0, 0⟩, rfl⟩, hS.chg.none⟩
  · exfalso
    simp [SB.F, SB.den, SB.T] at h1

set_option maxHeartbeats 40000000 in
set_option maxRecDepth 100000 in
set_option cbv.maxSteps 100000000 in
theorem begin_row (hb hy : Nat) (n cp eb ey : Nat) (c : Nat) (qc : Int) (f : Nat → Ent) (nd k yy s a p r u ii l at' : Int) (w : World) (hn : n ≤ 1000) (hcp : n ≤ cp) (hc1 : 1 ≤ c) (hc9 : c < 9) (hh : w.cell? ⟨hb, hy, none⟩ = some (.slice (some ⟨eb, ey, none⟩) n cp)) (hs : w.cell? ⟨hb, hy + 1 + c, none⟩ = some (.int .u64 qc))
    (hfz : w.frozen? ⟨hb, hy, none⟩ = false) (hfz2 : w.frozen? ⟨hb, hy + 1 + c, none⟩ = false) (hroom : ∀ j, j < cp * 18 → (w.cell? ⟨eb, ey + j, none⟩).isSome = true ∧ w.frozen? ⟨eb, ey + j, none⟩ = false) (hbl : eb < w.heap.size) (hE : ∀ i, i < n → ∀ (q : Nat) (v : Value), (f i).vals[q]? = some v → w.cell? ⟨eb, ey + (i * 18 + q), none⟩ = some v) (hap : ∀ j, j < cp * 18 → ¬ (eb = hb ∧ hy ≤ ey + j ∧ ey + j < hy + 10)) :
    Calls Try.prog 28 #[.pointer (some ⟨hb, hy, none⟩), .int .u8 nd, .agg #[.int .u8 k, .int .u8 yy, .int .u8 (c : Nat), .int .u64 s, .int .i64 a, .int .i64 p, .int .i64 r, .int .u8 u, .int .u64 ii, .int .u64 l], .int .i64 at'] w
      fun e w' => BegAns e ∧ (BegNo hb hy (some ⟨eb, ey, none⟩) n cp eb ey c qc f w' ∨ ((∀ i, i < n → ¬ (f i).is c) ∧ BegTo hb hy n c (IntKind.u64.wrap (qc + 1)) f (Ent.new nd k yy c (IntKind.u64.wrap (qc + 1)) a p r u ii l at') (fun k o => k = eb ∧ ey ≤ o ∧ o < ey + cp * 18) w w')) ∧ Chg (fun k o => (k = hb ∧ o = hy) ∨ (k = hb ∧ o = hy + 1 + c) ∨ (fun k o => k = eb ∧ ey ≤ o ∧ o < ey + cp * 18) k o) w w' := by
  obtain ⟨y, hy1⟩ : ∃ y, y = hy + 1 + c := ⟨_, rfl⟩
  obtain ⟨n1, hn1⟩ : ∃ n1, n1 = n + 1 := ⟨_, rfl⟩
  obtain ⟨x, hx⟩ : ∃ x, x = cp * 18 := ⟨_, rfl⟩
  obtain ⟨cs, hcs⟩ : ∃ cs, cs = rowsL (fun i => (f i).sv) n := ⟨_, rfl⟩
  have hlen : cs.length = n * 18 := by rw [hcs]; exact rowsL_len (fun i => (f i).len) n
  obtain ⟨nw, hnw⟩ : ∃ nw : List SV, nw = [.int .u8 (.v nd), .int .u8 (.v k), .int .u8 (.v yy), .int .u8 (.nat c), .int .u64 (.wrap .u64 (.add (.v qc) (.lit 1))), .int .i64 (.v a), .int .i64 (.v p), .int .i64 (.v r), .int .u8 (.v u), .int .u64 (.v ii), .int .u64 (.v l), .int .i64 (.v at'), .int .i64 (.lit 0), .int .u8 (.lit 0), .int .i64 (.lit 0), .int .u64 (.lit 0), .int .i64 (.lit 0), .raw (.slice none 0 0)] := ⟨_, rfl⟩
  obtain ⟨cs2, hcs2⟩ : ∃ cs2, cs2 = cs ++ nw := ⟨_, rfl⟩
  rw [← hy1] at hs hfz2
  obtain ⟨Q, hQ⟩ : ∃ Q : Ending → World → Prop, Q = fun e w' => BegAns e ∧ (BegNo hb hy (some ⟨eb, ey, none⟩) n cp eb ey c qc f w' ∨ ((∀ i, i < n → ¬ (f i).is c) ∧ BegTo hb hy n c (IntKind.u64.wrap (qc + 1)) f (Ent.new nd k yy c (IntKind.u64.wrap (qc + 1)) a p r u ii l at') (fun k o => k = eb ∧ ey ≤ o ∧ o < ey + cp * 18) w w')) ∧ Chg (fun k o => (k = hb ∧ o = hy) ∨ (k = hb ∧ o = hy + 1 + c) ∨ (fun k o => k = eb ∧ ey ≤ o ∧ o < ey + cp * 18) k o) w w' := ⟨_, rfl⟩
  rw [← hQ]
  rw [← hx] at hroom hap
  have hhd : ∀ N : Nums, Nums.le [⟨hb, hy, 1⟩, ⟨hb, y, 1⟩, ⟨eb, ey, x⟩] N → SV.den N (.osl 2 0 n 18 none) = some (.slice (some ⟨eb, ey, none⟩) n cp) := fun N hN => by
    have := hN 2 _ rfl
    simp only [SV.den, this, Num.cap, Nat.sub_zero, Nat.add_zero, hx]
    rw [Nat.mul_div_cancel _ (by decide)]
  have hlt : ∀ k o, InR [⟨hb, hy, 1⟩, ⟨hb, y, 1⟩, ⟨eb, ey, x⟩] [⟨true, [.osl 2 0 n 18 none], none⟩, ⟨true, [.int .u64 (.v qc)], none⟩, ⟨true, cs, none⟩] k o → (k = hb ∧ o = hy) ∨ (k = hb ∧ o = hy + 1 + c) ∨ (k = eb ∧ ey ≤ o ∧ o < ey + cp * 18) := fun k o h => by
    rcases inR_cons h with ⟨_, h1, h2, h3⟩ | h
    · simp only at h1 h2 h3; exact .inl ⟨h1, by omega⟩
    · rcases inR_cons h with ⟨_, h1, h2, h3⟩ | h
      · simp only at h1 h2 h3; exact .inr (.inl ⟨h1, by omega⟩)
      · rcases inR_cons h with ⟨_, h1, h2, h3⟩ | h
        · simp only at h1 h2 h3; exact .inr (.inr ⟨h1, by omega, by omega⟩)
        · exact absurd h inR_nil
  have hno : ∀ (N : Nums) (E : Env) (w' : World) (rg' : List Rg), Nums.le [⟨hb, hy, 1⟩, ⟨hb, y, 1⟩, ⟨eb, ey, x⟩] N → rg'[0]? = some ⟨true, [.osl 2 0 n 18 none], none⟩ → rg'[1]? = some ⟨true, [.int .u64 (.v qc)], none⟩ → rg'[2]? = some ⟨true, cs, none⟩ → Sat E N rg' w' → BegNo hb hy (some ⟨eb, ey, none⟩) n cp eb ey c qc f w' := fun N E w' rg' hN g0 g1 g2 hS => by
    refine ⟨hS.at (hN 0 _ rfl) g0 (j := 0) rfl (hhd N hN), ?_, rows_at hS g2 (hN 2 _ rfl) fun i hi j hj => by rw [hcs]; exact rowsL_at (fun i => (f i).len) hj hi⟩
    rw [← hy1]
    exact hS.at (hN 1 _ rfl) g1 (j := 0) rfl rfl
  refine X.begin (rg := [⟨true, [.osl 2 0 n 18 none], none⟩, ⟨true, [.int .u64 (.v qc)], none⟩, ⟨true, cs, none⟩]) (N := [⟨hb, hy, 1⟩, ⟨hb, y, 1⟩, ⟨eb, ey, x⟩]) (ss := [.own 0 0, .int .u8 (.v nd), .agg [.int .u8 (.v k), .int .u8 (.v yy), .int .u8 (.nat c), .int .u64 (.v s), .int .i64 (.v a), .int .i64 (.v p), .int .i64 (.v r), .int .u8 (.v u), .int .u64 (.v ii), .int .u64 (.v l)], .int .i64 (.v at')]) Try.func28 rfl B28_ok rfl rfl (Sat.stdL ⟨⟨World.block_lt_of_cell? _ _ hh, rfl, fun j c hj => ?_, fun _ => Nat.le_refl _, fun _ j hj => ?_⟩, ⟨World.block_lt_of_cell? _ _ hs, rfl, fun j c hj => ?_, fun _ => Nat.le_refl _, fun _ j hj => ?_⟩, ⟨hbl, rfl, fun j c hj => ?_, fun _ => ?_, fun _ j hj => hroom j hj⟩, trivial⟩
      ⟨⟨fun _ j j' hj hj' h => ?_, fun _ j j' hj hj' h => ?_, trivial⟩, ⟨fun _ j j' hj hj' h => ?_, trivial⟩, trivial, trivial⟩) ?_
  · cases j with
    | zero =>
      simp at hj; subst hj
      refine ⟨_, rfl, ?_⟩
      simp only [Nat.add_zero, hh, hx, Num.cap, Nat.sub_zero]
      rw [Nat.mul_div_cancel _ (by decide)]
    | succ j => simp at hj
  · have hj : j < 1 := hj
    obtain rfl : j = 0 := by omega
    simp only [Nat.add_zero]
    exact ⟨by rw [hh]; rfl, hfz⟩
  · cases j with
    | zero => simp at hj; subst hj; exact ⟨_, rfl, hs⟩
    | succ j => simp at hj
  · have hj : j < 1 := hj
    obtain rfl : j = 0 := by omega
    simp only [Nat.add_zero]
    exact ⟨by rw [hs]; rfl, hfz2⟩
  · have hj : cs[j]? = some c := hj
    rw [hcs] at hj
    obtain ⟨h1, h2, h3, h4⟩ := rowsL_get (fun i => (f i).len) (by decide) hj
    obtain ⟨v, h5, h6⟩ := Ent.get _ _ _ h4 [⟨hb, hy, 1⟩, ⟨hb, y, 1⟩, ⟨eb, ey, x⟩]
    refine ⟨v, h5, ?_⟩
    have := hE (j / 18) h1 _ _ h6
    rwa [← h3] at this
  · show cs.length ≤ x
    omega
  · have hj : j < 1 := hj
    have hj' : j' < 1 := hj'
    simp only at h
    omega
  · have hj : j < 1 := hj
    have hj' : j' < x := hj'
    simp only at h
    exact hap j' hj' ⟨h.1.symm, by omega, by omega⟩
  · have hj : j < 1 := hj
    have hj' : j' < x := hj'
    simp only at h
    exact hap j' hj' ⟨h.1.symm, by omega, by omega⟩
  refine X.go T28_ok 400 _ rfl Try.results28 ?_
  conv => arg 2; cbv
  refine X.lit 21 rfl (fun h0 => ?_) (fun _ => ?_)
  · exfalso
    simp only [SB.T, SB.den, SI.den] at h0
    omega
  refine X.go T28_ok 400 _ rfl Try.results28 ?_
  conv => arg 2; cbv
  refine X.bare rfl rfl ?_
  refine X.call rfl rfl rfl rfl Try.call66 (fun N w1 args hN hS ha => ?_)
  have ha' : [Value.agg #[.int .u8 k, .int .u8 yy, .int .u8 (c : Nat), .int .u64 1, .int .i64 a, .int .i64 p, .int .i64 r, .int .u8 u, .int .u64 ii, .int .u64 l]] = args := Option.some.inj (ha ▸ rfl : some _ = some args)
  subst ha'
  refine (may_ok _ _ _ _ _ _ _ _ _ _ w1).mono fun e w' ⟨⟨b, he, hb8⟩, hch⟩ => ⟨_, he, Goes.same (r := .bool (.v b)) hN hS hch rfl rfl ?_⟩
  clear hch he hS hN ha
  refine X.go T28_ok 400 _ rfl Try.results28 ?_
  conv => arg 2; cbv
  refine X.cond rfl (fun _ => ?_) (fun _ => ?_)
  · refine X.go T28_ok 400 _ rfl Try.results28 ?_
    conv => arg 2; cbv
    refine X.done T28_ok rfl (fun N w' v hN hS hv => ?_)
    cases hv
    rw [hQ]
    exact ⟨⟨_, _, ⟨0, 0, 0, 0, 0, 0, 0, 0, 0, 0, 0, 0, 0, 0, 0, 0, 0, none, 0, 0⟩, rfl⟩, .inl (hno N _ w' _ hN (by rfl) (by rfl) (by rfl) hS), hS.chg.mono fun k o _ h => hlt k o h⟩
  refine X.go T28_ok 400 _ rfl Try.results28 ?_
  conv => arg 2; cbv
  refine X.call rfl rfl rfl rfl Try.call36 (fun N w1 args hN hS ha => ?_)
  have h0 := hN 0 _ rfl
  have ha' : [Value.pointer (some ⟨hb, hy, none⟩), .int .u8 (c : Nat)] = args := by simpa [SV.denL, SV.den, SI.den, h0] using ha
  subst ha'
  obtain ⟨k1, -, k2⟩ := hno N _ w1 _ hN (by rfl) (by rfl) (by rfl) hS
  refine (open_ok hb hy (some ⟨eb, ey, none⟩) n cp c f w1 hn (fun i hi => ⟨eb, ey, _, rfl, rfl, fun j v hj => by rw [Nat.add_assoc]; exact k2 i hi j v hj⟩) k1).mono fun e w' ⟨⟨r0, he, hf⟩, hch⟩ => ?_
  obtain ⟨d1, hd1⟩ : ∃ d, d = (if r0 < 0 then 0 else r0) := ⟨_, rfl⟩
  obtain ⟨d2, hd2⟩ : ∃ d, d = decide (0 ≤ r0) := ⟨_, rfl⟩
  rw [← hd1, ← hd2] at he
  refine ⟨_, he, Goes.same (r := .tup [.int .i64 (.v d1), .bool (.v d2)]) hN hS hch rfl rfl ?_⟩
  clear hch he hS hN ha k1 k2 h0
  refine X.go T28_ok 400 _ rfl Try.results28 ?_
  conv => arg 2; cbv
  refine X.cond rfl (fun _ => ?_) (fun h2 => ?_)
  · refine X.go T28_ok 400 _ rfl Try.results28 ?_
    conv => arg 2; cbv
    refine X.done T28_ok rfl (fun N w' v hN hS hv => ?_)
    cases hv
    rw [hQ]
    exact ⟨⟨_, _, ⟨0, 0, 0, 0, 0, 0, 0, 0, 0, 0, 0, 0, 0, 0, 0, 0, 0, none, 0, 0⟩, rfl⟩, .inl (hno N _ w' _ hN (by rfl) (by rfl) (by rfl) hS), hS.chg.mono fun k o _ h => hlt k o h⟩
  have hnone : ∀ i, i < n → ¬ (f i).is c := by
    have h3 : ¬ 0 ≤ r0 := by
      have : d2 = false := h2
      rw [hd2] at this
      simpa using this
    rcases hf with ⟨_, h⟩ | ⟨i, _, h, _⟩
    · exact h
    · omega
  have hr1 : ∀ N : Nums, Nums.le [⟨hb, hy, 1⟩, ⟨hb, y, 1⟩, ⟨eb, ey, x⟩] N → (SV.own 0 1).den N = some (.pointer (some ⟨hb, hy + 1, none⟩)) := fun N hN => by
    have := hN 0 _ rfl
    simp only [SV.den, this]
  have hr2 : ∀ N : Nums, Nums.le [⟨hb, hy, 1⟩, ⟨hb, y, 1⟩, ⟨eb, ey, x⟩] N → (SV.own 1 0).den N = some (.pointer (some ⟨hb, hy + 1 + c * 1, none⟩)) := fun N hN => by
    have := hN 1 _ rfl
    simp only [SV.den, this, hy1, Nat.add_zero, Nat.mul_one]
  refine X.go T28_ok 400 _ rfl Try.results28 ?_
  conv => arg 2; cbv
  refine X.drawnO T28_ok noCall (idxG 75 [⟨5, 40, 38, 41, 137, c, .own 0 1, .own 1 0⟩, ⟨10, 45, 38, 46, 137, c, .own 0 1, .own 1 0⟩]) rfl noCall_ok (idxG_ok _ rfl (fun q hq => ?_)) 75 rfl ?_
  · simp only [List.mem_cons, List.mem_nil_iff, or_false] at hq
    rcases hq with rfl | rfl <;> exact good_arr Try.underlying137 Try.sizeOf27 hc9 hr1 hr2
  generalize hfin : (fun s' => X (std Try.prog Try.f28 Q w [⟨hb, hy, 1⟩, ⟨hb, y, 1⟩, ⟨eb, ey, x⟩] [⟨true, [.osl 2 0 n 18 none], none⟩, ⟨true, [.int .u64 (.v qc)], none⟩, ⟨true, cs, none⟩] B28) _ s') = fin
  conv => cbv
  repeat (first | refine ⟨rfl, ?_⟩ | refine ⟨⟨_, _, rfl, rfl⟩, ?_⟩ | refine ⟨⟨rfl, _, _, rfl, rfl⟩, ?_⟩)
  subst hfin
  show X _ _ _
  refine X.go T28_ok 400 _ rfl Try.results28 ?_
  conv => arg 2; cbv
  refine X.drawnO T28_ok noCall (idxG 75 [⟨5, 51, 49, 52, 137, c, .own 0 1, .own 1 0⟩]) rfl noCall_ok (idxG_ok _ rfl (fun q hq => ?_)) 75 rfl ?_
  · simp only [List.mem_cons, List.mem_nil_iff, or_false] at hq
    rcases hq with rfl <;> exact good_arr Try.underlying137 Try.sizeOf27 hc9 hr1 hr2
  generalize hfin : (fun s' => X (std Try.prog Try.f28 Q w [⟨hb, hy, 1⟩, ⟨hb, y, 1⟩, ⟨eb, ey, x⟩] [⟨true, [.osl 2 0 n 18 none], none⟩, ⟨true, [.int .u64 (.v qc)], none⟩, ⟨true, cs, none⟩] B28) _ s') = fin
  conv => cbv
  repeat (first | refine ⟨rfl, ?_⟩ | refine ⟨⟨_, _, rfl, rfl⟩, ?_⟩ | refine ⟨⟨rfl, _, _, rfl, rfl⟩, ?_⟩)
  subst hfin
  show X _ _ _
  refine X.go T28_ok 1 _ rfl Try.results28 ?_
  conv => arg 2; cbv
  refine X.drawnL (fn := Try.f28) T28_ok noCall (idxG 75 []) 10 [11, 12, 13] 10 rfl (by kernel_rfl) rfl noCall_ok (idxG_ok [] rfl (fun q hq => absurd hq List.not_mem_nil)) 75 rfl ?_
  generalize hfin : (fun s' => X (std Try.prog Try.f28 Q w [⟨hb, hy, 1⟩, ⟨hb, y, 1⟩, ⟨eb, ey, x⟩] [⟨true, [.osl 2 0 n 18 none], none⟩, ⟨true, [.int .u64 (.v qc)], none⟩, ⟨true, cs, none⟩] B28) _ s') = fin
  conv => cbv
  repeat (first | refine ⟨rfl, ?_⟩ | refine ⟨⟨_, _, rfl, rfl⟩, ?_⟩ | refine ⟨⟨rfl, _, _, rfl, rfl⟩, ?_⟩)
  subst hfin
  show X _ _ _
  apply X.opEq (T := T28) T28_ok
  · exact opE_append (te := ti93) (new := nw) (m := 1) rfl rfl rfl rfl rfl rfl rfl rfl (appSrc_row (g := ⟨true, nw, none⟩) rfl rfl (by rw [hnw]; rfl) (by rw [hnw]; rfl))
      (appV_hid (te := ti93) (n := n) rfl hlen (by decide) (appOk_ok (by decide) rfl (by rw [hnw]; rfl) (by rw [hnw]; rfl) (by show (2 * (n + 1) + 256) * 144 ≤ _; omega) (by omega))) rfl
  rw [← hcs2, ← hn1]
  refine X.go T28_ok 5 _ rfl Try.results28 ?_
  conv => arg 2; cbv
  refine X.names fun N hN hNl => ?_
  have hNl : N.length = 6+1 := hNl
  have hN : Nums.le [⟨hb, hy, 1⟩, ⟨hb, y, 1⟩, ⟨eb, ey, x⟩] N := hN
  obtain ⟨p6, hp6⟩ : ∃ p, N[6]? = some p := ⟨_, List.getElem?_eq_getElem (by omega)⟩
  obtain ⟨cp', hcp'⟩ : ∃ c, c = p6.x / 18 := ⟨_, rfl⟩
  refine X.recell 0 ⟨true, [.osl 6 0 n1 18 none], none⟩ [.slv (some ⟨p6.b, p6.o, none⟩) n1 cp'] rfl rfl (fun N' hN' j c c' h1 h2 v hv => ?_) ?_
  · cases j with
    | zero =>
      simp at h1 h2; subst h1; subst h2
      have := hN' 6 p6 hp6
      simp only [SV.den, this, Num.cap, Nat.sub_zero, Nat.add_zero, ← hcp'] at hv ⊢
      exact hv
    | succ j => simp at h1
  refine X.less [0, 6, 8, 9, 10] ?_
  show X (mkE Try.prog Try.f28 Q w (InR [⟨hb, hy, 1⟩, ⟨hb, y, 1⟩, ⟨eb, ey, x⟩] [⟨true, [.osl 2 0 n 18 none], none⟩, ⟨true, [.int .u64 (.v qc)], none⟩, ⟨true, cs, none⟩]) (elsewhere [⟨hb, hy, 1⟩, ⟨hb, y, 1⟩, ⟨eb, ey, x⟩] [⟨true, [.osl 2 0 n 18 none], none⟩, ⟨true, [.int .u64 (.v qc)], none⟩, ⟨true, cs, none⟩] w) (fun _ _ => False) (fun _ => True) N B28) _ _
  refine X.go T28_ok 400 _ rfl Try.results28 ?_
  conv => arg 2; cbv
  refine X.done T28_ok rfl (fun N' w' v hN' hS hv => ?_)
  cases hv
  rw [hQ]
  have q0 := hN' 0 _ (hN 0 _ rfl)
  have q1 := hN' 1 _ (hN 1 _ rfl)
  have q6 := hN' 6 _ hp6
  have hl2 : cs2.length = n * 18 + 18 := by rw [hcs2, List.length_append, hlen, hnw]; rfl
  have hext := hS.ext 6 ⟨true, cs2, none⟩ p6 rfl q6 rfl
  simp only [hl2] at hext
  have hcap : cp' * 18 ≤ p6.x := by rw [hcp']; exact Nat.div_mul_le_self _ _
  have hap1 : ∀ j, j < cp' * 18 → ¬ (p6.b = hb ∧ p6.o + j = hy) := fun j hj ⟨e1, e2⟩ => by
    have := hS.disj 6 0 _ _ p6 _ rfl q6 rfl q0 rfl (by decide) 0 (by show 0 < 1; omega) e1.symm
    simp only at this
    omega
  have hap2 : ∀ j, j < cp' * 18 → ¬ (p6.b = hb ∧ p6.o + j = y) := fun j hj ⟨e1, e2⟩ => by
    have := hS.disj 6 1 _ _ p6 _ rfl q6 rfl q1 rfl (by decide) 0 (by show 0 < 1; omega) e1.symm
    simp only at this
    omega
  refine ⟨⟨_, _, ⟨0, k, yy, (c : Int), IntKind.u64.wrap (qc + 1), a, p, r, u, ii, l, 0, 0, 0, 0, 0, 0, none, 0, 0⟩, rfl⟩, .inr ⟨hnone, p6.b, p6.o, cp', ?_, ?_, ?_, fun j hj => ?_, ?_, fun q v hq => ?_, fun j hj => ⟨hap1 j hj, by rw [← hy1]; exact hap2 j hj⟩, ?_⟩, hS.chg.mono fun k o _ h => hlt k o h⟩
  · rw [hcp']
    exact (Nat.le_div_iff_mul_le (by decide)).2 (by omega)
  · rw [← hn1]
    exact hS.row (r := 0) rfl q0 rfl 0 _ rfl
  · rw [← hy1]
    exact hS.row (r := 1) rfl q1 rfl 0 _ rfl
  · exact hS.room 6 ⟨true, cs2, none⟩ p6 rfl q6 rfl j (by omega)
  · exact rows_at hS (r := 6) rfl q6 fun i hi j hj => by
      rw [hcs2, List.getElem?_append_left (by rw [hlen]; exact idx_lt hi hj), hcs]
      exact rowsL_at (fun i => (f i).len) hj hi
  · have hd : SV.denL N' nw = some (Ent.vals (Ent.new nd k yy c (IntKind.u64.wrap (qc + 1)) a p r u ii l at')) := by rw [hnw]; rfl
    obtain ⟨e1, e2⟩ := SV.denL_get _ hd
    obtain ⟨c', hc'⟩ : ∃ c', nw[q]? = some c' := ⟨_, List.getElem?_eq_getElem (by rw [← e1]; exact (List.getElem?_eq_some_iff.1 hq).1)⟩
    obtain ⟨v', e3, e4⟩ := e2 q c' hc'
    rw [hq] at e4; cases e4
    exact hS.at q6 (g := ⟨true, cs2, none⟩) rfl (j := n * 18 + q) (by
      show cs2[n * 18 + q]? = _
      rw [hcs2, List.getElem?_append_right (by omega), hlen, Nat.add_sub_cancel_left]; exact hc') e3
  · rcases hS.foot 6 ⟨true, cs2, none⟩ p6 rfl q6 rfl with h | h
    · exact .inl h
    · refine .inr fun j hj => ?_
      rcases hlt _ _ (h j (by omega)) with ⟨e1, e2⟩ | ⟨e1, e2⟩ | e
      · exact absurd ⟨e1, e2⟩ (hap1 j hj)
      · exact absurd ⟨e1, by omega⟩ (hap2 j hj)
      · exact e

set_option maxHeartbeats 40000000 in
set_option maxRecDepth 100000 in
set_option cbv.maxSteps 100000000 in
theorem begin_nil (hb hy : Nat) (n cp eb ey : Nat) (c : Nat) (qc : Int) (f : Nat → Ent) (nd k yy s a p r u ii l at' : Int) (w : World) (hn : n ≤ 1000) (h0 : n = 0) (h0c : cp = 0) (hc1 : 1 ≤ c) (hc9 : c < 9) (hh : w.cell? ⟨hb, hy, none⟩ = some (.slice none n cp)) (hs : w.cell? ⟨hb, hy + 1 + c, none⟩ = some (.int .u64 qc))
    (hfz : w.frozen? ⟨hb, hy, none⟩ = false) (hfz2 : w.frozen? ⟨hb, hy + 1 + c, none⟩ = false)  :
    Calls Try.prog 28 #[.pointer (some ⟨hb, hy, none⟩), .int .u8 nd, .agg #[.int .u8 k, .int .u8 yy, .int .u8 (c : Nat), .int .u64 s, .int .i64 a, .int .i64 p, .int .i64 r, .int .u8 u, .int .u64 ii, .int .u64 l], .int .i64 at'] w
      fun e w' => BegAns e ∧ (BegNo hb hy none n cp eb ey c qc f w' ∨ ((∀ i, i < n → ¬ (f i).is c) ∧ BegTo hb hy n c (IntKind.u64.wrap (qc + 1)) f (Ent.new nd k yy c (IntKind.u64.wrap (qc + 1)) a p r u ii l at') (fun _ _ => False) w w')) ∧ Chg (fun k o => (k = hb ∧ o = hy) ∨ (k = hb ∧ o = hy + 1 + c) ∨ (fun _ _ => False) k o) w w' := by
  obtain ⟨y, hy1⟩ : ∃ y, y = hy + 1 + c := ⟨_, rfl⟩
  obtain ⟨n1, hn1⟩ : ∃ n1, n1 = n + 1 := ⟨_, rfl⟩
  obtain ⟨x, hx⟩ : ∃ x, x = cp * 18 := ⟨_, rfl⟩
  obtain ⟨cs, hcs⟩ : ∃ cs, cs = rowsL (fun i => (f i).sv) n := ⟨_, rfl⟩
  have hlen : cs.length = n * 18 := by rw [hcs]; exact rowsL_len (fun i => (f i).len) n
  obtain ⟨nw, hnw⟩ : ∃ nw : List SV, nw = [.int .u8 (.v nd), .int .u8 (.v k), .int .u8 (.v yy), .int .u8 (.nat c), .int .u64 (.wrap .u64 (.add (.v qc) (.lit 1))), .int .i64 (.v a), .int .i64 (.v p), .int .i64 (.v r), .int .u8 (.v u), .int .u64 (.v ii), .int .u64 (.v l), .int .i64 (.v at'), .int .i64 (.lit 0), .int .u8 (.lit 0), .int .i64 (.lit 0), .int .u64 (.lit 0), .int .i64 (.lit 0), .raw (.slice none 0 0)] := ⟨_, rfl⟩
  obtain ⟨cs2, hcs2⟩ : ∃ cs2, cs2 = cs ++ nw := ⟨_, rfl⟩
  rw [← hy1] at hs hfz2
  obtain ⟨Q, hQ⟩ : ∃ Q : Ending → World → Prop, Q = fun e w' => BegAns e ∧ (BegNo hb hy none n cp eb ey c qc f w' ∨ ((∀ i, i < n → ¬ (f i).is c) ∧ BegTo hb hy n c (IntKind.u64.wrap (qc + 1)) f (Ent.new nd k yy c (IntKind.u64.wrap (qc + 1)) a p r u ii l at') (fun _ _ => False) w w')) ∧ Chg (fun k o => (k = hb ∧ o = hy) ∨ (k = hb ∧ o = hy + 1 + c) ∨ (fun _ _ => False) k o) w w' := ⟨_, rfl⟩
  rw [← hQ]
  subst h0
  subst h0c
  have hhd : ∀ N : Nums, SV.den N (.raw (.slice none 0 0)) = some (.slice none 0 0) := fun N => rfl
  have hlt : ∀ k o, InR [⟨hb, hy, 1⟩, ⟨hb, y, 1⟩] [⟨true, [.raw (.slice none 0 0)], none⟩, ⟨true, [.int .u64 (.v qc)], none⟩] k o → (k = hb ∧ o = hy) ∨ (k = hb ∧ o = hy + 1 + c) ∨ False := fun k o h => by
    rcases inR_cons h with ⟨_, h1, h2, h3⟩ | h
    · simp only at h1 h2 h3; exact .inl ⟨h1, by omega⟩
    · rcases inR_cons h with ⟨_, h1, h2, h3⟩ | h
      · simp only at h1 h2 h3; exact .inr (.inl ⟨h1, by omega⟩)
      · exact absurd h inR_nil
  have hno : ∀ (N : Nums) (E : Env) (w' : World) (rg' : List Rg), Nums.le [⟨hb, hy, 1⟩, ⟨hb, y, 1⟩] N → rg'[0]? = some ⟨true, [.raw (.slice none 0 0)], none⟩ → rg'[1]? = some ⟨true, [.int .u64 (.v qc)], none⟩ → True → Sat E N rg' w' → BegNo hb hy none 0 0 eb ey c qc f w' := fun N E w' rg' hN g0 g1 _ hS => by
    refine ⟨hS.at (hN 0 _ rfl) g0 (j := 0) rfl (hhd N), ?_, fun i hi => absurd hi (Nat.not_lt_zero _)⟩
    rw [← hy1]
    exact hS.at (hN 1 _ rfl) g1 (j := 0) rfl rfl
  have hcs0 : cs = [] := hcs
  subst hcs0
  have hcs3 : cs2 = nw := hcs2
  have hn1' : n1 = 1 := hn1
  subst hn1'
  refine X.begin (rg := [⟨true, [.raw (.slice none 0 0)], none⟩, ⟨true, [.int .u64 (.v qc)], none⟩]) (N := [⟨hb, hy, 1⟩, ⟨hb, y, 1⟩]) (ss := [.own 0 0, .int .u8 (.v nd), .agg [.int .u8 (.v k), .int .u8 (.v yy), .int .u8 (.nat c), .int .u64 (.v s), .int .i64 (.v a), .int .i64 (.v p), .int .i64 (.v r), .int .u8 (.v u), .int .u64 (.v ii), .int .u64 (.v l)], .int .i64 (.v at')]) Try.func28 rfl B28_ok rfl rfl (Sat.stdL ⟨⟨World.block_lt_of_cell? _ _ hh, rfl, fun j c hj => ?_, fun _ => Nat.le_refl _, fun _ j hj => ?_⟩, ⟨World.block_lt_of_cell? _ _ hs, rfl, fun j c hj => ?_, fun _ => Nat.le_refl _, fun _ j hj => ?_⟩, trivial⟩
      ⟨⟨fun _ j j' hj hj' h => ?_, trivial⟩, trivial, trivial⟩) ?_
  · cases j with
    | zero => simp at hj; subst hj; exact ⟨_, rfl, hh⟩
    | succ j => simp at hj
  · have hj : j < 1 := hj
    obtain rfl : j = 0 := by omega
    simp only [Nat.add_zero]
    exact ⟨by rw [hh]; rfl, hfz⟩
  · cases j with
    | zero => simp at hj; subst hj; exact ⟨_, rfl, hs⟩
    | succ j => simp at hj
  · have hj : j < 1 := hj
    obtain rfl : j = 0 := by omega
    simp only [Nat.add_zero]
    exact ⟨by rw [hs]; rfl, hfz2⟩
  · have hj : j < 1 := hj
    have hj' : j' < 1 := hj'
    simp only at h
    omega
  refine X.go T28_ok 400 _ rfl Try.results28 ?_
  conv => arg 2; cbv
  refine X.lit 21 rfl (fun h0 => ?_) (fun _ => ?_)
  · exfalso
    simp only [SB.T, SB.den, SI.den] at h0
    omega
  refine X.go T28_ok 400 _ rfl Try.results28 ?_
  conv => arg 2; cbv
  refine X.bare rfl rfl ?_
  refine X.call rfl rfl rfl rfl Try.call66 (fun N w1 args hN hS ha => ?_)
  have ha' : [Value.agg #[.int .u8 k, .int .u8 yy, .int .u8 (c : Nat), .int .u64 1, .int .i64 a, .int .i64 p, .int .i64 r, .int .u8 u, .int .u64 ii, .int .u64 l]] = args := Option.some.inj (ha ▸ rfl : some _ = some args)
  subst ha'
  refine (may_ok _ _ _ _ _ _ _ _ _ _ w1).mono fun e w' ⟨⟨b, he, hb8⟩, hch⟩ => ⟨_, he, Goes.same (r := .bool (.v b)) hN hS hch rfl rfl ?_⟩
  clear hch he hS hN ha
  refine X.go T28_ok 400 _ rfl Try.results28 ?_
  conv => arg 2; cbv
  refine X.cond rfl (fun _ => ?_) (fun _ => ?_)
  · refine X.go T28_ok 400 _ rfl Try.results28 ?_
    conv => arg 2; cbv
    refine X.done T28_ok rfl (fun N w' v hN hS hv => ?_)
    cases hv
    rw [hQ]
    exact ⟨⟨_, _, ⟨0, 0, 0, 0, 0, 0, 0, 0, 0, 0, 0, 0, 0, 0, 0, 0, 0, none, 0, 0⟩, rfl⟩, .inl (hno N _ w' _ hN (by rfl) (by rfl) trivial hS), hS.chg.mono fun k o _ h => hlt k o h⟩
  refine X.go T28_ok 400 _ rfl Try.results28 ?_
  conv => arg 2; cbv
  refine X.call rfl rfl rfl rfl Try.call36 (fun N w1 args hN hS ha => ?_)
  have h0 := hN 0 _ rfl
  have ha' : [Value.pointer (some ⟨hb, hy, none⟩), .int .u8 (c : Nat)] = args := by simpa [SV.denL, SV.den, SI.den, h0] using ha
  subst ha'
  obtain ⟨k1, -, k2⟩ := hno N _ w1 _ hN (by rfl) (by rfl) trivial hS
  refine (open_ok hb hy none 0 0 c f w1 hn (fun i hi => absurd hi (Nat.not_lt_zero _)) k1).mono fun e w' ⟨⟨r0, he, hf⟩, hch⟩ => ?_
  obtain ⟨d1, hd1⟩ : ∃ d, d = (if r0 < 0 then 0 else r0) := ⟨_, rfl⟩
  obtain ⟨d2, hd2⟩ : ∃ d, d = decide (0 ≤ r0) := ⟨_, rfl⟩
  rw [← hd1, ← hd2] at he
  refine ⟨_, he, Goes.same (r := .tup [.int .i64 (.v d1), .bool (.v d2)]) hN hS hch rfl rfl ?_⟩
  clear hch he hS hN ha k1 k2 h0
  refine X.go T28_ok 400 _ rfl Try.results28 ?_
  conv => arg 2; cbv
  refine X.cond rfl (fun _ => ?_) (fun h2 => ?_)
  · refine X.go T28_ok 400 _ rfl Try.results28 ?_
    conv => arg 2; cbv
    refine X.done T28_ok rfl (fun N w' v hN hS hv => ?_)
    cases hv
    rw [hQ]
    exact ⟨⟨_, _, ⟨0, 0, 0, 0, 0, 0, 0, 0, 0, 0, 0, 0, 0, 0, 0, 0, 0, none, 0, 0⟩, rfl⟩, .inl (hno N _ w' _ hN (by rfl) (by rfl) trivial hS), hS.chg.mono fun k o _ h => hlt k o h⟩
  have hnone : ∀ i, i < 0 → ¬ (f i).is c := by
    have h3 : ¬ 0 ≤ r0 := by
      have : d2 = false := h2
      rw [hd2] at this
      simpa using this
    rcases hf with ⟨_, h⟩ | ⟨i, _, h, _⟩
    · exact h
    · omega
  have hr1 : ∀ N : Nums, Nums.le [⟨hb, hy, 1⟩, ⟨hb, y, 1⟩] N → (SV.own 0 1).den N = some (.pointer (some ⟨hb, hy + 1, none⟩)) := fun N hN => by
    have := hN 0 _ rfl
    simp only [SV.den, this]
  have hr2 : ∀ N : Nums, Nums.le [⟨hb, hy, 1⟩, ⟨hb, y, 1⟩] N → (SV.own 1 0).den N = some (.pointer (some ⟨hb, hy + 1 + c * 1, none⟩)) := fun N hN => by
    have := hN 1 _ rfl
    simp only [SV.den, this, hy1, Nat.add_zero, Nat.mul_one]
  refine X.go T28_ok 400 _ rfl Try.results28 ?_
  conv => arg 2; cbv
  refine X.drawnO T28_ok noCall (idxG 75 [⟨5, 40, 38, 41, 137, c, .own 0 1, .own 1 0⟩, ⟨10, 45, 38, 46, 137, c, .own 0 1, .own 1 0⟩]) rfl noCall_ok (idxG_ok _ rfl (fun q hq => ?_)) 75 rfl ?_
  · simp only [List.mem_cons, List.mem_nil_iff, or_false] at hq
    rcases hq with rfl | rfl <;> exact good_arr Try.underlying137 Try.sizeOf27 hc9 hr1 hr2
  generalize hfin : (fun s' => X (std Try.prog Try.f28 Q w [⟨hb, hy, 1⟩, ⟨hb, y, 1⟩] [⟨true, [.raw (.slice none 0 0)], none⟩, ⟨true, [.int .u64 (.v qc)], none⟩] B28) _ s') = fin
  conv => cbv
  repeat (first | refine ⟨rfl, ?_⟩ | refine ⟨⟨_, _, rfl, rfl⟩, ?_⟩ | refine ⟨⟨rfl, _, _, rfl, rfl⟩, ?_⟩)
  subst hfin
  show X _ _ _
  refine X.go T28_ok 400 _ rfl Try.results28 ?_
  conv => arg 2; cbv
  refine X.drawnO T28_ok noCall (idxG 75 [⟨5, 51, 49, 52, 137, c, .own 0 1, .own 1 0⟩]) rfl noCall_ok (idxG_ok _ rfl (fun q hq => ?_)) 75 rfl ?_
  · simp only [List.mem_cons, List.mem_nil_iff, or_false] at hq
    rcases hq with rfl <;> exact good_arr Try.underlying137 Try.sizeOf27 hc9 hr1 hr2
  generalize hfin : (fun s' => X (std Try.prog Try.f28 Q w [⟨hb, hy, 1⟩, ⟨hb, y, 1⟩] [⟨true, [.raw (.slice none 0 0)], none⟩, ⟨true, [.int .u64 (.v qc)], none⟩] B28) _ s') = fin
  conv => cbv
  repeat (first | refine ⟨rfl, ?_⟩ | refine ⟨⟨_, _, rfl, rfl⟩, ?_⟩ | refine ⟨⟨rfl, _, _, rfl, rfl⟩, ?_⟩)
  subst hfin
  show X _ _ _
  refine X.go T28_ok 1 _ rfl Try.results28 ?_
  conv => arg 2; cbv
  refine X.drawnL (fn := Try.f28) T28_ok noCall (idxG 75 []) 10 [11, 12, 13] 10 rfl (by kernel_rfl) rfl noCall_ok (idxG_ok [] rfl (fun q hq => absurd hq List.not_mem_nil)) 75 rfl ?_
  generalize hfin : (fun s' => X (std Try.prog Try.f28 Q w [⟨hb, hy, 1⟩, ⟨hb, y, 1⟩] [⟨true, [.raw (.slice none 0 0)], none⟩, ⟨true, [.int .u64 (.v qc)], none⟩] B28) _ s') = fin
  conv => cbv
  repeat (first | refine ⟨rfl, ?_⟩ | refine ⟨⟨_, _, rfl, rfl⟩, ?_⟩ | refine ⟨⟨rfl, _, _, rfl, rfl⟩, ?_⟩)
  subst hfin
  show X _ _ _
  apply X.opEq (T := T28) T28_ok
  · exact opE_append (te := ti93) (new := nw) (m := 1) rfl rfl rfl rfl rfl rfl rfl rfl (appSrc_row (g := ⟨true, nw, none⟩) rfl rfl (by rw [hnw]; rfl) (by rw [hnw]; rfl))
      (appV_nil (te := ti93) (by decide) (appOk_ok (by decide) rfl (by rw [hnw]; rfl) (by rw [hnw]; rfl) (by decide) (by decide))) rfl
  rw [← hcs3]
  refine X.go T28_ok 5 _ rfl Try.results28 ?_
  conv => arg 2; cbv
  refine X.names fun N hN hNl => ?_
  have hNl : N.length = 5+1 := hNl
  have hN : Nums.le [⟨hb, hy, 1⟩, ⟨hb, y, 1⟩] N := hN
  obtain ⟨p6, hp6⟩ : ∃ p, N[5]? = some p := ⟨_, List.getElem?_eq_getElem (by omega)⟩
  obtain ⟨cp', hcp'⟩ : ∃ c, c = p6.x / 18 := ⟨_, rfl⟩
  refine X.recell 0 ⟨true, [.osl 5 0 1 18 none], none⟩ [.slv (some ⟨p6.b, p6.o, none⟩) 1 cp'] rfl rfl (fun N' hN' j c c' h1 h2 v hv => ?_) ?_
  · cases j with
    | zero =>
      simp at h1 h2; subst h1; subst h2
      have := hN' 5 p6 hp6
      simp only [SV.den, this, Num.cap, Nat.sub_zero, Nat.add_zero, ← hcp'] at hv ⊢
      exact hv
    | succ j => simp at h1
  refine X.less [0, 6, 8, 9, 10] ?_
  show X (mkE Try.prog Try.f28 Q w (InR [⟨hb, hy, 1⟩, ⟨hb, y, 1⟩] [⟨true, [.raw (.slice none 0 0)], none⟩, ⟨true, [.int .u64 (.v qc)], none⟩]) (elsewhere [⟨hb, hy, 1⟩, ⟨hb, y, 1⟩] [⟨true, [.raw (.slice none 0 0)], none⟩, ⟨true, [.int .u64 (.v qc)], none⟩] w) (fun _ _ => False) (fun _ => True) N B28) _ _
  refine X.go T28_ok 400 _ rfl Try.results28 ?_
  conv => arg 2; cbv
  refine X.done T28_ok rfl (fun N' w' v hN' hS hv => ?_)
  cases hv
  rw [hQ]
  have q0 := hN' 0 _ (hN 0 _ rfl)
  have q1 := hN' 1 _ (hN 1 _ rfl)
  have q6 := hN' 5 _ hp6
  have hl2 : cs2.length = 0 * 18 + 18 := by rw [hcs2, List.length_append, hlen, hnw]; rfl
  have hext := hS.ext 5 ⟨true, cs2, none⟩ p6 rfl q6 rfl
  simp only [hl2] at hext
  have hcap : cp' * 18 ≤ p6.x := by rw [hcp']; exact Nat.div_mul_le_self _ _
  have hap1 : ∀ j, j < cp' * 18 → ¬ (p6.b = hb ∧ p6.o + j = hy) := fun j hj ⟨e1, e2⟩ => by
    have := hS.disj 5 0 _ _ p6 _ rfl q6 rfl q0 rfl (by decide) 0 (by show 0 < 1; omega) e1.symm
    simp only at this
    omega
  have hap2 : ∀ j, j < cp' * 18 → ¬ (p6.b = hb ∧ p6.o + j = y) := fun j hj ⟨e1, e2⟩ => by
    have := hS.disj 5 1 _ _ p6 _ rfl q6 rfl q1 rfl (by decide) 0 (by show 0 < 1; omega) e1.symm
    simp only at this
    omega
  refine ⟨⟨_, _, ⟨0, k, yy, (c : Int), IntKind.u64.wrap (qc + 1), a, p, r, u, ii, l, 0, 0, 0, 0, 0, 0, none, 0, 0⟩, rfl⟩, .inr ⟨hnone, p6.b, p6.o, cp', ?_, ?_, ?_, fun j hj => ?_, ?_, fun q v hq => ?_, fun j hj => ⟨hap1 j hj, by rw [← hy1]; exact hap2 j hj⟩, ?_⟩, hS.chg.mono fun k o _ h => hlt k o h⟩
  · rw [hcp']
    exact (Nat.le_div_iff_mul_le (by decide)).2 (by omega)
  · rw [← hn1]
    exact hS.row (r := 0) rfl q0 rfl 0 _ rfl
  · rw [← hy1]
    exact hS.row (r := 1) rfl q1 rfl 0 _ rfl
  · exact hS.room 5 ⟨true, cs2, none⟩ p6 rfl q6 rfl j (by omega)
  · exact rows_at hS (r := 5) rfl q6 fun i hi j hj => by
      rw [hcs2, List.getElem?_append_left (by rw [hlen]; exact idx_lt hi hj), hcs]
      exact rowsL_at (fun i => (f i).len) hj hi
  · have hd : SV.denL N' nw = some (Ent.vals (Ent.new nd k yy c (IntKind.u64.wrap (qc + 1)) a p r u ii l at')) := by rw [hnw]; rfl
    obtain ⟨e1, e2⟩ := SV.denL_get _ hd
    obtain ⟨c', hc'⟩ : ∃ c', nw[q]? = some c' := ⟨_, List.getElem?_eq_getElem (by rw [← e1]; exact (List.getElem?_eq_some_iff.1 hq).1)⟩
    obtain ⟨v', e3, e4⟩ := e2 q c' hc'
    rw [hq] at e4; cases e4
    exact hS.at q6 (g := ⟨true, cs2, none⟩) rfl (j := 0 * 18 + q) (by
      show cs2[0 * 18 + q]? = _
      rw [hcs2, List.getElem?_append_right (by omega), hlen, Nat.add_sub_cancel_left]; exact hc') e3
  · rcases hS.foot 5 ⟨true, cs2, none⟩ p6 rfl q6 rfl with h | h
    · exact .inl h
    · exact absurd (hlt _ _ (h 0 (by omega))) (fun h => by
        rcases h with ⟨e1, e2⟩ | ⟨e1, e2⟩ | e
        · exact hap1 0 (by omega) ⟨e1, by omega⟩
        · exact hap2 0 (by omega) ⟨e1, by omega⟩
        · exact e)

end Go.Proofs.Ytcfghkiokdbhjaa
