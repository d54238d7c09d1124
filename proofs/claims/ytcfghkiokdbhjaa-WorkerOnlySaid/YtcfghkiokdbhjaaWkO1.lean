/- WorkerOnly: what is asked behind each act, turn by turn. (Printed by genO2.py.) -/
import Derived.Test.YtcfghkiokdbhjaaWkR

namespace Go.Proofs.Ytcfghkiokdbhjaa
open Go.Eng

theorem outAt_same {a : Ans} {W : World} {c : Int} (h : OutAt a W) : OutAt { a with i0 := c } W := h

/-- a condition whose two arms come out alike -/
theorem X.cond2 {E : Ctx} {ι : Type} {c : Operand} {x y : Code} {k : List It} {s : St} {b : SB} (hc : ev s.fr c = some (.bool b)) (S : ι → St) (ht : b.T → (∀ i, X E k (S i)) → X E (.code x :: k) s) (hf : b.F → (∀ i, X E k (S i)) → X E (.code y :: k) s)
    (h : ∀ i, X E k (S i)) : X E (.code (.cond c x y) :: k) s := X.cond hc (fun t => ht t h) (fun t => hf t h)

theorem only_good {k : Int} {a : Ans} {j j' : Job} (h : RelP k a j j') : ¬ (((SB.eq (SI.v j'.1) (SI.lit 3)).and (SB.ne (SI.v j.1) (SI.lit 3))).and
      ((((((SB.ne (SI.v j.1) (SI.lit 2)).or (SB.ne (SI.v k) (SI.lit 3))).or (SB.ne (SI.v a.1) (SI.v j.2))).or
                ((SB.eq (SI.v j'.4) (SI.v j.4)).and ((SB.eq (SI.v j'.5) (SI.v j.5)).and ((SB.eq (SI.v j'.6) (SI.v j.6)).and (SB.eq (SI.v j'.7) (SI.v j.7))))).not).or
            (SB.ne (SI.v j'.3) (SI.v j.3))).or (SB.eq (SI.v a.12) (SI.lit 17)))).T := by
  intro hb
  have h1 := h.1
  simp only [SB.T, SB.F, SI.den] at hb
  obtain ⟨⟨hp, hn⟩, hr⟩ := hb
  rcases h1 hp with e | ⟨e1, e2, e3, e4, e5, e6, e7, e8, e9⟩
  · exact hn e
  · simp [e1, e2, e3, e4, e5, e6, e7, e8, e9] at hr
theorem only_good2 {k : Int} {a : Ans} {j j' : Job} (h : RelP k a j j') : ¬ (((SB.eq (SI.v j'.1) (SI.lit 2)).and (SB.ne (SI.v j.1) (SI.lit 2))).and (SB.ne (SI.v j.1) (SI.lit 1))).T := by
  intro hb
  have h2 := h.2
  simp only [SB.T, SI.den] at hb
  obtain ⟨⟨hp, hn⟩, hr⟩ := hb
  rcases h2 hp with e | e
  · exact hn e
  · exact hr e


/-- the loops' bodies in a code, the outer one ahead of those in it -/
def loopsOf : Code → List Code
  | .seq x y => loopsOf x ++ loopsOf y
  | .cond _ x y => loopsOf x ++ loopsOf y
  | .block _ c => loopsOf c
  | .loop c => c :: loopsOf c
  | .scope c => loopsOf c
  | _ => []

noncomputable def chkC : Code := match Try.f3.body with
  | some c => match loopsOf c with
    | [_, _, c] => c
    | _ => default
  | none => default

noncomputable def chkE (b y : Nat) (W : World) (J : Nat → Job) : Ctx := mkE Try.prog Try.f3 (fun e w' => e = .returned (.bool true) ∧ Chg (fun _ _ => False) W w') W (InR [] []) (elsewhere [] [] W) (jobD b y) (JobsAt b y J) [] B3

/-- the state at the head of the check loop -/
def chkS (po : Option Addr) (n cp b y i : Nat) (k : Int) (s : Nat) (c : Int) (a : Ans) (J : Nat → Job) (at' : Int) : St :=
  ⟨[(0, .val (.slv po n cp)), (3, .val (.ext b y 0)), (4, .val (.int .i64 (.nat i))), (5, .val (.own 0 0)), (7, .val (.own 1 0)), (11, .val (.int .i64 (.lit at')))],
   [⟨true, [.int .u8 (.v (J 0).p), .int .u64 (.v (J 0).c), .int .u64 (.v (J 0).i), .int .u64 (.v (J 0).n), .int .u8 (.v (J 0).t), .int .i64 (.v (J 0).a), .int .i64 (.v (J 0).g), .int .u8 (.v (J 1).p), .int .u64 (.v (J 1).c), .int .u64 (.v (J 1).i), .int .u64 (.v (J 1).n), .int .u8 (.v (J 1).t), .int .i64 (.v (J 1).a), .int .i64 (.v (J 1).g), .int .u8 (.v (J 2).p), .int .u64 (.v (J 2).c), .int .u64 (.v (J 2).i), .int .u64 (.v (J 2).n), .int .u8 (.v (J 2).t), .int .i64 (.v (J 2).a), .int .i64 (.v (J 2).g), .int .u8 (.v (J 3).p), .int .u64 (.v (J 3).c), .int .u64 (.v (J 3).i), .int .u64 (.v (J 3).n), .int .u8 (.v (J 3).t), .int .i64 (.v (J 3).a), .int .i64 (.v (J 3).g), .int .u8 (.v (J 4).p), .int .u64 (.v (J 4).c), .int .u64 (.v (J 4).i), .int .u64 (.v (J 4).n), .int .u8 (.v (J 4).t), .int .i64 (.v (J 4).a), .int .i64 (.v (J 4).g), .int .u8 (.v (J 5).p), .int .u64 (.v (J 5).c), .int .u64 (.v (J 5).i), .int .u64 (.v (J 5).n), .int .u8 (.v (J 5).t), .int .i64 (.v (J 5).a), .int .i64 (.v (J 5).g), .int .u8 (.v (J 6).p), .int .u64 (.v (J 6).c), .int .u64 (.v (J 6).i), .int .u64 (.v (J 6).n), .int .u8 (.v (J 6).t), .int .i64 (.v (J 6).a), .int .i64 (.v (J 6).g), .int .u8 (.v (J 7).p), .int .u64 (.v (J 7).c), .int .u64 (.v (J 7).i), .int .u64 (.v (J 7).n), .int .u8 (.v (J 7).t), .int .i64 (.v (J 7).a), .int .i64 (.v (J 7).g), .int .u8 (.v (J 8).p), .int .u64 (.v (J 8).c), .int .u64 (.v (J 8).i), .int .u64 (.v (J 8).n), .int .u8 (.v (J 8).t), .int .i64 (.v (J 8).a), .int .i64 (.v (J 8).g), .int .u8 (.v (J 9).p), .int .u64 (.v (J 9).c), .int .u64 (.v (J 9).i), .int .u64 (.v (J 9).n), .int .u8 (.v (J 9).t), .int .i64 (.v (J 9).a), .int .i64 (.v (J 9).g), .int .u8 (.v (J 10).p), .int .u64 (.v (J 10).c), .int .u64 (.v (J 10).i), .int .u64 (.v (J 10).n), .int .u8 (.v (J 10).t), .int .i64 (.v (J 10).a), .int .i64 (.v (J 10).g), .int .u8 (.v (J 11).p), .int .u64 (.v (J 11).c), .int .u64 (.v (J 11).i), .int .u64 (.v (J 11).n), .int .u8 (.v (J 11).t), .int .i64 (.v (J 11).a), .int .i64 (.v (J 11).g), .int .u8 (.v (J 12).p), .int .u64 (.v (J 12).c), .int .u64 (.v (J 12).i), .int .u64 (.v (J 12).n), .int .u8 (.v (J 12).t), .int .i64 (.v (J 12).a), .int .i64 (.v (J 12).g), .int .u8 (.v (J 13).p), .int .u64 (.v (J 13).c), .int .u64 (.v (J 13).i), .int .u64 (.v (J 13).n), .int .u8 (.v (J 13).t), .int .i64 (.v (J 13).a), .int .i64 (.v (J 13).g), .int .u8 (.v (J 14).p), .int .u64 (.v (J 14).c), .int .u64 (.v (J 14).i), .int .u64 (.v (J 14).n), .int .u8 (.v (J 14).t), .int .i64 (.v (J 14).a), .int .i64 (.v (J 14).g), .int .u8 (.v (J 15).p), .int .u64 (.v (J 15).c), .int .u64 (.v (J 15).i), .int .u64 (.v (J 15).n), .int .u8 (.v (J 15).t), .int .i64 (.v (J 15).a), .int .i64 (.v (J 15).g), .int .u8 (.lit 0), .int .u64 (.lit 0), .int .u64 (.lit 0), .int .u64 (.lit 0), .int .u8 (.lit 0), .int .i64 (.lit 0), .int .i64 (.lit 0), .int .u8 (.lit 0), .int .u64 (.lit 0), .int .u64 (.lit 0), .int .u64 (.lit 0), .int .u8 (.lit 0), .int .i64 (.lit 0), .int .i64 (.lit 0), .int .u8 (.lit 0), .int .u64 (.lit 0), .int .u64 (.lit 0), .int .u64 (.lit 0), .int .u8 (.lit 0), .int .i64 (.lit 0), .int .i64 (.lit 0), .int .u8 (.lit 0), .int .u64 (.lit 0), .int .u64 (.lit 0), .int .u64 (.lit 0), .int .u8 (.lit 0), .int .i64 (.lit 0), .int .i64 (.lit 0)], none⟩, ⟨true, actSv k s c a, none⟩]⟩

set_option maxHeartbeats 400000000 in
set_option maxRecDepth 100000 in
set_option cbv.maxSteps 100000000 in
theorem chk_0 (po : Option Addr) (n cp b y i : Nat) (k : Int) (s : Nat) (c : Int) (a : Ans) (J J' : Nat → Job) (W : World) (hrel : ∀ i, i < 16 → RelP k a (J i) (J' i)) (K : List It) (q : Go.Act → World → Prop)
    (hq : ∀ a' w, At (chkE b y W J') (chkS po n cp b y i k s c a J 1) a' w → q a' w) : X (chkE b y W J') (.code chkC :: .lp q :: K) (chkS po n cp b y i k s c a J 0) := by
  unfold chkE chkS
  refine X.goC .nil true T3_ok 400 _ rfl Try.results3 ?_
  conv => arg 2; cbv
  refine X.call rfl rfl rfl rfl Try.call17 (fun N w1 args hN hS ha => ?_)
  have ha' : [Value.pointer (some ⟨b, y, none⟩), .int .u8 (0 : Nat)] = args := Option.some.inj (ha ▸ rfl : some _ = some args)
  subst ha'
  refine (job_ok b y 0 w1 J' (by omega) hS.res).mono fun e w' ⟨he, hc⟩ => ⟨_, he, Goes.same (r := .agg (J' 0).sv) hN hS hc rfl rfl ?_⟩
  clear hc he hS hN ha
  refine X.goC .nil true T3_ok 400 _ rfl Try.results3 ?_
  conv => arg 2; cbv
  refine X.cond rfl (fun hbad => absurd hbad (only_good (hrel 0 (by omega)))) (fun _ => ?_)
  refine X.goC .nil true T3_ok 400 _ rfl Try.results3 ?_
  conv => arg 2; cbv
  refine X.cond rfl (fun hbad => absurd hbad (only_good2 (hrel 0 (by omega)))) (fun _ => ?_)
  refine X.goC .nil true T3_ok 400 _ rfl Try.results3 ?_
  conv => arg 2; cbv
  refine X.back (fun N a1 w hN hf hS => hq a1 w ?_)
  exact At.same hN hf hS (Nat.zero_le _) ⟨⟨_, rfl, .inl ⟨rfl, rfl⟩⟩, ⟨_, rfl, .inl ⟨rfl, rfl⟩⟩, ⟨_, rfl, .inl ⟨rfl, rfl⟩⟩, ⟨_, rfl, .inl ⟨rfl, rfl⟩⟩, ⟨_, rfl, .inl ⟨rfl, rfl⟩⟩, ⟨_, rfl, .inl ⟨rfl, rfl⟩⟩, trivial⟩ ⟨fun _ => rfl, SubC.refl rfl, rfl, fun _ => rfl, SubC.refl rfl, rfl, trivial⟩
set_option maxHeartbeats 400000000 in
set_option maxRecDepth 100000 in
set_option cbv.maxSteps 100000000 in
theorem chk_1 (po : Option Addr) (n cp b y i : Nat) (k : Int) (s : Nat) (c : Int) (a : Ans) (J J' : Nat → Job) (W : World) (hrel : ∀ i, i < 16 → RelP k a (J i) (J' i)) (K : List It) (q : Go.Act → World → Prop)
    (hq : ∀ a' w, At (chkE b y W J') (chkS po n cp b y i k s c a J 2) a' w → q a' w) : X (chkE b y W J') (.code chkC :: .lp q :: K) (chkS po n cp b y i k s c a J 1) := by
  unfold chkE chkS
  refine X.goC .nil true T3_ok 400 _ rfl Try.results3 ?_
  conv => arg 2; cbv
  refine X.call rfl rfl rfl rfl Try.call17 (fun N w1 args hN hS ha => ?_)
  have ha' : [Value.pointer (some ⟨b, y, none⟩), .int .u8 (1 : Nat)] = args := Option.some.inj (ha ▸ rfl : some _ = some args)
  subst ha'
  refine (job_ok b y 1 w1 J' (by omega) hS.res).mono fun e w' ⟨he, hc⟩ => ⟨_, he, Goes.same (r := .agg (J' 1).sv) hN hS hc rfl rfl ?_⟩
  clear hc he hS hN ha
  refine X.goC .nil true T3_ok 400 _ rfl Try.results3 ?_
  conv => arg 2; cbv
  refine X.cond rfl (fun hbad => absurd hbad (only_good (hrel 1 (by omega)))) (fun _ => ?_)
  refine X.goC .nil true T3_ok 400 _ rfl Try.results3 ?_
  conv => arg 2; cbv
  refine X.cond rfl (fun hbad => absurd hbad (only_good2 (hrel 1 (by omega)))) (fun _ => ?_)
  refine X.goC .nil true T3_ok 400 _ rfl Try.results3 ?_
  conv => arg 2; cbv
  refine X.back (fun N a1 w hN hf hS => hq a1 w ?_)
  exact At.same hN hf hS (Nat.zero_le _) ⟨⟨_, rfl, .inl ⟨rfl, rfl⟩⟩, ⟨_, rfl, .inl ⟨rfl, rfl⟩⟩, ⟨_, rfl, .inl ⟨rfl, rfl⟩⟩, ⟨_, rfl, .inl ⟨rfl, rfl⟩⟩, ⟨_, rfl, .inl ⟨rfl, rfl⟩⟩, ⟨_, rfl, .inl ⟨rfl, rfl⟩⟩, trivial⟩ ⟨fun _ => rfl, SubC.refl rfl, rfl, fun _ => rfl, SubC.refl rfl, rfl, trivial⟩
set_option maxHeartbeats 400000000 in
set_option maxRecDepth 100000 in
set_option cbv.maxSteps 100000000 in
theorem chk_2 (po : Option Addr) (n cp b y i : Nat) (k : Int) (s : Nat) (c : Int) (a : Ans) (J J' : Nat → Job) (W : World) (hrel : ∀ i, i < 16 → RelP k a (J i) (J' i)) (K : List It) (q : Go.Act → World → Prop)
    (hq : ∀ a' w, At (chkE b y W J') (chkS po n cp b y i k s c a J 3) a' w → q a' w) : X (chkE b y W J') (.code chkC :: .lp q :: K) (chkS po n cp b y i k s c a J 2) := by
  unfold chkE chkS
  refine X.goC .nil true T3_ok 400 _ rfl Try.results3 ?_
  conv => arg 2; cbv
  refine X.call rfl rfl rfl rfl Try.call17 (fun N w1 args hN hS ha => ?_)
  have ha' : [Value.pointer (some ⟨b, y, none⟩), .int .u8 (2 : Nat)] = args := Option.some.inj (ha ▸ rfl : some _ = some args)
  subst ha'
  refine (job_ok b y 2 w1 J' (by omega) hS.res).mono fun e w' ⟨he, hc⟩ => ⟨_, he, Goes.same (r := .agg (J' 2).sv) hN hS hc rfl rfl ?_⟩
  clear hc he hS hN ha
  refine X.goC .nil true T3_ok 400 _ rfl Try.results3 ?_
  conv => arg 2; cbv
  refine X.cond rfl (fun hbad => absurd hbad (only_good (hrel 2 (by omega)))) (fun _ => ?_)
  refine X.goC .nil true T3_ok 400 _ rfl Try.results3 ?_
  conv => arg 2; cbv
  refine X.cond rfl (fun hbad => absurd hbad (only_good2 (hrel 2 (by omega)))) (fun _ => ?_)
  refine X.goC .nil true T3_ok 400 _ rfl Try.results3 ?_
  conv => arg 2; cbv
  refine X.back (fun N a1 w hN hf hS => hq a1 w ?_)
  exact At.same hN hf hS (Nat.zero_le _) ⟨⟨_, rfl, .inl ⟨rfl, rfl⟩⟩, ⟨_, rfl, .inl ⟨rfl, rfl⟩⟩, ⟨_, rfl, .inl ⟨rfl, rfl⟩⟩, ⟨_, rfl, .inl ⟨rfl, rfl⟩⟩, ⟨_, rfl, .inl ⟨rfl, rfl⟩⟩, ⟨_, rfl, .inl ⟨rfl, rfl⟩⟩, trivial⟩ ⟨fun _ => rfl, SubC.refl rfl, rfl, fun _ => rfl, SubC.refl rfl, rfl, trivial⟩
set_option maxHeartbeats 400000000 in
set_option maxRecDepth 100000 in
set_option cbv.maxSteps 100000000 in
theorem chk_3 (po : Option Addr) (n cp b y i : Nat) (k : Int) (s : Nat) (c : Int) (a : Ans) (J J' : Nat → Job) (W : World) (hrel : ∀ i, i < 16 → RelP k a (J i) (J' i)) (K : List It) (q : Go.Act → World → Prop)
    (hq : ∀ a' w, At (chkE b y W J') (chkS po n cp b y i k s c a J 4) a' w → q a' w) : X (chkE b y W J') (.code chkC :: .lp q :: K) (chkS po n cp b y i k s c a J 3) := by
  unfold chkE chkS
  refine X.goC .nil true T3_ok 400 _ rfl Try.results3 ?_
  conv => arg 2; cbv
  refine X.call rfl rfl rfl rfl Try.call17 (fun N w1 args hN hS ha => ?_)
  have ha' : [Value.pointer (some ⟨b, y, none⟩), .int .u8 (3 : Nat)] = args := Option.some.inj (ha ▸ rfl : some _ = some args)
  subst ha'
  refine (job_ok b y 3 w1 J' (by omega) hS.res).mono fun e w' ⟨he, hc⟩ => ⟨_, he, Goes.same (r := .agg (J' 3).sv) hN hS hc rfl rfl ?_⟩
  clear hc he hS hN ha
  refine X.goC .nil true T3_ok 400 _ rfl Try.results3 ?_
  conv => arg 2; cbv
  refine X.cond rfl (fun hbad => absurd hbad (only_good (hrel 3 (by omega)))) (fun _ => ?_)
  refine X.goC .nil true T3_ok 400 _ rfl Try.results3 ?_
  conv => arg 2; cbv
  refine X.cond rfl (fun hbad => absurd hbad (only_good2 (hrel 3 (by omega)))) (fun _ => ?_)
  refine X.goC .nil true T3_ok 400 _ rfl Try.results3 ?_
  conv => arg 2; cbv
  refine X.back (fun N a1 w hN hf hS => hq a1 w ?_)
  exact At.same hN hf hS (Nat.zero_le _) ⟨⟨_, rfl, .inl ⟨rfl, rfl⟩⟩, ⟨_, rfl, .inl ⟨rfl, rfl⟩⟩, ⟨_, rfl, .inl ⟨rfl, rfl⟩⟩, ⟨_, rfl, .inl ⟨rfl, rfl⟩⟩, ⟨_, rfl, .inl ⟨rfl, rfl⟩⟩, ⟨_, rfl, .inl ⟨rfl, rfl⟩⟩, trivial⟩ ⟨fun _ => rfl, SubC.refl rfl, rfl, fun _ => rfl, SubC.refl rfl, rfl, trivial⟩
set_option maxHeartbeats 400000000 in
set_option maxRecDepth 100000 in
set_option cbv.maxSteps 100000000 in
theorem chk_4 (po : Option Addr) (n cp b y i : Nat) (k : Int) (s : Nat) (c : Int) (a : Ans) (J J' : Nat → Job) (W : World) (hrel : ∀ i, i < 16 → RelP k a (J i) (J' i)) (K : List It) (q : Go.Act → World → Prop)
    (hq : ∀ a' w, At (chkE b y W J') (chkS po n cp b y i k s c a J 5) a' w → q a' w) : X (chkE b y W J') (.code chkC :: .lp q :: K) (chkS po n cp b y i k s c a J 4) := by
  unfold chkE chkS
  refine X.goC .nil true T3_ok 400 _ rfl Try.results3 ?_
  conv => arg 2; cbv
  refine X.call rfl rfl rfl rfl Try.call17 (fun N w1 args hN hS ha => ?_)
  have ha' : [Value.pointer (some ⟨b, y, none⟩), .int .u8 (4 : Nat)] = args := Option.some.inj (ha ▸ rfl : some _ = some args)
  subst ha'
  refine (job_ok b y 4 w1 J' (by omega) hS.res).mono fun e w' ⟨he, hc⟩ => ⟨_, he, Goes.same (r := .agg (J' 4).sv) hN hS hc rfl rfl ?_⟩
  clear hc he hS hN ha
  refine X.goC .nil true T3_ok 400 _ rfl Try.results3 ?_
  conv => arg 2; cbv
  refine X.cond rfl (fun hbad => absurd hbad (only_good (hrel 4 (by omega)))) (fun _ => ?_)
  refine X.goC .nil true T3_ok 400 _ rfl Try.results3 ?_
  conv => arg 2; cbv
  refine X.cond rfl (fun hbad => absurd hbad (only_good2 (hrel 4 (by omega)))) (fun _ => ?_)
  refine X.goC .nil true T3_ok 400 _ rfl Try.results3 ?_
  conv => arg 2; cbv
  refine X.back (fun N a1 w hN hf hS => hq a1 w ?_)
  exact At.same hN hf hS (Nat.zero_le _) ⟨⟨_, rfl, .inl ⟨rfl, rfl⟩⟩, ⟨_, rfl, .inl ⟨rfl, rfl⟩⟩, ⟨_, rfl, .inl ⟨rfl, rfl⟩⟩, ⟨_, rfl, .inl ⟨rfl, rfl⟩⟩, ⟨_, rfl, .inl ⟨rfl, rfl⟩⟩, ⟨_, rfl, .inl ⟨rfl, rfl⟩⟩, trivial⟩ ⟨fun _ => rfl, SubC.refl rfl, rfl, fun _ => rfl, SubC.refl rfl, rfl, trivial⟩
set_option maxHeartbeats 400000000 in
set_option maxRecDepth 100000 in
set_option cbv.maxSteps 100000000 in
theorem chk_5 (po : Option Addr) (n cp b y i : Nat) (k : Int) (s : Nat) (c : Int) (a : Ans) (J J' : Nat → Job) (W : World) (hrel : ∀ i, i < 16 → RelP k a (J i) (J' i)) (K : List It) (q : Go.Act → World → Prop)
    (hq : ∀ a' w, At (chkE b y W J') (chkS po n cp b y i k s c a J 6) a' w → q a' w) : X (chkE b y W J') (.code chkC :: .lp q :: K) (chkS po n cp b y i k s c a J 5) := by
  unfold chkE chkS
  refine X.goC .nil true T3_ok 400 _ rfl Try.results3 ?_
  conv => arg 2; cbv
  refine X.call rfl rfl rfl rfl Try.call17 (fun N w1 args hN hS ha => ?_)
  have ha' : [Value.pointer (some ⟨b, y, none⟩), .int .u8 (5 : Nat)] = args := Option.some.inj (ha ▸ rfl : some _ = some args)
  subst ha'
  refine (job_ok b y 5 w1 J' (by omega) hS.res).mono fun e w' ⟨he, hc⟩ => ⟨_, he, Goes.same (r := .agg (J' 5).sv) hN hS hc rfl rfl ?_⟩
  clear hc he hS hN ha
  refine X.goC .nil true T3_ok 400 _ rfl Try.results3 ?_
  conv => arg 2; cbv
  refine X.cond rfl (fun hbad => absurd hbad (only_good (hrel 5 (by omega)))) (fun _ => ?_)
  refine X.goC .nil true T3_ok 400 _ rfl Try.results3 ?_
  conv => arg 2; cbv
  refine X.cond rfl (fun hbad => absurd hbad (only_good2 (hrel 5 (by omega)))) (fun _ => ?_)
  refine X.goC .nil true T3_ok 400 _ rfl Try.results3 ?_
  conv => arg 2; cbv
  refine X.back (fun N a1 w hN hf hS => hq a1 w ?_)
  exact At.same hN hf hS (Nat.zero_le _) ⟨⟨_, rfl, .inl ⟨rfl, rfl⟩⟩, ⟨_, rfl, .inl ⟨rfl, rfl⟩⟩, ⟨_, rfl, .inl ⟨rfl, rfl⟩⟩, ⟨_, rfl, .inl ⟨rfl, rfl⟩⟩, ⟨_, rfl, .inl ⟨rfl, rfl⟩⟩, ⟨_, rfl, .inl ⟨rfl, rfl⟩⟩, trivial⟩ ⟨fun _ => rfl, SubC.refl rfl, rfl, fun _ => rfl, SubC.refl rfl, rfl, trivial⟩
set_option maxHeartbeats 400000000 in
set_option maxRecDepth 100000 in
set_option cbv.maxSteps 100000000 in
theorem chk_6 (po : Option Addr) (n cp b y i : Nat) (k : Int) (s : Nat) (c : Int) (a : Ans) (J J' : Nat → Job) (W : World) (hrel : ∀ i, i < 16 → RelP k a (J i) (J' i)) (K : List It) (q : Go.Act → World → Prop)
    (hq : ∀ a' w, At (chkE b y W J') (chkS po n cp b y i k s c a J 7) a' w → q a' w) : X (chkE b y W J') (.code chkC :: .lp q :: K) (chkS po n cp b y i k s c a J 6) := by
  unfold chkE chkS
  refine X.goC .nil true T3_ok 400 _ rfl Try.results3 ?_
  conv => arg 2; cbv
  refine X.call rfl rfl rfl rfl Try.call17 (fun N w1 args hN hS ha => ?_)
  have ha' : [Value.pointer (some ⟨b, y, none⟩), .int .u8 (6 : Nat)] = args := Option.some.inj (ha ▸ rfl : some _ = some args)
  subst ha'
  refine (job_ok b y 6 w1 J' (by omega) hS.res).mono fun e w' ⟨he, hc⟩ => ⟨_, he, Goes.same (r := .agg (J' 6).sv) hN hS hc rfl rfl ?_⟩
  clear hc he hS hN ha
  refine X.goC .nil true T3_ok 400 _ rfl Try.results3 ?_
  conv => arg 2; cbv
  refine X.cond rfl (fun hbad => absurd hbad (only_good (hrel 6 (by omega)))) (fun _ => ?_)
  refine X.goC .nil true T3_ok 400 _ rfl Try.results3 ?_
  conv => arg 2; cbv
  refine X.cond rfl (fun hbad => absurd hbad (only_good2 (hrel 6 (by omega)))) (fun _ => ?_)
  refine X.goC .nil true T3_ok 400 _ rfl Try.results3 ?_
  conv => arg 2; cbv
  refine X.back (fun N a1 w hN hf hS => hq a1 w ?_)
  exact At.same hN hf hS (Nat.zero_le _) ⟨⟨_, rfl, .inl ⟨rfl, rfl⟩⟩, ⟨_, rfl, .inl ⟨rfl, rfl⟩⟩, ⟨_, rfl, .inl ⟨rfl, rfl⟩⟩, ⟨_, rfl, .inl ⟨rfl, rfl⟩⟩, ⟨_, rfl, .inl ⟨rfl, rfl⟩⟩, ⟨_, rfl, .inl ⟨rfl, rfl⟩⟩, trivial⟩ ⟨fun _ => rfl, SubC.refl rfl, rfl, fun _ => rfl, SubC.refl rfl, rfl, trivial⟩
set_option maxHeartbeats 400000000 in
set_option maxRecDepth 100000 in
set_option cbv.maxSteps 100000000 in
theorem chk_7 (po : Option Addr) (n cp b y i : Nat) (k : Int) (s : Nat) (c : Int) (a : Ans) (J J' : Nat → Job) (W : World) (hrel : ∀ i, i < 16 → RelP k a (J i) (J' i)) (K : List It) (q : Go.Act → World → Prop)
    (hq : ∀ a' w, At (chkE b y W J') (chkS po n cp b y i k s c a J 8) a' w → q a' w) : X (chkE b y W J') (.code chkC :: .lp q :: K) (chkS po n cp b y i k s c a J 7) := by
  unfold chkE chkS
  refine X.goC .nil true T3_ok 400 _ rfl Try.results3 ?_
  conv => arg 2; cbv
  refine X.call rfl rfl rfl rfl Try.call17 (fun N w1 args hN hS ha => ?_)
  have ha' : [Value.pointer (some ⟨b, y, none⟩), .int .u8 (7 : Nat)] = args := Option.some.inj (ha ▸ rfl : some _ = some args)
  subst ha'
  refine (job_ok b y 7 w1 J' (by omega) hS.res).mono fun e w' ⟨he, hc⟩ => ⟨_, he, Goes.same (r := .agg (J' 7).sv) hN hS hc rfl rfl ?_⟩
  clear hc he hS hN ha
  refine X.goC .nil true T3_ok 400 _ rfl Try.results3 ?_
  conv => arg 2; cbv
  refine X.cond rfl (fun hbad => absurd hbad (only_good (hrel 7 (by omega)))) (fun _ => ?_)
  refine X.goC .nil true T3_ok 400 _ rfl Try.results3 ?_
  conv => arg 2; cbv
  refine X.cond rfl (fun hbad => absurd hbad (only_good2 (hrel 7 (by omega)))) (fun _ => ?_)
  refine X.goC .nil true T3_ok 400 _ rfl Try.results3 ?_
  conv => arg 2; cbv
  refine X.back (fun N a1 w hN hf hS => hq a1 w ?_)
  exact At.same hN hf hS (Nat.zero_le _) ⟨⟨_, rfl, .inl ⟨rfl, rfl⟩⟩, ⟨_, rfl, .inl ⟨rfl, rfl⟩⟩, ⟨_, rfl, .inl ⟨rfl, rfl⟩⟩, ⟨_, rfl, .inl ⟨rfl, rfl⟩⟩, ⟨_, rfl, .inl ⟨rfl, rfl⟩⟩, ⟨_, rfl, .inl ⟨rfl, rfl⟩⟩, trivial⟩ ⟨fun _ => rfl, SubC.refl rfl, rfl, fun _ => rfl, SubC.refl rfl, rfl, trivial⟩
set_option maxHeartbeats 400000000 in
set_option maxRecDepth 100000 in
set_option cbv.maxSteps 100000000 in
theorem chk_8 (po : Option Addr) (n cp b y i : Nat) (k : Int) (s : Nat) (c : Int) (a : Ans) (J J' : Nat → Job) (W : World) (hrel : ∀ i, i < 16 → RelP k a (J i) (J' i)) (K : List It) (q : Go.Act → World → Prop)
    (hq : ∀ a' w, At (chkE b y W J') (chkS po n cp b y i k s c a J 9) a' w → q a' w) : X (chkE b y W J') (.code chkC :: .lp q :: K) (chkS po n cp b y i k s c a J 8) := by
  unfold chkE chkS
  refine X.goC .nil true T3_ok 400 _ rfl Try.results3 ?_
  conv => arg 2; cbv
  refine X.call rfl rfl rfl rfl Try.call17 (fun N w1 args hN hS ha => ?_)
  have ha' : [Value.pointer (some ⟨b, y, none⟩), .int .u8 (8 : Nat)] = args := Option.some.inj (ha ▸ rfl : some _ = some args)
  subst ha'
  refine (job_ok b y 8 w1 J' (by omega) hS.res).mono fun e w' ⟨he, hc⟩ => ⟨_, he, Goes.same (r := .agg (J' 8).sv) hN hS hc rfl rfl ?_⟩
  clear hc he hS hN ha
  refine X.goC .nil true T3_ok 400 _ rfl Try.results3 ?_
  conv => arg 2; cbv
  refine X.cond rfl (fun hbad => absurd hbad (only_good (hrel 8 (by omega)))) (fun _ => ?_)
  refine X.goC .nil true T3_ok 400 _ rfl Try.results3 ?_
  conv => arg 2; cbv
  refine X.cond rfl (fun hbad => absurd hbad (only_good2 (hrel 8 (by omega)))) (fun _ => ?_)
  refine X.goC .nil true T3_ok 400 _ rfl Try.results3 ?_
  conv => arg 2; cbv
  refine X.back (fun N a1 w hN hf hS => hq a1 w ?_)
  exact At.same hN hf hS (Nat.zero_le _) ⟨⟨_, rfl, .inl ⟨rfl, rfl⟩⟩, ⟨_, rfl, .inl ⟨rfl, rfl⟩⟩, ⟨_, rfl, .inl ⟨rfl, rfl⟩⟩, ⟨_, rfl, .inl ⟨rfl, rfl⟩⟩, ⟨_, rfl, .inl ⟨rfl, rfl⟩⟩, ⟨_, rfl, .inl ⟨rfl, rfl⟩⟩, trivial⟩ ⟨fun _ => rfl, SubC.refl rfl, rfl, fun _ => rfl, SubC.refl rfl, rfl, trivial⟩
set_option maxHeartbeats 400000000 in
set_option maxRecDepth 100000 in
set_option cbv.maxSteps 100000000 in
theorem chk_9 (po : Option Addr) (n cp b y i : Nat) (k : Int) (s : Nat) (c : Int) (a : Ans) (J J' : Nat → Job) (W : World) (hrel : ∀ i, i < 16 → RelP k a (J i) (J' i)) (K : List It) (q : Go.Act → World → Prop)
    (hq : ∀ a' w, At (chkE b y W J') (chkS po n cp b y i k s c a J 10) a' w → q a' w) : X (chkE b y W J') (.code chkC :: .lp q :: K) (chkS po n cp b y i k s c a J 9) := by
  unfold chkE chkS
  refine X.goC .nil true T3_ok 400 _ rfl Try.results3 ?_
  conv => arg 2; cbv
  refine X.call rfl rfl rfl rfl Try.call17 (fun N w1 args hN hS ha => ?_)
  have ha' : [Value.pointer (some ⟨b, y, none⟩), .int .u8 (9 : Nat)] = args := Option.some.inj (ha ▸ rfl : some _ = some args)
  subst ha'
  refine (job_ok b y 9 w1 J' (by omega) hS.res).mono fun e w' ⟨he, hc⟩ => ⟨_, he, Goes.same (r := .agg (J' 9).sv) hN hS hc rfl rfl ?_⟩
  clear hc he hS hN ha
  refine X.goC .nil true T3_ok 400 _ rfl Try.results3 ?_
  conv => arg 2; cbv
  refine X.cond rfl (fun hbad => absurd hbad (only_good (hrel 9 (by omega)))) (fun _ => ?_)
  refine X.goC .nil true T3_ok 400 _ rfl Try.results3 ?_
  conv => arg 2; cbv
  refine X.cond rfl (fun hbad => absurd hbad (only_good2 (hrel 9 (by omega)))) (fun _ => ?_)
  refine X.goC .nil true T3_ok 400 _ rfl Try.results3 ?_
  conv => arg 2; cbv
  refine X.back (fun N a1 w hN hf hS => hq a1 w ?_)
  exact At.same hN hf hS (Nat.zero_le _) ⟨⟨_, rfl, .inl ⟨rfl, rfl⟩⟩, ⟨_, rfl, .inl ⟨rfl, rfl⟩⟩, ⟨_, rfl, .inl ⟨rfl, rfl⟩⟩, ⟨_, rfl, .inl ⟨rfl, rfl⟩⟩, ⟨_, rfl, .inl ⟨rfl, rfl⟩⟩, ⟨_, rfl, .inl ⟨rfl, rfl⟩⟩, trivial⟩ ⟨fun _ => rfl, SubC.refl rfl, rfl, fun _ => rfl, SubC.refl rfl, rfl, trivial⟩
set_option maxHeartbeats 400000000 in
set_option maxRecDepth 100000 in
set_option cbv.maxSteps 100000000 in
theorem chk_10 (po : Option Addr) (n cp b y i : Nat) (k : Int) (s : Nat) (c : Int) (a : Ans) (J J' : Nat → Job) (W : World) (hrel : ∀ i, i < 16 → RelP k a (J i) (J' i)) (K : List It) (q : Go.Act → World → Prop)
    (hq : ∀ a' w, At (chkE b y W J') (chkS po n cp b y i k s c a J 11) a' w → q a' w) : X (chkE b y W J') (.code chkC :: .lp q :: K) (chkS po n cp b y i k s c a J 10) := by
  unfold chkE chkS
  refine X.goC .nil true T3_ok 400 _ rfl Try.results3 ?_
  conv => arg 2; cbv
  refine X.call rfl rfl rfl rfl Try.call17 (fun N w1 args hN hS ha => ?_)
  have ha' : [Value.pointer (some ⟨b, y, none⟩), .int .u8 (10 : Nat)] = args := Option.some.inj (ha ▸ rfl : some _ = some args)
  subst ha'
  refine (job_ok b y 10 w1 J' (by omega) hS.res).mono fun e w' ⟨he, hc⟩ => ⟨_, he, Goes.same (r := .agg (J' 10).sv) hN hS hc rfl rfl ?_⟩
  clear hc he hS hN ha
  refine X.goC .nil true T3_ok 400 _ rfl Try.results3 ?_
  conv => arg 2; cbv
  refine X.cond rfl (fun hbad => absurd hbad (only_good (hrel 10 (by omega)))) (fun _ => ?_)
  refine X.goC .nil true T3_ok 400 _ rfl Try.results3 ?_
  conv => arg 2; cbv
  refine X.cond rfl (fun hbad => absurd hbad (only_good2 (hrel 10 (by omega)))) (fun _ => ?_)
  refine X.goC .nil true T3_ok 400 _ rfl Try.results3 ?_
  conv => arg 2; cbv
  refine X.back (fun N a1 w hN hf hS => hq a1 w ?_)
  exact At.same hN hf hS (Nat.zero_le _) ⟨⟨_, rfl, .inl ⟨rfl, rfl⟩⟩, ⟨_, rfl, .inl ⟨rfl, rfl⟩⟩, ⟨_, rfl, .inl ⟨rfl, rfl⟩⟩, ⟨_, rfl, .inl ⟨rfl, rfl⟩⟩, ⟨_, rfl, .inl ⟨rfl, rfl⟩⟩, ⟨_, rfl, .inl ⟨rfl, rfl⟩⟩, trivial⟩ ⟨fun _ => rfl, SubC.refl rfl, rfl, fun _ => rfl, SubC.refl rfl, rfl, trivial⟩
set_option maxHeartbeats 400000000 in
set_option maxRecDepth 100000 in
set_option cbv.maxSteps 100000000 in
theorem chk_11 (po : Option Addr) (n cp b y i : Nat) (k : Int) (s : Nat) (c : Int) (a : Ans) (J J' : Nat → Job) (W : World) (hrel : ∀ i, i < 16 → RelP k a (J i) (J' i)) (K : List It) (q : Go.Act → World → Prop)
    (hq : ∀ a' w, At (chkE b y W J') (chkS po n cp b y i k s c a J 12) a' w → q a' w) : X (chkE b y W J') (.code chkC :: .lp q :: K) (chkS po n cp b y i k s c a J 11) := by
  unfold chkE chkS
  refine X.goC .nil true T3_ok 400 _ rfl Try.results3 ?_
  conv => arg 2; cbv
  refine X.call rfl rfl rfl rfl Try.call17 (fun N w1 args hN hS ha => ?_)
  have ha' : [Value.pointer (some ⟨b, y, none⟩), .int .u8 (11 : Nat)] = args := Option.some.inj (ha ▸ rfl : some _ = some args)
  subst ha'
  refine (job_ok b y 11 w1 J' (by omega) hS.res).mono fun e w' ⟨he, hc⟩ => ⟨_, he, Goes.same (r := .agg (J' 11).sv) hN hS hc rfl rfl ?_⟩
  clear hc he hS hN ha
  refine X.goC .nil true T3_ok 400 _ rfl Try.results3 ?_
  conv => arg 2; cbv
  refine X.cond rfl (fun hbad => absurd hbad (only_good (hrel 11 (by omega)))) (fun _ => ?_)
  refine X.goC .nil true T3_ok 400 _ rfl Try.results3 ?_
  conv => arg 2; cbv
  refine X.cond rfl (fun hbad => absurd hbad (only_good2 (hrel 11 (by omega)))) (fun _ => ?_)
  refine X.goC .nil true T3_ok 400 _ rfl Try.results3 ?_
  conv => arg 2; cbv
  refine X.back (fun N a1 w hN hf hS => hq a1 w ?_)
  exact At.same hN hf hS (Nat.zero_le _) ⟨⟨_, rfl, .inl ⟨rfl, rfl⟩⟩, ⟨_, rfl, .inl ⟨rfl, rfl⟩⟩, ⟨_, rfl, .inl ⟨rfl, rfl⟩⟩, ⟨_, rfl, .inl ⟨rfl, rfl⟩⟩, ⟨_, rfl, .inl ⟨rfl, rfl⟩⟩, ⟨_, rfl, .inl ⟨rfl, rfl⟩⟩, trivial⟩ ⟨fun _ => rfl, SubC.refl rfl, rfl, fun _ => rfl, SubC.refl rfl, rfl, trivial⟩
set_option maxHeartbeats 400000000 in
set_option maxRecDepth 100000 in
set_option cbv.maxSteps 100000000 in
theorem chk_12 (po : Option Addr) (n cp b y i : Nat) (k : Int) (s : Nat) (c : Int) (a : Ans) (J J' : Nat → Job) (W : World) (hrel : ∀ i, i < 16 → RelP k a (J i) (J' i)) (K : List It) (q : Go.Act → World → Prop)
    (hq : ∀ a' w, At (chkE b y W J') (chkS po n cp b y i k s c a J 13) a' w → q a' w) : X (chkE b y W J') (.code chkC :: .lp q :: K) (chkS po n cp b y i k s c a J 12) := by
  unfold chkE chkS
  refine X.goC .nil true T3_ok 400 _ rfl Try.results3 ?_
  conv => arg 2; cbv
  refine X.call rfl rfl rfl rfl Try.call17 (fun N w1 args hN hS ha => ?_)
  have ha' : [Value.pointer (some ⟨b, y, none⟩), .int .u8 (12 : Nat)] = args := Option.some.inj (ha ▸ rfl : some _ = some args)
  subst ha'
  refine (job_ok b y 12 w1 J' (by omega) hS.res).mono fun e w' ⟨he, hc⟩ => ⟨_, he, Goes.same (r := .agg (J' 12).sv) hN hS hc rfl rfl ?_⟩
  clear hc he hS hN ha
  refine X.goC .nil true T3_ok 400 _ rfl Try.results3 ?_
  conv => arg 2; cbv
  refine X.cond rfl (fun hbad => absurd hbad (only_good (hrel 12 (by omega)))) (fun _ => ?_)
  refine X.goC .nil true T3_ok 400 _ rfl Try.results3 ?_
  conv => arg 2; cbv
  refine X.cond rfl (fun hbad => absurd hbad (only_good2 (hrel 12 (by omega)))) (fun _ => ?_)
  refine X.goC .nil true T3_ok 400 _ rfl Try.results3 ?_
  conv => arg 2; cbv
  refine X.back (fun N a1 w hN hf hS => hq a1 w ?_)
  exact At.same hN hf hS (Nat.zero_le _) ⟨⟨_, rfl, .inl ⟨rfl, rfl⟩⟩, ⟨_, rfl, .inl ⟨rfl, rfl⟩⟩, ⟨_, rfl, .inl ⟨rfl, rfl⟩⟩, ⟨_, rfl, .inl ⟨rfl, rfl⟩⟩, ⟨_, rfl, .inl ⟨rfl, rfl⟩⟩, ⟨_, rfl, .inl ⟨rfl, rfl⟩⟩, trivial⟩ ⟨fun _ => rfl, SubC.refl rfl, rfl, fun _ => rfl, SubC.refl rfl, rfl, trivial⟩
set_option maxHeartbeats 400000000 in
set_option maxRecDepth 100000 in
set_option cbv.maxSteps 100000000 in
theorem chk_13 (po : Option Addr) (n cp b y i : Nat) (k : Int) (s : Nat) (c : Int) (a : Ans) (J J' : Nat → Job) (W : World) (hrel : ∀ i, i < 16 → RelP k a (J i) (J' i)) (K : List It) (q : Go.Act → World → Prop)
    (hq : ∀ a' w, At (chkE b y W J') (chkS po n cp b y i k s c a J 14) a' w → q a' w) : X (chkE b y W J') (.code chkC :: .lp q :: K) (chkS po n cp b y i k s c a J 13) := by
  unfold chkE chkS
  refine X.goC .nil true T3_ok 400 _ rfl Try.results3 ?_
  conv => arg 2; cbv
  refine X.call rfl rfl rfl rfl Try.call17 (fun N w1 args hN hS ha => ?_)
  have ha' : [Value.pointer (some ⟨b, y, none⟩), .int .u8 (13 : Nat)] = args := Option.some.inj (ha ▸ rfl : some _ = some args)
  subst ha'
  refine (job_ok b y 13 w1 J' (by omega) hS.res).mono fun e w' ⟨he, hc⟩ => ⟨_, he, Goes.same (r := .agg (J' 13).sv) hN hS hc rfl rfl ?_⟩
  clear hc he hS hN ha
  refine X.goC .nil true T3_ok 400 _ rfl Try.results3 ?_
  conv => arg 2; cbv
  refine X.cond rfl (fun hbad => absurd hbad (only_good (hrel 13 (by omega)))) (fun _ => ?_)
  refine X.goC .nil true T3_ok 400 _ rfl Try.results3 ?_
  conv => arg 2; cbv
  refine X.cond rfl (fun hbad => absurd hbad (only_good2 (hrel 13 (by omega)))) (fun _ => ?_)
  refine X.goC .nil true T3_ok 400 _ rfl Try.results3 ?_
  conv => arg 2; cbv
  refine X.back (fun N a1 w hN hf hS => hq a1 w ?_)
  exact At.same hN hf hS (Nat.zero_le _) ⟨⟨_, rfl, .inl ⟨rfl, rfl⟩⟩, ⟨_, rfl, .inl ⟨rfl, rfl⟩⟩, ⟨_, rfl, .inl ⟨rfl, rfl⟩⟩, ⟨_, rfl, .inl ⟨rfl, rfl⟩⟩, ⟨_, rfl, .inl ⟨rfl, rfl⟩⟩, ⟨_, rfl, .inl ⟨rfl, rfl⟩⟩, trivial⟩ ⟨fun _ => rfl, SubC.refl rfl, rfl, fun _ => rfl, SubC.refl rfl, rfl, trivial⟩
set_option maxHeartbeats 400000000 in
set_option maxRecDepth 100000 in
set_option cbv.maxSteps 100000000 in
theorem chk_14 (po : Option Addr) (n cp b y i : Nat) (k : Int) (s : Nat) (c : Int) (a : Ans) (J J' : Nat → Job) (W : World) (hrel : ∀ i, i < 16 → RelP k a (J i) (J' i)) (K : List It) (q : Go.Act → World → Prop)
    (hq : ∀ a' w, At (chkE b y W J') (chkS po n cp b y i k s c a J 15) a' w → q a' w) : X (chkE b y W J') (.code chkC :: .lp q :: K) (chkS po n cp b y i k s c a J 14) := by
  unfold chkE chkS
  refine X.goC .nil true T3_ok 400 _ rfl Try.results3 ?_
  conv => arg 2; cbv
  refine X.call rfl rfl rfl rfl Try.call17 (fun N w1 args hN hS ha => ?_)
  have ha' : [Value.pointer (some ⟨b, y, none⟩), .int .u8 (14 : Nat)] = args := Option.some.inj (ha ▸ rfl : some _ = some args)
  subst ha'
  refine (job_ok b y 14 w1 J' (by omega) hS.res).mono fun e w' ⟨he, hc⟩ => ⟨_, he, Goes.same (r := .agg (J' 14).sv) hN hS hc rfl rfl ?_⟩
  clear hc he hS hN ha
  refine X.goC .nil true T3_ok 400 _ rfl Try.results3 ?_
  conv => arg 2; cbv
  refine X.cond rfl (fun hbad => absurd hbad (only_good (hrel 14 (by omega)))) (fun _ => ?_)
  refine X.goC .nil true T3_ok 400 _ rfl Try.results3 ?_
  conv => arg 2; cbv
  refine X.cond rfl (fun hbad => absurd hbad (only_good2 (hrel 14 (by omega)))) (fun _ => ?_)
  refine X.goC .nil true T3_ok 400 _ rfl Try.results3 ?_
  conv => arg 2; cbv
  refine X.back (fun N a1 w hN hf hS => hq a1 w ?_)
  exact At.same hN hf hS (Nat.zero_le _) ⟨⟨_, rfl, .inl ⟨rfl, rfl⟩⟩, ⟨_, rfl, .inl ⟨rfl, rfl⟩⟩, ⟨_, rfl, .inl ⟨rfl, rfl⟩⟩, ⟨_, rfl, .inl ⟨rfl, rfl⟩⟩, ⟨_, rfl, .inl ⟨rfl, rfl⟩⟩, ⟨_, rfl, .inl ⟨rfl, rfl⟩⟩, trivial⟩ ⟨fun _ => rfl, SubC.refl rfl, rfl, fun _ => rfl, SubC.refl rfl, rfl, trivial⟩
set_option maxHeartbeats 400000000 in
set_option maxRecDepth 100000 in
set_option cbv.maxSteps 100000000 in
theorem chk_15 (po : Option Addr) (n cp b y i : Nat) (k : Int) (s : Nat) (c : Int) (a : Ans) (J J' : Nat → Job) (W : World) (hrel : ∀ i, i < 16 → RelP k a (J i) (J' i)) (K : List It) (q : Go.Act → World → Prop)
    (hq : ∀ a' w, At (chkE b y W J') (chkS po n cp b y i k s c a J 16) a' w → q a' w) : X (chkE b y W J') (.code chkC :: .lp q :: K) (chkS po n cp b y i k s c a J 15) := by
  unfold chkE chkS
  refine X.goC .nil true T3_ok 400 _ rfl Try.results3 ?_
  conv => arg 2; cbv
  refine X.call rfl rfl rfl rfl Try.call17 (fun N w1 args hN hS ha => ?_)
  have ha' : [Value.pointer (some ⟨b, y, none⟩), .int .u8 (15 : Nat)] = args := Option.some.inj (ha ▸ rfl : some _ = some args)
  subst ha'
  refine (job_ok b y 15 w1 J' (by omega) hS.res).mono fun e w' ⟨he, hc⟩ => ⟨_, he, Goes.same (r := .agg (J' 15).sv) hN hS hc rfl rfl ?_⟩
  clear hc he hS hN ha
  refine X.goC .nil true T3_ok 400 _ rfl Try.results3 ?_
  conv => arg 2; cbv
  refine X.cond rfl (fun hbad => absurd hbad (only_good (hrel 15 (by omega)))) (fun _ => ?_)
  refine X.goC .nil true T3_ok 400 _ rfl Try.results3 ?_
  conv => arg 2; cbv
  refine X.cond rfl (fun hbad => absurd hbad (only_good2 (hrel 15 (by omega)))) (fun _ => ?_)
  refine X.goC .nil true T3_ok 400 _ rfl Try.results3 ?_
  conv => arg 2; cbv
  refine X.back (fun N a1 w hN hf hS => hq a1 w ?_)
  exact At.same hN hf hS (Nat.zero_le _) ⟨⟨_, rfl, .inl ⟨rfl, rfl⟩⟩, ⟨_, rfl, .inl ⟨rfl, rfl⟩⟩, ⟨_, rfl, .inl ⟨rfl, rfl⟩⟩, ⟨_, rfl, .inl ⟨rfl, rfl⟩⟩, ⟨_, rfl, .inl ⟨rfl, rfl⟩⟩, ⟨_, rfl, .inl ⟨rfl, rfl⟩⟩, trivial⟩ ⟨fun _ => rfl, SubC.refl rfl, rfl, fun _ => rfl, SubC.refl rfl, rfl, trivial⟩
set_option maxHeartbeats 400000000 in
set_option maxRecDepth 100000 in
set_option cbv.maxSteps 100000000 in
theorem chk_16 (po : Option Addr) (n cp b y i : Nat) (k : Int) (s : Nat) (c : Int) (a : Ans) (J J' : Nat → Job) (W : World) (hrel : ∀ i, i < 16 → RelP k a (J i) (J' i)) (K : List It) (q : Go.Act → World → Prop)
    (hq : ∀ a' w, At (chkE b y W J') (chkS po n cp b y i k s c a J 17) a' w → q a' w) : X (chkE b y W J') (.code chkC :: .lp q :: K) (chkS po n cp b y i k s c a J 16) := by
  unfold chkE chkS
  refine X.goC .nil true T3_ok 400 _ rfl Try.results3 ?_
  conv => arg 2; cbv
  refine X.call rfl rfl rfl rfl Try.call17 (fun N w1 args hN hS ha => ?_)
  have ha' : [Value.pointer (some ⟨b, y, none⟩), .int .u8 (16 : Nat)] = args := Option.some.inj (ha ▸ rfl : some _ = some args)
  subst ha'
  refine (job_no b y 16 w1 (by omega)).mono fun e w' ⟨he, hc⟩ => ⟨_, he, Goes.same (r := .agg [.int .u8 (.lit 0), .int .u64 (.lit 0), .int .u64 (.lit 0), .int .u64 (.lit 0), .int .u8 (.lit 0), .int .i64 (.lit 0), .int .i64 (.lit 0)]) hN hS hc rfl rfl ?_⟩
  clear hc he hS hN ha
  refine X.goC .nil true T3_ok 400 _ rfl Try.results3 ?_
  conv => arg 2; cbv
  refine X.back (fun N a1 w hN hf hS => hq a1 w ?_)
  exact At.same hN hf hS (Nat.zero_le _) ⟨⟨_, rfl, .inl ⟨rfl, rfl⟩⟩, ⟨_, rfl, .inl ⟨rfl, rfl⟩⟩, ⟨_, rfl, .inl ⟨rfl, rfl⟩⟩, ⟨_, rfl, .inl ⟨rfl, rfl⟩⟩, ⟨_, rfl, .inl ⟨rfl, rfl⟩⟩, ⟨_, rfl, .inl ⟨rfl, rfl⟩⟩, trivial⟩ ⟨fun _ => rfl, SubC.refl rfl, rfl, fun _ => rfl, SubC.refl rfl, rfl, trivial⟩
set_option maxHeartbeats 400000000 in
set_option maxRecDepth 100000 in
set_option cbv.maxSteps 100000000 in
theorem chk_17 (po : Option Addr) (n cp b y i : Nat) (k : Int) (s : Nat) (c : Int) (a : Ans) (J J' : Nat → Job) (W : World) (hrel : ∀ i, i < 16 → RelP k a (J i) (J' i)) (K : List It) (q : Go.Act → World → Prop)
    (hq : ∀ a' w, At (chkE b y W J') (chkS po n cp b y i k s c a J 18) a' w → q a' w) : X (chkE b y W J') (.code chkC :: .lp q :: K) (chkS po n cp b y i k s c a J 17) := by
  unfold chkE chkS
  refine X.goC .nil true T3_ok 400 _ rfl Try.results3 ?_
  conv => arg 2; cbv
  refine X.call rfl rfl rfl rfl Try.call17 (fun N w1 args hN hS ha => ?_)
  have ha' : [Value.pointer (some ⟨b, y, none⟩), .int .u8 (17 : Nat)] = args := Option.some.inj (ha ▸ rfl : some _ = some args)
  subst ha'
  refine (job_no b y 17 w1 (by omega)).mono fun e w' ⟨he, hc⟩ => ⟨_, he, Goes.same (r := .agg [.int .u8 (.lit 0), .int .u64 (.lit 0), .int .u64 (.lit 0), .int .u64 (.lit 0), .int .u8 (.lit 0), .int .i64 (.lit 0), .int .i64 (.lit 0)]) hN hS hc rfl rfl ?_⟩
  clear hc he hS hN ha
  refine X.goC .nil true T3_ok 400 _ rfl Try.results3 ?_
  conv => arg 2; cbv
  refine X.back (fun N a1 w hN hf hS => hq a1 w ?_)
  exact At.same hN hf hS (Nat.zero_le _) ⟨⟨_, rfl, .inl ⟨rfl, rfl⟩⟩, ⟨_, rfl, .inl ⟨rfl, rfl⟩⟩, ⟨_, rfl, .inl ⟨rfl, rfl⟩⟩, ⟨_, rfl, .inl ⟨rfl, rfl⟩⟩, ⟨_, rfl, .inl ⟨rfl, rfl⟩⟩, ⟨_, rfl, .inl ⟨rfl, rfl⟩⟩, trivial⟩ ⟨fun _ => rfl, SubC.refl rfl, rfl, fun _ => rfl, SubC.refl rfl, rfl, trivial⟩
set_option maxHeartbeats 400000000 in
set_option maxRecDepth 100000 in
set_option cbv.maxSteps 100000000 in
theorem chk_18 (po : Option Addr) (n cp b y i : Nat) (k : Int) (s : Nat) (c : Int) (a : Ans) (J J' : Nat → Job) (W : World) (hrel : ∀ i, i < 16 → RelP k a (J i) (J' i)) (K : List It) (q : Go.Act → World → Prop)
    (hq : ∀ a' w, At (chkE b y W J') (chkS po n cp b y i k s c a J 19) a' w → q a' w) : X (chkE b y W J') (.code chkC :: .lp q :: K) (chkS po n cp b y i k s c a J 18) := by
  unfold chkE chkS
  refine X.goC .nil true T3_ok 400 _ rfl Try.results3 ?_
  conv => arg 2; cbv
  refine X.call rfl rfl rfl rfl Try.call17 (fun N w1 args hN hS ha => ?_)
  have ha' : [Value.pointer (some ⟨b, y, none⟩), .int .u8 (18 : Nat)] = args := Option.some.inj (ha ▸ rfl : some _ = some args)
  subst ha'
  refine (job_no b y 18 w1 (by omega)).mono fun e w' ⟨he, hc⟩ => ⟨_, he, Goes.same (r := .agg [.int .u8 (.lit 0), .int .u64 (.lit 0), .int .u64 (.lit 0), .int .u64 (.lit 0), .int .u8 (.lit 0), .int .i64 (.lit 0), .int .i64 (.lit 0)]) hN hS hc rfl rfl ?_⟩
  clear hc he hS hN ha
  refine X.goC .nil true T3_ok 400 _ rfl Try.results3 ?_
  conv => arg 2; cbv
  refine X.back (fun N a1 w hN hf hS => hq a1 w ?_)
  exact At.same hN hf hS (Nat.zero_le _) ⟨⟨_, rfl, .inl ⟨rfl, rfl⟩⟩, ⟨_, rfl, .inl ⟨rfl, rfl⟩⟩, ⟨_, rfl, .inl ⟨rfl, rfl⟩⟩, ⟨_, rfl, .inl ⟨rfl, rfl⟩⟩, ⟨_, rfl, .inl ⟨rfl, rfl⟩⟩, ⟨_, rfl, .inl ⟨rfl, rfl⟩⟩, trivial⟩ ⟨fun _ => rfl, SubC.refl rfl, rfl, fun _ => rfl, SubC.refl rfl, rfl, trivial⟩
set_option maxHeartbeats 400000000 in
set_option maxRecDepth 100000 in
set_option cbv.maxSteps 100000000 in
theorem chk_19 (po : Option Addr) (n cp b y i : Nat) (k : Int) (s : Nat) (c : Int) (a : Ans) (J J' : Nat → Job) (W : World) (hrel : ∀ i, i < 16 → RelP k a (J i) (J' i)) (K : List It) (q : Go.Act → World → Prop)
    (hq : ∀ a' w, At (chkE b y W J') (chkS po n cp b y i k s c a J 20) a' w → q a' w) : X (chkE b y W J') (.code chkC :: .lp q :: K) (chkS po n cp b y i k s c a J 19) := by
  unfold chkE chkS
  refine X.goC .nil true T3_ok 400 _ rfl Try.results3 ?_
  conv => arg 2; cbv
  refine X.call rfl rfl rfl rfl Try.call17 (fun N w1 args hN hS ha => ?_)
  have ha' : [Value.pointer (some ⟨b, y, none⟩), .int .u8 (19 : Nat)] = args := Option.some.inj (ha ▸ rfl : some _ = some args)
  subst ha'
  refine (job_no b y 19 w1 (by omega)).mono fun e w' ⟨he, hc⟩ => ⟨_, he, Goes.same (r := .agg [.int .u8 (.lit 0), .int .u64 (.lit 0), .int .u64 (.lit 0), .int .u64 (.lit 0), .int .u8 (.lit 0), .int .i64 (.lit 0), .int .i64 (.lit 0)]) hN hS hc rfl rfl ?_⟩
  clear hc he hS hN ha
  refine X.goC .nil true T3_ok 400 _ rfl Try.results3 ?_
  conv => arg 2; cbv
  refine X.back (fun N a1 w hN hf hS => hq a1 w ?_)
  exact At.same hN hf hS (Nat.zero_le _) ⟨⟨_, rfl, .inl ⟨rfl, rfl⟩⟩, ⟨_, rfl, .inl ⟨rfl, rfl⟩⟩, ⟨_, rfl, .inl ⟨rfl, rfl⟩⟩, ⟨_, rfl, .inl ⟨rfl, rfl⟩⟩, ⟨_, rfl, .inl ⟨rfl, rfl⟩⟩, ⟨_, rfl, .inl ⟨rfl, rfl⟩⟩, trivial⟩ ⟨fun _ => rfl, SubC.refl rfl, rfl, fun _ => rfl, SubC.refl rfl, rfl, trivial⟩

theorem chk_all (po : Option Addr) (n cp b y i : Nat) (k : Int) (s : Nat) (c : Int) (a : Ans) (J J' : Nat → Job) (W : World) (hrel : ∀ i, i < 16 → RelP k a (J i) (J' i)) (K : List It) (q : Go.Act → World → Prop) (m : Nat) (hm : m < 20)
    (hq : ∀ a' w, At (chkE b y W J') (chkS po n cp b y i k s c a J (m + 1 : Nat)) a' w → q a' w) : X (chkE b y W J') (.code chkC :: .lp q :: K) (chkS po n cp b y i k s c a J (m : Nat)) := by
  match m, hm with
  | 0, _ => exact chk_0 po n cp b y i k s c a J J' W hrel K q hq
  | 1, _ => exact chk_1 po n cp b y i k s c a J J' W hrel K q hq
  | 2, _ => exact chk_2 po n cp b y i k s c a J J' W hrel K q hq
  | 3, _ => exact chk_3 po n cp b y i k s c a J J' W hrel K q hq
  | 4, _ => exact chk_4 po n cp b y i k s c a J J' W hrel K q hq
  | 5, _ => exact chk_5 po n cp b y i k s c a J J' W hrel K q hq
  | 6, _ => exact chk_6 po n cp b y i k s c a J J' W hrel K q hq
  | 7, _ => exact chk_7 po n cp b y i k s c a J J' W hrel K q hq
  | 8, _ => exact chk_8 po n cp b y i k s c a J J' W hrel K q hq
  | 9, _ => exact chk_9 po n cp b y i k s c a J J' W hrel K q hq
  | 10, _ => exact chk_10 po n cp b y i k s c a J J' W hrel K q hq
  | 11, _ => exact chk_11 po n cp b y i k s c a J J' W hrel K q hq
  | 12, _ => exact chk_12 po n cp b y i k s c a J J' W hrel K q hq
  | 13, _ => exact chk_13 po n cp b y i k s c a J J' W hrel K q hq
  | 14, _ => exact chk_14 po n cp b y i k s c a J J' W hrel K q hq
  | 15, _ => exact chk_15 po n cp b y i k s c a J J' W hrel K q hq
  | 16, _ => exact chk_16 po n cp b y i k s c a J J' W hrel K q hq
  | 17, _ => exact chk_17 po n cp b y i k s c a J J' W hrel K q hq
  | 18, _ => exact chk_18 po n cp b y i k s c a J J' W hrel K q hq
  | 19, _ => exact chk_19 po n cp b y i k s c a J J' W hrel K q hq
  | m + 20, h => omega

end Go.Proofs.Ytcfghkiokdbhjaa
