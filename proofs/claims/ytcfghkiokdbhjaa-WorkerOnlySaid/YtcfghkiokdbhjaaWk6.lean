/- The document's worker, at its zero value: what it hands back has the form that it should have. -/
import Derived.Test.YtcfghkiokdbhjaaWk5

namespace Go.Proofs.Ytcfghkiokdbhjaa
open Go.Eng

def isInt (k : IntKind) : SV → Bool
  | .int k' _ => kq k k'
  | _ => false
def denI : SV → Int
  | .int _ e => e.den
  | _ => 0
theorem isInt_den {k : IntKind} {v : SV} (h : isInt k v = true) (N : Nums) : v.den N = some (.int k (denI v)) := by
  cases v <;> simp only [isInt, Bool.false_eq_true] at h
  have := kq_eq h
  subst this
  rfl

def jobOk : List SV → Bool
  | [a, b, c, d, e, f, g] => isInt .u8 a && isInt .u64 b && isInt .u64 c && isInt .u64 d && isInt .u8 e && isInt .i64 f && isInt .i64 g
  | _ => false
theorem jobOk_den {l : List SV} (h : jobOk l = true) (N : Nums) : ∃ j : Job, SV.denL N l = some j.vals ∧ ∀ N', SV.denL N' l = some j.vals := by
  unfold jobOk at h
  split at h
  · rename_i a b c d e f g
    simp only [Bool.and_eq_true] at h
    obtain ⟨⟨⟨⟨⟨⟨h1, h2⟩, h3⟩, h4⟩, h5⟩, h6⟩, h7⟩ := h
    have : ∀ N, SV.denL N [a, b, c, d, e, f, g] = some (Job.vals ⟨denI a, denI b, denI c, denI d, denI e, denI f, denI g⟩) := fun N => by
      simp only [SV.denL, isInt_den h1, isInt_den h2, isInt_den h3, isInt_den h4, isInt_den h5, isInt_den h6, isInt_den h7]; rfl
    exact ⟨_, this N, this⟩
  · cases h

def jobsOk : Nat → List SV → Bool
  | 0, l => l.isEmpty
  | n + 1, l => jobOk (l.drop (n * 7)) && jobsOk n (l.take (n * 7))
theorem jobsOk_den : ∀ (n : Nat) {l : List SV}, jobsOk n l = true → ∃ M : Nat → Job, ∀ N, SV.denL N l = some (flatL (fun k => (M k).vals) n)
  | 0, l, h => by
    cases l with
    | nil => exact ⟨fun _ => Job.z, fun _ => rfl⟩
    | cons a l => simp [jobsOk] at h
  | n + 1, l, h => by
    simp only [jobsOk, Bool.and_eq_true] at h
    obtain ⟨j, _, hj⟩ := jobOk_den h.1 []
    obtain ⟨M, hM⟩ := jobsOk_den n h.2
    refine ⟨updA M n j, fun N => ?_⟩
    have e : flatL (fun k => (updA M n j k).vals) n = flatL (fun k => (M k).vals) n := by
      have : ∀ m, m ≤ n → flatL (fun k => (updA M n j k).vals) m = flatL (fun k => (M k).vals) m := by
        intro m
        induction m with
        | zero => intro _; rfl
        | succ m ih => intro hm; simp only [flatL]; rw [ih (by omega)]; simp [updA, show m ≠ n by omega]
      exact this n (Nat.le_refl _)
    have := SV.denL_append (l.take (n * 7)) (l.drop (n * 7)) (hM N) (hj N)
    rw [List.take_append_drop] at this
    rw [this, flatL, e]
    simp [updA]

def outOk : List SV → Bool
  | [x, a, b, c, d, e, f, g, h, i, j, .bool _] => isInt .u8 x && isInt .u8 a && isInt .u8 b && isInt .u8 c && isInt .u64 d && isInt .i64 e && isInt .i64 f && isInt .i64 g && isInt .u8 h && isInt .u64 i && isInt .u64 j
  | _ => false
/-- what is to be called -/
structure Oout where
  (x : Int) (o : Opn) (m : Bool)
def Oout.vals (o : Oout) : List Value := .int .u8 o.x :: (o.o.vals ++ [.bool o.m])
def Oout.sv (o : Oout) : List SV := .int .u8 (.v o.x) :: (o.o.sv ++ [.bool (.v o.m)])
theorem outOk_den {l : List SV} (h : outOk l = true) : ∃ o : Oout, ∀ N, SV.denL N l = some o.vals := by
  unfold outOk at h
  split at h
  · rename_i x a b c d e f g hh i j m
    simp only [Bool.and_eq_true] at h
    obtain ⟨⟨⟨⟨⟨⟨⟨⟨⟨⟨h0, h1⟩, h2⟩, h3⟩, h4⟩, h5⟩, h6⟩, h7⟩, h8⟩, h9⟩, h10⟩ := h
    refine ⟨⟨denI x, ⟨denI a, denI b, denI c, denI d, denI e, denI f, denI g, denI hh, denI i, denI j⟩, m.den⟩, fun N => ?_⟩
    simp only [SV.denL, SV.den, isInt_den h0, isInt_den h1, isInt_den h2, isInt_den h3, isInt_den h4, isInt_den h5, isInt_den h6, isInt_den h7, isInt_den h8, isInt_den h9, isInt_den h10]; rfl
  · cases h

def twoOk : Option (List SV) → Bool
  | some [.agg o, .agg l] => outOk o && jobsOk 16 l
  | _ => false
def oneOk : Option (List SV) → Bool
  | some [.agg l] => jobsOk 16 l
  | _ => false

theorem twoOk_den {x : Option (List SV)} (h : twoOk x = true) : ∃ (l : List SV) (o : Oout) (M : Nat → Job), x = some l ∧ ∀ N, (resV l).den N = some (.tuple #[.agg o.vals.toArray, .agg (flatL (fun k => (M k).vals) 16).toArray]) := by
  unfold twoOk at h
  split at h
  · rename_i o l
    simp only [Bool.and_eq_true] at h
    obtain ⟨oo, ho⟩ := outOk_den h.1
    obtain ⟨M, hM⟩ := jobsOk_den 16 h.2
    exact ⟨_, oo, M, rfl, fun N => by simp only [resV, SV.den, SV.denL, ho, hM]⟩
  · cases h
theorem oneOk_den {x : Option (List SV)} (h : oneOk x = true) : ∃ (l : List SV) (M : Nat → Job), x = some l ∧ ∀ N, (resV l).den N = some (.agg (flatL (fun k => (M k).vals) 16).toArray) := by
  unfold oneOk at h
  split at h
  · rename_i l
    obtain ⟨M, hM⟩ := jobsOk_den 16 h
    exact ⟨_, M, rfl, fun N => by simp only [resV, SV.den, hM]⟩
  · cases h

def zW : List SV := Eng.rep 16 [.int .u8 (.lit 0), .int .u64 (.lit 0), .int .u64 (.lit 0), .int .u64 (.lit 0), .int .u8 (.lit 0), .int .i64 (.lit 0), .int .i64 (.lit 0)]
def zWv : List Value := repV 16 [.int .u8 0, .int .u64 0, .int .u64 0, .int .u64 0, .int .u8 0, .int .i64 0, .int .i64 0]
theorem zW_den (N : Nums) : SV.denL N zW = some zWv := denL_rep rfl 16

theorem forall_of_all {p : Nat → Bool} {n : Nat} (h : (List.range n).all p = true) : ∀ s, s < n → p s = true := fun s hs => List.all_eq_true.1 h s (List.mem_range.2 hs)


theorem rstart_all : ((List.range 256).all fun s => twoOk (runEnds (FI.of Try.f59 T59 B59).T (FI.of Try.f59 T59 B59).rs (runC FALL true 1000 (FI.of Try.f59 T59 B59).T (FI.of Try.f59 T59 B59).B (FI.of Try.f59 T59 B59).n (FI.of Try.f59 T59 B59).rs [] [.code (FI.of Try.f59 T59 B59).body] ⟨argFr [.agg zW, .int .u8 (.lit s)] 0, []⟩))) = true := by kernel_rfl
theorem rstart_ok (s : Nat) (hs : s < 256) (w : World) :
    Calls Try.prog 59 #[.agg zWv.toArray, .int .u8 s] w fun e w' => ∃ (o : Oout) (M : Nat → Job), e = .returned (.tuple #[.agg o.vals.toArray, .agg (flatL (fun k => (M k).vals) 16).toArray]) ∧ Chg (fun _ _ => False) w w' := by
  obtain ⟨l, o, M, hl, hd⟩ := twoOk_den (forall_of_all (rstart_all) s hs)
  refine (runR FALL_ok F59_ok 1000 true [.agg zW, .int .u8 (.lit s)] (by simp only [SV.denL, SV.den, zW_den, SI.den]) rfl hl w).mono fun e w' ⟨N, v, he, hv, hc⟩ => ?_
  rw [hd] at hv
  cases hv
  exact ⟨o, M, he, hc⟩

theorem rbegan_all (c : Int) : ((List.range 256).all fun s => oneOk (runEnds (FI.of Try.f60 T60 B60).T (FI.of Try.f60 T60 B60).rs (runC FALL true 1000 (FI.of Try.f60 T60 B60).T (FI.of Try.f60 T60 B60).B (FI.of Try.f60 T60 B60).n (FI.of Try.f60 T60 B60).rs [] [.code (FI.of Try.f60 T60 B60).body] ⟨argFr [.agg zW, .int .u8 (.lit s), .int .u64 (.v c)] 0, []⟩))) = true := by kernel_rfl
theorem rbegan_ok (c : Int) (s : Nat) (hs : s < 256) (w : World) :
    Calls Try.prog 60 #[.agg zWv.toArray, .int .u8 s, .int .u64 c] w fun e w' => ∃ (M : Nat → Job), e = .returned (.agg (flatL (fun k => (M k).vals) 16).toArray) ∧ Chg (fun _ _ => False) w w' := by
  obtain ⟨l, M, hl, hd⟩ := oneOk_den (forall_of_all (rbegan_all c) s hs)
  refine (runR FALL_ok F60_ok 1000 true [.agg zW, .int .u8 (.lit s), .int .u64 (.v c)] (by simp only [SV.denL, SV.den, zW_den, SI.den]) rfl hl w).mono fun e w' ⟨N, v, he, hv, hc⟩ => ?_
  rw [hd] at hv
  cases hv
  exact ⟨M, he, hc⟩

theorem rfailed_all : ((List.range 256).all fun s => oneOk (runEnds (FI.of Try.f61 T61 B61).T (FI.of Try.f61 T61 B61).rs (runC FALL true 1000 (FI.of Try.f61 T61 B61).T (FI.of Try.f61 T61 B61).B (FI.of Try.f61 T61 B61).n (FI.of Try.f61 T61 B61).rs [] [.code (FI.of Try.f61 T61 B61).body] ⟨argFr [.agg zW, .int .u8 (.lit s)] 0, []⟩))) = true := by kernel_rfl
theorem rfailed_ok (s : Nat) (hs : s < 256) (w : World) :
    Calls Try.prog 61 #[.agg zWv.toArray, .int .u8 s] w fun e w' => ∃ (M : Nat → Job), e = .returned (.agg (flatL (fun k => (M k).vals) 16).toArray) ∧ Chg (fun _ _ => False) w w' := by
  obtain ⟨l, M, hl, hd⟩ := oneOk_den (forall_of_all (rfailed_all) s hs)
  refine (runR FALL_ok F61_ok 1000 true [.agg zW, .int .u8 (.lit s)] (by simp only [SV.denL, SV.den, zW_den, SI.den]) rfl hl w).mono fun e w' ⟨N, v, he, hv, hc⟩ => ?_
  rw [hd] at hv
  cases hv
  exact ⟨M, he, hc⟩

theorem rreset_all : oneOk (runEnds (FI.of Try.f62 T62 B62).T (FI.of Try.f62 T62 B62).rs (runC FALL true 1000 (FI.of Try.f62 T62 B62).T (FI.of Try.f62 T62 B62).B (FI.of Try.f62 T62 B62).n (FI.of Try.f62 T62 B62).rs [] [.code (FI.of Try.f62 T62 B62).body] ⟨argFr [.agg zW] 0, []⟩)) = true := by kernel_rfl
theorem rreset_ok (w : World) :
    Calls Try.prog 62 #[.agg zWv.toArray] w fun e w' => ∃ (M : Nat → Job), e = .returned (.agg (flatL (fun k => (M k).vals) 16).toArray) ∧ Chg (fun _ _ => False) w w' := by
  obtain ⟨l, M, hl, hd⟩ := oneOk_den (rreset_all)
  refine (runR FALL_ok F62_ok 1000 true [.agg zW] (by simp only [SV.denL, SV.den, zW_den, SI.den]) rfl hl w).mono fun e w' ⟨N, v, he, hv, hc⟩ => ?_
  rw [hd] at hv
  cases hv
  exact ⟨M, he, hc⟩

theorem rtold_all (a : Ans) : twoOk (runEnds (FI.of Try.f63 T63 B63).T (FI.of Try.f63 T63 B63).rs (runC FALL true 1000 (FI.of Try.f63 T63 B63).T (FI.of Try.f63 T63 B63).B (FI.of Try.f63 T63 B63).n (FI.of Try.f63 T63 B63).rs [] [.code (FI.of Try.f63 T63 B63).body] ⟨argFr [.agg zW, .agg a.sv] 0, []⟩)) = true := by kernel_rfl
theorem rtold_ok (a : Ans) (w : World) :
    Calls Try.prog 63 #[.agg zWv.toArray, .agg a.vals.toArray] w fun e w' => ∃ (o : Oout) (M : Nat → Job), e = .returned (.tuple #[.agg o.vals.toArray, .agg (flatL (fun k => (M k).vals) 16).toArray]) ∧ Chg (fun _ _ => False) w w' := by
  obtain ⟨l, o, M, hl, hd⟩ := twoOk_den (rtold_all a)
  refine (runR FALL_ok F63_ok 1000 true [.agg zW, .agg a.sv] (by simp only [SV.denL, SV.den, zW_den, SI.den, Ans.den]) rfl hl w).mono fun e w' ⟨N, v, he, hv, hc⟩ => ?_
  rw [hd] at hv
  cases hv
  exact ⟨o, M, he, hc⟩

end Go.Proofs.Ytcfghkiokdbhjaa
