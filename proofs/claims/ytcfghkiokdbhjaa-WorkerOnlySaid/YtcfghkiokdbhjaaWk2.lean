/- The worker's functions, one contract each. -/
import Derived.Test.YtcfghkiokdbhjaaTab
import Derived.Test.YtcfghkiokdbhjaaArr
import Derived.Test.YtcfghkiokdbhjaaEngK
import Derived.Test.YtcfghkiokdbhjaaEng13

namespace Go.Proofs.Ytcfghkiokdbhjaa
open Go.Eng

structure Job where
  (p c i n t a g : Int)

def Job.z : Job := ⟨0, 0, 0, 0, 0, 0, 0⟩
def Job.sv (j : Job) : List SV := [.int .u8 (.v j.p), .int .u64 (.v j.c), .int .u64 (.v j.i), .int .u64 (.v j.n), .int .u8 (.v j.t), .int .i64 (.v j.a), .int .i64 (.v j.g)]
def Job.vals (j : Job) : List Value := [.int .u8 j.p, .int .u64 j.c, .int .u64 j.i, .int .u64 j.n, .int .u8 j.t, .int .i64 j.a, .int .i64 j.g]
theorem Job.den (j : Job) (N : Nums) : SV.denL N j.sv = some j.vals := rfl

/-- an operation -/
structure Opn where
  (k y c s a p r u i l : Int)
def Opn.z : Opn := ⟨0, 0, 0, 0, 0, 0, 0, 0, 0, 0⟩
def Opn.z0 : List SV := [.int .u8 (.lit 0), .int .u8 (.lit 0), .int .u8 (.lit 0), .int .u64 (.lit 0), .int .i64 (.lit 0), .int .i64 (.lit 0), .int .i64 (.lit 0), .int .u8 (.lit 0), .int .u64 (.lit 0), .int .u64 (.lit 0)]
def Opn.sv (o : Opn) : List SV := [.int .u8 (.v o.k), .int .u8 (.v o.y), .int .u8 (.v o.c), .int .u64 (.v o.s), .int .i64 (.v o.a), .int .i64 (.v o.p), .int .i64 (.v o.r), .int .u8 (.v o.u), .int .u64 (.v o.i), .int .u64 (.v o.l)]
def Opn.vals (o : Opn) : List Value := [.int .u8 o.k, .int .u8 o.y, .int .u8 o.c, .int .u64 o.s, .int .i64 o.a, .int .i64 o.p, .int .i64 o.r, .int .u8 o.u, .int .u64 o.i, .int .u64 o.l]

abbrev JobsAt (b y : Nat) (J : Nat → Job) : World → Prop := ArrAt b y 7 16 (fun s => (J s).vals)
abbrev jobD (b y : Nat) : Nat → Nat → Prop := arrD b y (16 * 7)

theorem updJ (J : Nat → Job) (s : Nat) (j : Job) : updA (fun s => (J s).vals) s j.vals = fun k => (updA J s j k).vals := by
  funext k; unfold updA; split <;> rfl

set_option maxRecDepth 100000 in
theorem at_ok (b y s : Nat) (w : World) (h : s < 16) :
    Calls Try.prog 58 #[.pointer (some ⟨b, y, none⟩), .int .u8 s] w fun e w' => e = .returned (.pointer (some ⟨b, y + s * 7, none⟩)) ∧ Chg (fun _ _ => False) w w' := by
  refine X.begin (rg := []) (N := []) (ss := [.ext b y 0, .int .u8 (.nat s)]) Try.func58 rfl B58_ok rfl rfl Sat.std0 ?_
  refine X.go T58_ok 200 16 rfl Try.results58 ?_
  conv => arg 2; cbv
  refine X.cond rfl (fun hc => ?_) (fun _ => ?_)
  · simp only [SB.T, SI.den] at hc
    omega
  refine X.go T58_ok 200 16 rfl Try.results58 ?_
  conv => arg 2; cbv
  obtain ⟨z, hz⟩ : ∃ z, z = y + s * 7 := ⟨_, rfl⟩
  refine X.idxArr rfl rfl rfl rfl rfl Try.underlying54 Try.sizeOf31 s rfl h (.ext b z 0) (fun N _ => by simp [SV.den, hz]) rfl ?_
  refine X.go T58_ok 200 16 rfl Try.results58 ?_
  conv => arg 2; cbv
  refine X.done T58_ok rfl (fun N w' v hN hS hv => ?_)
  simp [resV, SV.den, hz] at hv
  exact ⟨by rw [← hv], hS.chg.none⟩

set_option maxRecDepth 100000 in
theorem at_no (b y s : Nat) (w : World) (h : 16 ≤ s) :
    Calls Try.prog 58 #[.pointer (some ⟨b, y, none⟩), .int .u8 s] w fun e w' => e = .returned (.pointer none) ∧ Chg (fun _ _ => False) w w' := by
  refine X.begin (rg := []) (N := []) (ss := [.ext b y 0, .int .u8 (.nat s)]) Try.func58 rfl B58_ok rfl rfl Sat.std0 ?_
  refine X.go T58_ok 200 16 rfl Try.results58 ?_
  conv => arg 2; cbv
  refine X.cond rfl (fun _ => ?_) (fun hc => ?_)
  · refine X.go T58_ok 200 16 rfl Try.results58 ?_
    conv => arg 2; cbv
    refine X.done T58_ok rfl (fun N w' v hN hS hv => ?_)
    simp [resV, SV.den, one?] at hv
    exact ⟨by rw [← hv], hS.chg.none⟩
  · simp only [SB.F, SI.den] at hc
    omega

/-- the environment of a body at work on the worker's jobs -/
theorem jobs_O {w : World} {b y : Nat} : ∀ o, jobD b y b o → w.heap.size ≤ b ∨ jobD b y b o := fun _ h => .inr h
theorem jobs_im {w : World} {b y : Nat} : ∀ o, jobD b y b o → outside (jobD b y) w b o = none := fun _ h => outside_in h

theorem own0 {N : Nums} {b y x : Nat} {N0 : Nums} (hlen : N0.length = 0) (hN : (N0 ++ [⟨b, y, x⟩] : Nums).le N) : N[0]? = some ⟨b, y, x⟩ := hN 0 _ (by
  have := List.eq_nil_of_length_eq_zero hlen; subst this; rfl)

/-- behind a body at work on job s -/
theorem job_back {fn : Func} {Q : Ending → World → Prop} {w w' : World} {b y s : Nat} {J : Nat → Job} {im : Nat → Nat → Option Value} {N0 N : Nums} {B : SchT} {rg : List Rg} {g : Rg} {j : Job} (hlen : N0.length = 0) (hN : (N0 ++ [⟨b, y + s * 7, 7⟩] : Nums).le N)
    (hS : Sat (mkE Try.prog fn Q w (jobD b y) im (arrDBut b y (16 * 7) s 7) (ArrBut b y 7 16 s fun s => (J s).vals) (N0 ++ [⟨b, y + s * 7, 7⟩]) B).toEnv N rg w') (hg : rg[0]? = some g) (ho : g.own = true) (hd : SV.denL N g.cells = some j.vals) :
    JobsAt b y (updA J s j) w' ∧ Chg (jobD b y) w w' := by
  refine ⟨?_, hS.chg⟩
  have := arr_back hS hS.res hg ho (own0 hlen hN) hd rfl
  rw [updJ] at this
  exact this

theorem upd_cases {J : Nat → Job} {s : Nat} {j : Job} {p : Job → Job → Prop} (h : p (J s) j) (h0 : ∀ k, p (J k) (J k)) : ∀ k, p (J k) (updA J s j k) := fun k => by
  by_cases e : k = s
  · subst e; simpa [updA] using h
  · simpa [updA, e] using h0 k

set_option maxRecDepth 100000 in
theorem start_ok (b y s : Nat) (w : World) (J : Nat → Job) (hs : s < 16) (hJ : JobsAt b y J w) :
    Calls Try.prog 23 #[.pointer (some ⟨b, y, none⟩), .int .u8 s] w fun e w' => ∃ (op : Opn) (more : Bool) (J' : Nat → Job), e = .returned (.tuple #[.agg op.vals.toArray, .bool more]) ∧ JobsAt b y J' w' ∧ Chg (jobD b y) w w' ∧
      ∀ k, J' k = J k ∨ ((J k).p = 0 ∧ J' k = { J k with p := 1 }) := by
  refine X.beginR (jobD b y) (JobsAt b y J) (ss := [.ext b y 0, .int .u8 (.nat s)]) Try.func23 rfl B23_ok rfl rfl (hJ.there (by omega)) ArrAt.loc hJ ?_
  refine X.focusArr s hs (by omega) rfl (cs := (J s).sv) ((J s).den _) jobs_O jobs_im (by simp) (fun N0 hN0 hlen => ?_)
  refine X.go T23_ok 300 _ rfl Try.results23 ?_
  conv => arg 2; cbv
  refine X.call0 (.own 0 0) rfl rfl rfl rfl Try.call58 rfl (fun N w1 args hN hS ha => ?_) ?_
  · simp [SV.denL, SV.den, SI.den] at ha
    subst ha
    exact (at_ok b y s w1 hs).mono fun e w' ⟨he, hc⟩ => ⟨_, he, by simp [SV.den, own0 hlen hN], hc⟩
  refine X.go T23_ok 300 _ rfl Try.results23 ?_
  conv => arg 2; cbv
  refine X.cond rfl (fun hc => ?_) (fun hc => ?_)
  · refine X.go T23_ok 300 _ rfl Try.results23 ?_
    conv => arg 2; cbv
    refine X.done T23_ok rfl (fun N w' v hN hS hv => ?_)
    simp [resV, SV.den, SV.denL, SI.den, SB.den] at hv
    obtain ⟨h1, h2⟩ := job_back (j := J s) hlen hN hS rfl rfl rfl
    exact ⟨Opn.z, false, _, by rw [← hv]; rfl, h1, h2, upd_cases (p := fun x y => y = x ∨ (x.p = 0 ∧ y = { x with p := 1 })) (.inl rfl) (fun _ => .inl rfl)⟩
  · refine X.go T23_ok 300 _ rfl Try.results23 ?_
    conv => arg 2; cbv
    refine X.done T23_ok rfl (fun N w' v hN hS hv => ?_)
    simp [resV, SV.den, SV.denL, SI.den, SB.den] at hv
    simp only [SB.F, SI.den] at hc
    obtain ⟨h1, h2⟩ := job_back (j := { J s with p := 1 }) hlen hN hS rfl rfl rfl
    exact ⟨⟨7, s, 0, 0, 0, 0, 0, 0, 0, 0⟩, true, _, by rw [← hv]; rfl, h1, h2, upd_cases (p := fun x y => y = x ∨ (x.p = 0 ∧ y = { x with p := 1 })) (.inr ⟨hc, rfl⟩) (fun _ => .inl rfl)⟩

set_option maxRecDepth 100000 in
theorem began_ok (b y s : Nat) (c : Int) (w : World) (J : Nat → Job) (hs : s < 16) (hJ : JobsAt b y J w) :
    Calls Try.prog 20 #[.pointer (some ⟨b, y, none⟩), .int .u8 s, .int .u64 c] w fun e w' => ∃ (J' : Nat → Job), e = .returned (.tuple #[]) ∧ JobsAt b y J' w' ∧ Chg (jobD b y) w w' ∧
      ∀ k, J' k = J k ∨ J' k = { J k with c := c } := by
  refine X.beginR (jobD b y) (JobsAt b y J) (ss := [.ext b y 0, .int .u8 (.nat s), .int .u64 (.v c)]) Try.func20 rfl B20_ok rfl rfl (hJ.there (by omega)) ArrAt.loc hJ ?_
  refine X.focusArr s hs (by omega) rfl (cs := (J s).sv) ((J s).den _) jobs_O jobs_im (by simp) (fun N0 hN0 hlen => ?_)
  refine X.go T20_ok 300 _ rfl Try.results20 ?_
  conv => arg 2; cbv
  refine X.call0 (.own 0 0) rfl rfl rfl rfl Try.call58 rfl (fun N w1 args hN hS ha => ?_) ?_
  · simp [SV.denL, SV.den, SI.den] at ha
    subst ha
    exact (at_ok b y s w1 hs).mono fun e w' ⟨he, hc⟩ => ⟨_, he, by simp [SV.den, own0 hlen hN], hc⟩
  refine X.go T20_ok 300 _ rfl Try.results20 ?_
  conv => arg 2; cbv
  refine X.cond rfl (fun hc => ?_) (fun hc => ?_)
  · refine X.go T20_ok 300 _ rfl Try.results20 ?_
    conv => arg 2; cbv
    refine X.over T20_ok rfl (fun N w' v hN hS hv => ?_)
    simp [resV, SV.den, SV.denL, SI.den, SB.den] at hv
    obtain ⟨h1, h2⟩ := job_back (j := { J s with c := c }) hlen hN hS rfl rfl rfl
    exact ⟨_, by rw [← hv], h1, h2, upd_cases (p := fun x y => y = x ∨ y = { x with c := c }) (.inr rfl) (fun _ => .inl rfl)⟩
  · refine X.go T20_ok 300 _ rfl Try.results20 ?_
    conv => arg 2; cbv
    refine X.over T20_ok rfl (fun N w' v hN hS hv => ?_)
    simp [resV, SV.den, SV.denL, SI.den, SB.den] at hv
    obtain ⟨h1, h2⟩ := job_back (j := J s) hlen hN hS rfl rfl rfl
    exact ⟨_, by rw [← hv], h1, h2, upd_cases (p := fun x y => y = x ∨ y = { x with c := c }) (.inl rfl) (fun _ => .inl rfl)⟩

set_option maxRecDepth 100000 in
theorem failed_ok (b y s : Nat) (w : World) (J : Nat → Job) (hs : s < 16) (hJ : JobsAt b y J w) :
    Calls Try.prog 21 #[.pointer (some ⟨b, y, none⟩), .int .u8 s] w fun e w' => ∃ (J' : Nat → Job), e = .returned (.tuple #[]) ∧ JobsAt b y J' w' ∧ Chg (jobD b y) w w' ∧
      ∀ k, J' k = J k ∨ J' k = Job.z := by
  refine X.beginR (jobD b y) (JobsAt b y J) (ss := [.ext b y 0, .int .u8 (.nat s)]) Try.func21 rfl B21_ok rfl rfl (hJ.there (by omega)) ArrAt.loc hJ ?_
  refine X.focusArr s hs (by omega) rfl (cs := (J s).sv) ((J s).den _) jobs_O jobs_im (by simp) (fun N0 hN0 hlen => ?_)
  refine X.go T21_ok 300 _ rfl Try.results21 ?_
  conv => arg 2; cbv
  refine X.call0 (.own 0 0) rfl rfl rfl rfl Try.call58 rfl (fun N w1 args hN hS ha => ?_) ?_
  · simp [SV.denL, SV.den, SI.den] at ha
    subst ha
    exact (at_ok b y s w1 hs).mono fun e w' ⟨he, hc⟩ => ⟨_, he, by simp [SV.den, own0 hlen hN], hc⟩
  refine X.go T21_ok 300 _ rfl Try.results21 ?_
  conv => arg 2; cbv
  refine X.over T21_ok rfl (fun N w' v hN hS hv => ?_)
  simp [resV, SV.den, SV.denL, SI.den, SB.den] at hv
  obtain ⟨h1, h2⟩ := job_back (j := Job.z) hlen hN hS rfl rfl rfl
  exact ⟨_, by rw [← hv], h1, h2, upd_cases (p := fun x y => y = x ∨ y = Job.z) (.inr rfl) (fun _ => .inl rfl)⟩

set_option maxRecDepth 100000 in
theorem job_ok (b y s : Nat) (w : World) (J : Nat → Job) (hs : s < 16) (hJ : JobsAt b y J w) :
    Calls Try.prog 17 #[.pointer (some ⟨b, y, none⟩), .int .u8 s] w fun e w' => e = .returned (.agg (J s).vals.toArray) ∧ Chg (fun _ _ => False) w w' := by
  have hb : b < w.heap.size := World.block_lt_of_cell? _ _ ((hJ s hs).2 0 _ rfl).1
  refine X.begin (rg := [⟨false, (J s).sv, none⟩]) (N := [⟨b, y + s * 7, 7⟩]) (ss := [.ext b y 0, .int .u8 (.nat s)]) Try.func17 rfl B17_ok rfl rfl (Sat.std1 false hb (ArrAt.cells hJ hs ((J s).den _)) nofun) ?_
  refine X.go T17_ok 300 _ rfl Try.results17 ?_
  conv => arg 2; cbv
  refine X.call0 (.own 0 0) rfl rfl rfl rfl Try.call58 rfl (fun N w1 args hN hS ha => ?_) ?_
  · simp [SV.denL, SV.den, SI.den] at ha
    subst ha
    refine (at_ok b y s w1 hs).mono fun e w' ⟨he, hc⟩ => ⟨_, he, ?_, hc⟩
    have := hN 0 ⟨b, y + s * 7, 7⟩ rfl
    simp [SV.den, this]
  refine X.go T17_ok 300 _ rfl Try.results17 ?_
  conv => arg 2; cbv
  refine X.done T17_ok rfl (fun N w' v hN hS hv => ?_)
  simp [resV, SV.den, SV.denL, SI.den] at hv
  exact ⟨by rw [← hv]; rfl, hS.chg.ro1⟩

set_option maxRecDepth 100000 in
theorem start_no (b y s : Nat) (w : World) (hs : 16 ≤ s) :
    Calls Try.prog 23 #[.pointer (some ⟨b, y, none⟩), .int .u8 s] w fun e w' => e = .returned (.tuple #[.agg Opn.z.vals.toArray, .bool false]) ∧ Chg (fun _ _ => False) w w' := by
  refine X.begin (rg := []) (N := []) (ss := [.ext b y 0, .int .u8 (.nat s)]) Try.func23 rfl B23_ok rfl rfl Sat.std0 ?_
  refine X.go T23_ok 300 _ rfl Try.results23 ?_
  conv => arg 2; cbv
  refine X.call0 (.raw (.pointer none)) rfl rfl rfl rfl Try.call58 rfl (fun N w1 args hN hS ha => ?_) ?_
  · simp [SV.denL, SV.den, SI.den] at ha
    subst ha
    exact (at_no b y s w1 hs).mono fun e w' ⟨he, hc⟩ => ⟨_, he, rfl, hc⟩
  refine X.go T23_ok 300 _ rfl Try.results23 ?_
  conv => arg 2; cbv
  refine X.done T23_ok rfl (fun N w' v hN hS hv => ?_)
  simp [resV, SV.den, SV.denL, SI.den, SB.den] at hv
  exact ⟨by rw [← hv]; rfl, hS.chg.none⟩

set_option maxRecDepth 100000 in
theorem began_no (b y s : Nat) (c : Int) (w : World) (hs : 16 ≤ s) :
    Calls Try.prog 20 #[.pointer (some ⟨b, y, none⟩), .int .u8 s, .int .u64 c] w fun e w' => e = .returned (.tuple #[]) ∧ Chg (fun _ _ => False) w w' := by
  refine X.begin (rg := []) (N := []) (ss := [.ext b y 0, .int .u8 (.nat s), .int .u64 (.v c)]) Try.func20 rfl B20_ok rfl rfl Sat.std0 ?_
  refine X.go T20_ok 300 _ rfl Try.results20 ?_
  conv => arg 2; cbv
  refine X.call0 (.raw (.pointer none)) rfl rfl rfl rfl Try.call58 rfl (fun N w1 args hN hS ha => ?_) ?_
  · simp [SV.denL, SV.den, SI.den] at ha
    subst ha
    exact (at_no b y s w1 hs).mono fun e w' ⟨he, hc⟩ => ⟨_, he, rfl, hc⟩
  refine X.go T20_ok 300 _ rfl Try.results20 ?_
  conv => arg 2; cbv
  refine X.over T20_ok rfl (fun N w' v hN hS hv => ?_)
  simp [resV, SV.den, SV.denL, SI.den, SB.den] at hv
  exact ⟨by rw [← hv], hS.chg.none⟩

set_option maxRecDepth 100000 in
theorem failed_no (b y s : Nat) (w : World) (hs : 16 ≤ s) :
    Calls Try.prog 21 #[.pointer (some ⟨b, y, none⟩), .int .u8 s] w fun e w' => e = .returned (.tuple #[]) ∧ Chg (fun _ _ => False) w w' := by
  refine X.begin (rg := []) (N := []) (ss := [.ext b y 0, .int .u8 (.nat s)]) Try.func21 rfl B21_ok rfl rfl Sat.std0 ?_
  refine X.go T21_ok 300 _ rfl Try.results21 ?_
  conv => arg 2; cbv
  refine X.call0 (.raw (.pointer none)) rfl rfl rfl rfl Try.call58 rfl (fun N w1 args hN hS ha => ?_) ?_
  · simp [SV.denL, SV.den, SI.den] at ha
    subst ha
    exact (at_no b y s w1 hs).mono fun e w' ⟨he, hc⟩ => ⟨_, he, rfl, hc⟩
  refine X.go T21_ok 300 _ rfl Try.results21 ?_
  conv => arg 2; cbv
  refine X.over T21_ok rfl (fun N w' v hN hS hv => ?_)
  simp [resV, SV.den, SV.denL, SI.den, SB.den] at hv
  exact ⟨by rw [← hv], hS.chg.none⟩

set_option maxRecDepth 100000 in
theorem job_no (b y s : Nat) (w : World) (hs : 16 ≤ s) :
    Calls Try.prog 17 #[.pointer (some ⟨b, y, none⟩), .int .u8 s] w fun e w' => e = .returned (.agg Job.z.vals.toArray) ∧ Chg (fun _ _ => False) w w' := by
  refine X.begin (rg := []) (N := []) (ss := [.ext b y 0, .int .u8 (.nat s)]) Try.func17 rfl B17_ok rfl rfl Sat.std0 ?_
  refine X.go T17_ok 300 _ rfl Try.results17 ?_
  conv => arg 2; cbv
  refine X.call0 (.raw (.pointer none)) rfl rfl rfl rfl Try.call58 rfl (fun N w1 args hN hS ha => ?_) ?_
  · simp [SV.denL, SV.den, SI.den] at ha
    subst ha
    exact (at_no b y s w1 hs).mono fun e w' ⟨he, hc⟩ => ⟨_, he, rfl, hc⟩
  refine X.go T17_ok 300 _ rfl Try.results17 ?_
  conv => arg 2; cbv
  refine X.done T17_ok rfl (fun N w' v hN hS hv => ?_)
  simp [resV, SV.den, SV.denL, SI.den, SB.den] at hv
  exact ⟨by rw [← hv]; rfl, hS.chg.none⟩

end Go.Proofs.Ytcfghkiokdbhjaa
