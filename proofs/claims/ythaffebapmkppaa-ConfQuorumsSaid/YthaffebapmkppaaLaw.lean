/- The wrap of a law 'true; the input reads as it did'. -/
import Derived.Test.YthaffebapmkppaaEB
import Derived.Test.YthaffebapmkppaaRd
import Derived.ProofKit

namespace Go.Eng
open Go.ChangeShapes Go.WideShapes Go.ChangeAt Go.RowKit

theorem Chg.below {w w' : World} (h : Chg (fun _ _ => False) w w') : Below w.heap.size w w' := ⟨h.os, h.tape, h.output, h.size, fun k hk => h.same k hk (fun _ ho => ho)⟩

section
variable {H : Type} {enc : TypeId × Value → H} {P : Program}

theorem trodAll_stays (hl : laidOutB P = true) {W W' : World} {sp : Nat → Bool} (hb : Below W.heap.size W W') : ∀ {ts : List TypeId} {vs : List Value} {ds : List (DataW H)} {ps : List MemPlace}, DataW.TrodAll enc P W 0 (fun _ => true) true ts vs ds ps →
    (∀ t ∈ ts, P.readableRec t = true ∧ t < P.types.size) → (∀ p ∈ ps, p.block < W.heap.size) → (∀ p ∈ ps, sp p.block = true) → DataW.TrodAll enc P W' 0 sp true ts vs ds ps
  | [], [], [], _, h, _, _, _ => h
  | t :: ts, v :: vs, d :: ds, ps, h, ht, hlt, hsp => by
    obtain ⟨p, q, h1, h2, rfl⟩ := h
    refine ⟨p, q, ?_, ?_, rfl⟩
    · exact WideElems.Trod_stays hl (ht t List.mem_cons_self).1 (ht t List.mem_cons_self).2 h1 (fun x hx => hb.same (hlt x (by simp [hx]))) (fun x hx => hsp x (by simp [hx]))
    · exact trodAll_stays hl hb h2 (fun u hu => ht u (List.mem_cons_of_mem _ hu)) (fun x hx => hlt x (by simp [hx])) (fun x hx => hsp x (by simp [hx]))
  | [], [], _ :: _, _, h, _, _, _ => h.elim
  | [], _ :: _, _, _, h, _, _, _ => h.elim
  | _ :: _, [], _, _, h, _, _, _ => h.elim
  | _ :: _, _ :: _, [], _, h, _, _, _ => h.elim

/-- a law's post: it is true; the input reads as it did -/
theorem law_post {f : Func} {s : ChangeSpec} {apart fresh handsOn again : Bool} {W W' : World} {args : Array Value} {ds gs : List (DataW H)} {before : List MemPlace} {tb : TypeId} (hl : laidOutB P = true)
    (hW : DataW.Whole enc P f.params.toList s.vars apart W args.toList ds gs before) (hv : s.vars = []) (hargs : (s.fn H (ds ++ gs)).args = ds) (hres : (s.fn H (ds ++ gs)).results = [.lit (.bool true)]) (hvars : (s.fn H (ds ++ gs)).vars = [])
    (hrt : f.resultTypes = #[tb]) (htb : P.underlying tb = some .bool) (hts : ∀ t ∈ f.params.toList, P.readableRec t = true ∧ t < P.types.size) (hb : Below W.heap.size W W') :
    s.post enc P f apart fresh handsOn again W args (.bool true) W' := by
  have hlt := hW.lt
  have hW0 := hW
  obtain ⟨p, q, hA, hV, rfl, hz, hn⟩ := hW
  rw [hv] at hV
  have hq : q = [] ∧ gs = [] := by
    cases gs with
    | nil => exact ⟨hV, rfl⟩
    | cons g gs => exact hV.elim
  obtain ⟨rfl, rfl⟩ := hq
  have hr : ∀ (b : Nat) (sp : Nat → Bool) (hd : Bool), DataW.TrodAll enc P W' b sp hd f.resultTypes.toList ((Value.bool true).resultList f.resultTypes.size) (s.fn H (ds ++ [])).results [] := by
    intro b sp hd
    rw [hrt, hres]
    exact trodAll_mk1 (shut_bool htb true)
  have ha : ∀ sp : Nat → Bool, (∀ x ∈ p, sp x.block = true) → DataW.TrodAll enc P W' 0 sp true f.params.toList args.toList (s.fn H (ds ++ [])).args p := by
    intro sp hsp
    rw [hargs]
    exact trodAll_stays hl hb hA hts (fun x hx => hlt x (by simpa using hx)) hsp
  have hvv : ∀ sp : Nat → Bool, DataW.TrodVars enc P W' sp s.vars (s.fn H (ds ++ [])).vars [] := by
    intro sp
    rw [hv, hvars]
    rfl
  refine ⟨ds, [], p ++ [], [], p, [], hW0, hr _ _ _, ha _ (fun x hx => by simpa using hlt x (by simpa using hx)), hvv _, World.keptBut_mono (fun x hx => ⟨hx, .inr (by simpa using hx)⟩) (hb.frame _), fun _ => ?_⟩
  refine ⟨?_, _, _, ([] ++ p) ++ [], ⟨[] ++ p, [], trodAll_append (ha _ (fun _ _ => rfl)) (hr _ _ _), hvv _, rfl, ?_, ?_⟩, ?_⟩
  · exact ok_one hrt rfl (okWide_bool_mk htb true)
  · intro b off hp
    have hbl : b < W.heap.size := hlt (.cell b off) (by simpa using hp)
    rw [hb.frozen (p := ⟨b, off, none⟩) hbl]
    exact hz b off (by simpa using hp)
  · intro hap
    have := hn hap
    simpa using this
  · intro x hx _
    simpa using hx

/-- what is known of an argument: its form, and how it reads -/
def ArgOk (P : Program) (W : World) (t : Nat) (v : Value) : Prop := (∃ r base, Value.okWide P W r base t v) ∧ Rd P W 0 t v.cells.toList

theorem rd_all {W : World} {sp : Nat → Bool} {hd : Bool} : ∀ {ts : List TypeId} {vs : List Value} {ds : List (DataW H)} {ps : List MemPlace}, DataW.TrodAll enc P W 0 sp hd ts vs ds ps →
    ∀ (j : Nat) t v, ts[j]? = some t → vs[j]? = some v → Rd P W 0 t v.cells.toList
  | [], [], _, _, _, j, t, v, h, _ => by simp at h
  | t :: ts, v :: vs, d :: ds, ps, h, j, t', v', ht, hv => by
    obtain ⟨p, q, h1, h2, rfl⟩ := h
    cases j with
    | zero =>
      simp at ht hv; subst ht; subst hv
      obtain ⟨fuel, h⟩ := h1
      exact ⟨H, enc, _, _, fuel, _, h⟩
    | succ j => exact rd_all h2 j t' v' (by simpa using ht) (by simpa using hv)
  | [], _ :: _, _, _, _, j, t, v, h, _ => by simp at h
  | _ :: _, [], _, _, _, j, t, v, _, h => by simp at h
  | _ :: _, _ :: _, [], _, h, _, _, _, _, _ => h.elim

theorem trodAll_len {W : World} {sp : Nat → Bool} {hd : Bool} : ∀ {ts : List TypeId} {vs : List Value} {ds : List (DataW H)} {ps : List MemPlace}, DataW.TrodAll enc P W 0 sp hd ts vs ds ps → vs.length = ts.length ∧ ds.length = ts.length
  | [], [], [], _, _ => ⟨rfl, rfl⟩
  | t :: ts, v :: vs, d :: ds, ps, h => by
    obtain ⟨p, q, _, h2, _⟩ := h
    have := trodAll_len h2
    simp [this]
  | [], [], _ :: _, _, h => h.elim
  | [], _ :: _, _, _, h => h.elim
  | _ :: _, [], _, _, h => h.elim
  | _ :: _, _ :: _, [], _, h => h.elim

theorem ArgOk.int {W : World} {t : Nat} {k : IntKind} {v : Value} (h : ArgOk P W t v) (hu : P.underlying t = some (.int k)) : ∃ n, v = .int k n ∧ (Lit.int k n).wf = true := by
  obtain ⟨⟨r, b, h1⟩, h2⟩ := h
  obtain ⟨n, rfl⟩ := okWide_int hu h1
  have := kindsOf_sound 1 t [.int k] _ (by simp [kindsOf, hu]) h2
  obtain ⟨m, hm, hw⟩ := this.1
  simp at hm
  subst hm
  exact ⟨_, rfl, hw⟩

theorem ArgOk.bool {W : World} {t : Nat} {v : Value} (h : ArgOk P W t v) (hu : P.underlying t = some .bool) : ∃ b, v = .bool b :=
  let ⟨⟨_, _, h1⟩, _⟩ := h; okWide_bool hu h1

theorem ArgOk.slice {W : World} {t e : Nat} {v : Value} (h : ArgOk P W t v) (hu : P.underlying t = some (.slice e)) : CellOk P W 0 (.slice e) v := by
  obtain ⟨⟨r, b, h1⟩, h2⟩ := h
  obtain ⟨p, n, c, rfl⟩ := okWide_slice hu h1
  exact (kindsOf_sound 1 t [.slice e] _ (by simp [kindsOf, hu]) h2).1

theorem ArgOk.string {W : World} {t : Nat} {v : Value} (h : ArgOk P W t v) (hu : P.underlying t = some .string) : CellOk P W 0 .str v := by
  obtain ⟨⟨r, b, h1⟩, h2⟩ := h
  obtain ⟨s, rfl⟩ := okWide_string hu h1
  exact (kindsOf_sound 1 t [.str] _ (by simp [kindsOf, hu]) h2).1

theorem ArgOk.struct {W : World} {t m : Nat} {fs : Array Field} {ks : List CK} {v : Value} (h : ArgOk P W t v) (hu : P.underlying t = some (.struct fs)) (hk : kindsOf P m t = some ks) : ∃ cs : List Value, v = .agg cs.toArray ∧ CellsOk P W 0 ks cs := by
  obtain ⟨⟨r, b, h1⟩, h2⟩ := h
  obtain ⟨cs, rfl, _⟩ := okWide_struct hu h1
  exact ⟨cs.toList, by simp, kindsOf_sound m t ks _ hk h2⟩

theorem CellsOk.cons {P : Program} {w : World} {base : Nat} {k : CK} {ks : List CK} {cs : List Value} (h : CellsOk P w base (k :: ks) cs) : ∃ v vs, cs = v :: vs ∧ CellOk P w base k v ∧ CellsOk P w base ks vs := by
  cases cs with
  | nil => exact h.elim
  | cons v vs => exact ⟨v, vs, rfl, h.1, h.2⟩
theorem CellsOk.nil {P : Program} {w : World} {base : Nat} {cs : List Value} (h : CellsOk P w base [] cs) : cs = [] := by
  cases cs with
  | nil => rfl
  | cons v vs => exact h.elim

end
end Go.Eng
