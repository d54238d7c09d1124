/- HistoryPlays: the history and the document's row go alike. -/
import Derived.Test.YtcfghkiokdbhjaaHi16

namespace Go.Proofs.Ytcfghkiokdbhjaa
open Go.Eng

/-- Begin's outcome -/
def BegA (H H' : Hist) (nd k yy c a p r u ii l at' : Int) (i1 : Int) (o : Ent) (er : Int) : Prop :=
  (i1 = 0 ∧ o = Ent.z ∧ er = 1 ∧ (c = 0 ∨ ¬ MayP k yy c a p u) ∧ SameH H H') ∨ (i1 = 0 ∧ o = Ent.z ∧ er = 16 ∧ (¬ c = 0 ∧ MayP k yy c a p u) ∧ (∃ i, i < H.n ∧ (H.f i).is c) ∧ SameH H H') ∨
    (∃ cl : Nat, c = cl ∧ cl < 9 ∧ i1 = H.n ∧ o = Ent.new nd k yy cl (IntKind.u64.wrap (H.q cl + 1)) a p r u ii l at' ∧ er = 0 ∧ (¬ c = 0 ∧ MayP k yy c a p u) ∧ BegH H H' nd k yy c a p r u ii l at')

theorem begin_all (H : Hist) (nd k yy c s a p r u ii l at' : Int) (w : World) (ok : H.Ok) (pos : H.nl = false → 0 < H.cp) (h : HistAt H w) (hn : H.n ≤ 900) (hc0 : 0 ≤ c) :
    Calls Try.prog 28 #[.pointer (some ⟨H.hb, H.hy, none⟩), .int .u8 nd, .agg #[.int .u8 k, .int .u8 yy, .int .u8 c, .int .u64 s, .int .i64 a, .int .i64 p, .int .i64 r, .int .u8 u, .int .u64 ii, .int .u64 l], .int .i64 at'] w
      fun e w' => ∃ i1 o er, e = begE i1 o er ∧ ∃ H', HTo H H' w w' ∧ BegA H H' nd k yy c a p r u ii l at' i1 o er :=
  (begin_eq H nd k yy c s a p r u ii l at' w ok pos h hn hc0).mono fun e w' ⟨H', ht, h⟩ => by
    rcases h with ⟨h1, h2⟩ | ⟨h1, h2⟩ | ⟨cl, e1, e2, h1, h2⟩
    · exact ⟨_, _, _, h1, H', ht, .inl ⟨rfl, rfl, rfl, h2⟩⟩
    · exact ⟨_, _, _, h1, H', ht, .inr (.inl ⟨rfl, rfl, rfl, h2⟩)⟩
    · exact ⟨_, _, _, h1, H', ht, .inr (.inr ⟨cl, e1, e2, rfl, rfl, rfl, h2⟩)⟩

/-- a row of the document's, made just now or as it was -/
structure Row (H' : Hist) (m : Mem) (w1 w' : World) (n c : Nat) (p : Option Addr) (b y : Nat) (f : Nat → Ent) : Prop where
  cap : n ≤ c
  row : (0 < n → p = some ⟨b, y, none⟩) ∧ ((∀ k, k < n → ∀ (q : Nat) (v : Value), (f k).vals[q]? = some v → m b (y + (k * 18 + q)) = some v) ∨ (w1.heap.size ≤ b ∧ ∀ k, k < n → ∀ (q : Nat) (v : Value), (f k).vals[q]? = some v → w'.cell? ⟨b, y + (k * 18 + q), none⟩ = some v))

theorem Row.rows {H' : Hist} {m : Mem} {w1 w' : World} {n c : Nat} {p : Option Addr} {b y : Nat} {f : Nat → Ent} (h : Row H' m w1 w' n c p b y f) (hd : ∀ k o, H'.D k o → k < w1.heap.size) (hm : ∀ k o, w1.heap.size ≤ k → m k o = none) : ∀ k, k < n → ∀ (q : Nat) (v : Value), (f k).vals[q]? = some v → Eng.grow m H'.D w1 w' b (y + (k * 18 + q)) = some v := fun k hk q v hq => by
  rcases h.row.2 with h1 | ⟨h1, h2⟩
  · exact grow_old (h1 k hk q v hq)
  · exact grow_new (hm b _ h1) h1 (fun h => by have := hd _ _ h; omega) (h2 k hk q v hq)

theorem Row.same {H H' : Hist} {m : Mem} {w1 w' : World} {n c : Nat} {p : Option Addr} {b y : Nat} {f : Nat → Ent} (h : Was H m n c p b y f) : Row H' m w1 w' n c p b y f := ⟨h.cap, fun h0 => h.po 0 h0, .inl h.row⟩

theorem Was.of {H' : Hist} {m : Mem} {w1 w' : World} {n c : Nat} {p : Option Addr} {b y : Nat} {f : Nat → Ent} (h : Row H' m w1 w' n c p b y f) (hd : ∀ k o, H'.D k o → k < w1.heap.size) (hm : ∀ k o, w1.heap.size ≤ k → m k o = none) (hn : n = H'.n) (hl : ∀ k, k < n → (H'.f k).like (f k))
    (hv : ∀ k, k < n → ∃ g, IntsM (f k).vp (H'.f k).vn g m ∧ IntsM (H'.f k).vp (H'.f k).vn g m ∧ (H'.f k).vn ≤ 50) : Was H' (Eng.grow m H'.D w1 w') n c p b y f :=
  ⟨hn, h.cap, fun k hk => h.row.1 (by omega), h.rows hd hm, hl, fun k hk => by
    obtain ⟨g, h1, h2, h3⟩ := hv k hk
    exact ⟨g, h1.more fun _ _ _ h => grow_old h, h2.more fun _ _ _ h => grow_old h, h3⟩⟩

theorem seq_cnt {f : Nat → Ent} {c : Int} : ∀ n, n ≤ 1000 → seqOf f c n = ((cnt f c n + 1 : Nat) : Int)
  | 0, _ => rfl
  | n + 1, h => by
    have ih := seq_cnt (f := f) (c := c) n (by omega)
    have hle := cnt_le f c n
    show (if (f n).c = c then IntKind.u64.wrap (seqOf f c n + 1) else seqOf f c n) = ((cnt f c n + (if (f n).c = c then 1 else 0) + 1 : Nat) : Int)
    by_cases e : (f n).c = c
    · rw [if_pos e, if_pos e, ih]
      exact wrapU (cnt f c n + 1 + 1) (by omega)
    · rw [if_neg e, if_neg e, ih]

/-- the document's Begin, beside -/
theorem rbegin_all (H H' : Hist) (nd k yy c s a p r u ii l at' i1 : Int) (o : Ent) (er : Int) (hA : BegA H H' nd k yy c a p r u ii l at' i1 o er) (m : Mem) (n cp : Nat) (po : Option Addr) (b y : Nat) (f : Nat → Ent) (hwas : Was H m n cp po b y f) (hinv : HInv H.n H.f H.q) (w : World) (hn : n ≤ 900) (h0c : 0 ≤ c) (hE : EntsIn po n f w) :
    Calls Try.prog 29 #[.slice po n cp, .int .u8 nd, .agg #[.int .u8 k, .int .u8 yy, .int .u8 c, .int .u64 s, .int .i64 a, .int .i64 p, .int .i64 r, .int .u8 u, .int .u64 ii, .int .u64 l], .int .i64 at'] w
      fun e w' => ∃ (p' : Option Addr) (n' c' b' y' : Nat) (f' : Nat → Ent), e = rbegE i1 o er (.slice p' n' c') ∧ Row H' m w w' n' c' p' b' y' f' ∧ n' = H'.n ∧ (∀ k, k < n' → (H'.f k).like (f' k)) ∧ (∀ k, k < n' → ∃ g, IntsM (f' k).vp (H'.f k).vn g m ∧ IntsM (H'.f k).vp (H'.f k).vn g m ∧ (H'.f k).vn ≤ 50) ∧ Chg (fun _ _ => False) w w' := by
  have hnum := hwas.num
  by_cases hc : c = 0 ∨ ¬ MayP k yy c a p u
  · refine (rbegin_out po n cp nd k yy c s a p r u ii l at' w h0c hc).mono fun e w' ⟨h1, h2⟩ => ?_
    rcases hA with ⟨rfl, rfl, rfl, -, hs⟩ | ⟨-, -, -, ⟨k1, k2⟩, -⟩ | ⟨cl, -, -, -, -, -, ⟨k1, k2⟩, -⟩
    · refine ⟨po, n, cp, b, y, f, h1, .same hwas, hnum.trans hs.1.symm, fun k hk => ?_, fun k hk => ?_, h2⟩
      · rw [hs.2.1]; exact hwas.like k hk
      · rw [hs.2.1]; exact hwas.vars k hk
    · exact absurd hc (fun h => h.elim k1 (fun h => h k2))
    · exact absurd hc (fun h => h.elim k1 (fun h => h k2))
  have hc0 : ¬ c = 0 := fun e => hc (.inl e)
  have hmay : MayP k yy c a p u := Classical.byContradiction fun e => hc (.inr e)
  refine (rbegin_in po n cp f (seqOf f c) rfl nd k yy c s a p r u ii l at' (fun i => rfl) w (by omega) hE (by omega) hmay).mono fun e w' ⟨h1, h2⟩ => ?_
  have his : ∀ i, i < n → ((f i).is c ↔ (H.f i).is c) := fun i hi => by
    obtain ⟨p, c', e⟩ := hwas.like i hi
    rw [e]; exact Iff.rfl
  rcases hA with ⟨-, -, -, k1, -⟩ | ⟨rfl, rfl, rfl, -, ⟨i, hi, hic⟩, hs⟩ | ⟨cl, hcl, h9, rfl, rfl, rfl, -, hB⟩
  · exact absurd k1 hc
  · rcases h1 with ⟨h1, -⟩ | ⟨h1, -⟩
    · refine ⟨po, n, cp, b, y, f, h1, .same hwas, hnum.trans hs.1.symm, fun k hk => ?_, fun k hk => ?_, h2⟩
      · rw [hs.2.1]; exact hwas.like k hk
      · rw [hs.2.1]; exact hwas.vars k hk
    · exact absurd ((his i (by omega)).2 hic) (h1 i (by omega))
  · obtain ⟨cl', hcl', -, -, hno, en, ef, -⟩ := hB
    obtain rfl : cl' = cl := by omega
    rcases h1 with ⟨-, i, hi, hic⟩ | ⟨-, b', y', c', h1, k1, k2, k3⟩
    · exact absurd ((his i hi).1 hic) (hno i (by omega))
    · have hseq : seqOf f c n = IntKind.u64.wrap (H.q cl' + 1) := by
        rw [seq_cnt n (by omega), hinv.num cl' h9, ← hnum]
        have hcc : cnt f c n = cnt H.f (cl' : Int) n := by
          rw [hcl]
          exact cnt_same fun j hj => by
            obtain ⟨p, c', e⟩ := hwas.like j hj
            rw [e]
        rw [hcc]
        have := cnt_le H.f (cl' : Int) n
        exact (wrapU (cnt H.f cl' n + 1) (by omega)).symm
      rw [hseq] at h1 k3
      have hee : (⟨nd, k, yy, c, IntKind.u64.wrap (H.q cl' + 1), a, p, r, u, ii, l, at', 0, 0, 0, 0, 0, none, 0, 0⟩ : Ent) = Ent.new nd k yy cl' (IntKind.u64.wrap (H.q cl' + 1)) a p r u ii l at' := by rw [hcl]; rfl
      rw [hee] at h1 k3
      refine ⟨some ⟨b', y', none⟩, n + 1, c', b', y', updA f n (Ent.new nd k yy cl' (IntKind.u64.wrap (H.q cl' + 1)) a p r u ii l at'), by rw [h1, hnum], ⟨k2, fun _ => rfl, .inr ⟨k1, k3⟩⟩, by rw [en, hnum], fun j hj => ?_, fun j hj => ?_, h2⟩
      · rw [ef, ← hnum]
        unfold updA
        by_cases e : j = n
        · rw [if_pos e, if_pos e]; exact ⟨none, 0, rfl⟩
        · rw [if_neg e, if_neg e]; exact hwas.like j (by omega)
      · rw [ef, ← hnum]
        unfold updA
        by_cases e : j = n
        · rw [if_pos e, if_pos e]; exact ⟨fun _ => 0, fun h0 => absurd h0 (Nat.lt_irrefl 0), fun h0 => absurd h0 (Nat.lt_irrefl 0), Nat.zero_le _⟩
        · rw [if_neg e, if_neg e]; exact hwas.vars j (by omega)

/-- the document's Undo, beside -/
theorem rundo_all (H H' : Hist) (i : Int) (hA : (SameH H H' ∧ (H.n = 0 ∨ i ≠ (H.n : Int) - 1 ∨ ∃ j, j + 1 = H.n ∧ (H.f j).st ≠ 0)) ∨ (UndH H H' ∧ i = (H.n : Int) - 1)) (m : Mem) (n cp : Nat) (po : Option Addr) (b y : Nat) (f : Nat → Ent) (hwas : Was H m n cp po b y f) (w : World) (hn : n ≤ 900) (hE : EntsIn po n f w) :
    Calls Try.prog 31 #[.slice po n cp, .int .i64 i] w
      fun e w' => ∃ n' : Nat, e = .returned (.slice po n' cp) ∧ Was H' m n' cp po b y f ∧ Chg (fun _ _ => False) w w' := by
  have hnum := hwas.num
  have hst : ∀ j, j < n → (f j).st = (H.f j).st := fun j hj => by
    obtain ⟨p, c', e⟩ := hwas.like j hj
    rw [e]
  refine (rundo_ok po n cp i f w (by omega) hwas.cap hE).mono fun e w' ⟨⟨n', h1, h2⟩, h3⟩ => ⟨n', h1, ?_, h3⟩
  rcases hA with ⟨hs, hA⟩ | ⟨⟨j, c, e0, s0, -, -, en, ef, -⟩, hi⟩
  · rcases h2 with ⟨rfl, -⟩ | ⟨e1, e2, e3⟩
    · exact ⟨hnum.trans hs.1.symm, hwas.cap, hwas.po, hwas.row, fun k hk => by rw [hs.2.1]; exact hwas.like k hk, fun k hk => by rw [hs.2.1]; exact hwas.vars k hk⟩
    · exfalso
      rcases hA with h | h | ⟨j, h1, h2⟩
      · omega
      · omega
      · have : j = n' := by omega
        subst this
        rw [hst j (by omega)] at e3
        exact h2 e3
  · rcases h2 with ⟨-, h | h | ⟨j', h4, h5⟩⟩ | ⟨e1, -, -⟩
    · omega
    · omega
    · exfalso
      have : j' = j := by omega
      subst this
      rw [hst j' (by omega)] at h5
      exact h5 s0
    · have hj : n' = j := by omega
      subst hj
      exact ⟨en.symm, by have := hwas.cap; omega, fun k hk => hwas.po k (by omega), fun k hk => hwas.row k (by omega), fun k hk => by rw [ef]; exact hwas.like k (by omega), fun k hk => by rw [ef]; exact hwas.vars k (by omega)⟩

/-- End's outcome -/
def EndA (H H' : Hist) (i re ri rs : Int) (vn : Nat) (at' : Int) (g : Nat → Int) (m : Mem) (er : Int) : Prop :=
  (er = 6 ∧ SameH H H' ∧ (i < 0 ∨ (H.n : Int) ≤ i)) ∨ (er = 16 ∧ SameH H H' ∧ ∃ j : Nat, i = j ∧ j < H.n ∧ (H.f j).st ≠ 0) ∨
    (er = 0 ∧ ∃ p c j, i = (j : Nat) ∧ EndH H H' re ri rs p vn c at' j ∧ IntsM p vn g m)

/-- the document's End, beside -/
theorem rend_all (H H' : Hist) (i re ri rs at' : Int) (vp : Option Addr) (vn vc : Nat) (g : Nat → Int) (er : Int) (m : Mem) (hA : EndA H H' i re ri rs vn at' g m er) (hvn : vn ≤ 50) (hI : IntsM vp vn g m) (n cp : Nat) (po : Option Addr) (b y : Nat) (f : Nat → Ent) (hwas : Was H m n cp po b y f) (w : World) (hn : n ≤ 900) (hE : EntsIn po n f w) :
    Calls Try.prog 33 #[.slice po n cp, .int .i64 i, .agg #[.int .i64 re, .int .u64 ri, .int .i64 rs, .slice vp vn vc], .int .i64 at'] w
      fun e w' => ∃ (p' : Option Addr) (n' c' b' y' : Nat) (f' : Nat → Ent), e = .returned (.tuple #[.int .i64 er, .slice p' n' c']) ∧ Row H' m w w' n' c' p' b' y' f' ∧ n' = H'.n ∧ (∀ k, k < n' → (H'.f k).like (f' k)) ∧ (∀ k, k < n' → ∃ g, IntsM (f' k).vp (H'.f k).vn g m ∧ IntsM (H'.f k).vp (H'.f k).vn g m ∧ (H'.f k).vn ≤ 50) ∧ Chg (fun _ _ => False) w w' := by
  have hnum := hwas.num
  have hst : ∀ j, j < n → (f j).st = (H.f j).st := fun j hj => by
    obtain ⟨p, c', e⟩ := hwas.like j hj
    rw [e]
  rcases hA with ⟨rfl, hs, hi⟩ | ⟨rfl, hs, j, rfl, hj, hsj⟩ | ⟨rfl, p, c, j, rfl, ⟨hj, hsj, en, -, ef⟩, hp⟩
  · refine (rend_out po n cp i re ri rs at' vp vn vc w (by omega)).mono fun e w' ⟨h1, h2⟩ => ⟨po, n, cp, b, y, f, h1, .same hwas, hnum.trans hs.1.symm, fun k hk => ?_, fun k hk => ?_, h2⟩
    · rw [hs.2.1]; exact hwas.like k hk
    · rw [hs.2.1]; exact hwas.vars k hk
  · refine (rend_shut po n cp j f re ri rs at' vp vn vc w hE (by omega) (by rw [hst j (by omega)]; exact hsj)).mono fun e w' ⟨h1, h2⟩ => ⟨po, n, cp, b, y, f, h1, .same hwas, hnum.trans hs.1.symm, fun k hk => ?_, fun k hk => ?_, h2⟩
    · rw [hs.2.1]; exact hwas.like k hk
    · rw [hs.2.1]; exact hwas.vars k hk
  · refine (rend_open po n cp j f re ri rs at' vp vn vc w (by omega) hE (by omega) (by rw [hst j (by omega)]; exact hsj)).mono fun e w' ⟨⟨b', y', c', h1, k1, k2, k3⟩, h2⟩ => ⟨some ⟨b', y', none⟩, n, c', b', y', updA f j { f j with st := 1, re := re, ri := ri, rs := rs, vp := vp, vn := vn, vc := vc, en := at' }, h1, ⟨k2, fun _ => rfl, .inr ⟨k1, fun k hk q v hq => ((k3 k hk).2 q v hq).1⟩⟩, hnum.trans en.symm, fun k hk => ?_, fun k hk => ?_, h2⟩
    · rw [ef]
      unfold updA
      by_cases e : k = j
      · rw [if_pos e, if_pos e]
        obtain ⟨p', c'', e'⟩ := hwas.like j (by omega)
        exact ⟨vp, vc, by rw [e']⟩
      · rw [if_neg e, if_neg e]; exact hwas.like k hk
    · rw [ef]
      unfold updA
      by_cases e : k = j
      · rw [if_pos e, if_pos e]; exact ⟨g, hI, hp, hvn⟩
      · rw [if_neg e, if_neg e]; exact hwas.vars k hk

theorem lost_like {nd : Int} {e e' : Ent} (h : e.like e') : (lostE nd e).like (lostE nd e') := by
  obtain ⟨p, c, rfl⟩ := h
  unfold lostE
  by_cases hc : e.nd = nd ∧ e.st = 0
  · rw [if_pos hc, if_pos (show (Ent.nd { e with vp := p, vc := c }) = nd ∧ _ from hc)]; exact ⟨p, c, rfl⟩
  · rw [if_neg hc, if_neg (show ¬ ((Ent.nd { e with vp := p, vc := c }) = nd ∧ _) from hc)]; exact ⟨p, c, rfl⟩

theorem lostN_like {nd : Int} {f f' : Nat → Ent} : ∀ n, (∀ k, k < n → (f k).like (f' k)) → lostN nd f n = lostN nd f' n
  | 0, _ => rfl
  | n + 1, h => by
    obtain ⟨p, c, e⟩ := h n (by omega)
    show (if (f n).nd = nd ∧ (f n).st = 0 then _ else _) = (if (f' n).nd = nd ∧ (f' n).st = 0 then _ else _)
    rw [lostN_like n fun k hk => h k (by omega), e]

/-- the document's Lost, beside -/
theorem rlost_all (H H' : Hist) (nd : Int) (en : H'.n = H.n) (ef : H'.f = lostF nd H.f H.n) (m : Mem) (n cp : Nat) (po : Option Addr) (b y : Nat) (f : Nat → Ent) (hwas : Was H m n cp po b y f) (w : World) (hn : n ≤ 900) (hE : EntsIn po n f w) :
    Calls Try.prog 35 #[.slice po n cp, .int .u8 nd] w
      fun e w' => ∃ (p' : Option Addr) (n' c' b' y' : Nat) (f' : Nat → Ent), e = .returned (.tuple #[.int .i64 (lostN nd H.f H.n : Nat), .slice p' n' c']) ∧ Row H' m w w' n' c' p' b' y' f' ∧ n' = H'.n ∧ (∀ k, k < n' → (H'.f k).like (f' k)) ∧ (∀ k, k < n' → ∃ g, IntsM (f' k).vp (H'.f k).vn g m ∧ IntsM (H'.f k).vp (H'.f k).vn g m ∧ (H'.f k).vn ≤ 50) ∧ Chg (fun _ _ => False) w w' := by
  have hnum := hwas.num
  refine (rlost_ok po n cp nd f w (by omega) hE).mono fun e w' ⟨⟨p', b', y', c', h1, k1, k2, k3⟩, h2⟩ => ⟨p', n, c', b', y', lostF nd f n, ?_, ⟨k2, fun h => (k1 h).1, ?_⟩, hnum.trans en.symm, fun k hk => ?_, fun k hk => ?_, h2⟩
  · rw [h1, ← hnum, lostN_like n hwas.like]
  · by_cases h0 : n = 0
    · exact .inl fun k hk => by omega
    · exact .inr ⟨(k1 (by omega)).2, fun k hk q v hq => ((k3 k hk).2 q v hq).1⟩
  · rw [ef, ← hnum]
    unfold lostF
    rw [if_pos hk, if_pos hk]
    exact lost_like (hwas.like k hk)
  · rw [ef, ← hnum]
    unfold lostF
    rw [if_pos hk, if_pos hk]
    obtain ⟨-, -, -, e1, e2⟩ := lostE_core nd (H.f k)
    obtain ⟨-, -, -, e3, -⟩ := lostE_core nd (f k)
    rw [e1, e2, e3]
    exact hwas.vars k hk

theorem end_all (H : Hist) (i re ri rs at' : Int) (vp : Option Addr) (vn vc : Nat) (g : Nat → Int) (w : World) (ok : H.Ok) (pos : H.nl = false → 0 < H.cp) (h : HistAt H w) (hn : H.n ≤ 900) (hvn : vn ≤ 1000) (hI : IntsIn vp vn g w) (hfar : ∀ a, vp = some a → 0 < vn → a.block ≠ H.hb ∧ (0 < H.n → a.block ≠ H.eb)) :
    Calls Try.prog 32 #[.pointer (some ⟨H.hb, H.hy, none⟩), .int .i64 i, .agg #[.int .i64 re, .int .u64 ri, .int .i64 rs, .slice vp vn vc], .int .i64 at'] w
      fun e w' => ∃ er : Int, e = .returned (.int .i64 er) ∧ ∃ H', HTo H H' w w' ∧ ((er = 6 ∧ SameH H H' ∧ (i < 0 ∨ (H.n : Int) ≤ i)) ∨ (er = 16 ∧ SameH H H' ∧ ∃ j : Nat, i = j ∧ j < H.n ∧ (H.f j).st ≠ 0) ∨
        (er = 0 ∧ ∃ p c j, i = (j : Nat) ∧ EndH H H' re ri rs p vn c at' j ∧ IntsIn p vn g w' ∧ (∀ a, p = some a → 0 < vn → w.heap.size ≤ a.block) ∧ ∀ k o, H'.D k o → H.D k o)) :=
  (end_eq H i re ri rs at' vp vn vc g w ok pos h hn hvn hI hfar).mono fun e w' ⟨H', h1, h2⟩ => by
    rcases h2 with ⟨e1, e2⟩ | ⟨e1, e2⟩ | ⟨e1, e2⟩
    · exact ⟨_, e1, H', h1, .inl ⟨rfl, e2⟩⟩
    · exact ⟨_, e1, H', h1, .inr (.inl ⟨rfl, e2⟩)⟩
    · exact ⟨_, e1, H', h1, .inr (.inr ⟨rfl, e2⟩)⟩

theorem Was.ents {H : Hist} {m : Mem} {n c : Nat} {p : Option Addr} {b y : Nat} {f : Nat → Ent} (h : Was H m n c p b y f) {w : World} (hm : ∀ k o v, m k o = some v → w.cell? ⟨k, o, none⟩ = some v) : EntsIn p n f w := fun i hi => ⟨b, y, y + i * 18, h.po i hi, rfl, fun j v hj => by
  rw [Nat.add_assoc]; exact hm _ _ _ (h.row i hi j v hj)⟩

theorem was_vars {H : Hist} {m : Mem} {n c c2 : Nat} {p p2 : Option Addr} {b y b2 y2 : Nat} {f f2 : Nat → Ent} (h : Was H m n c p b y f) (h2 : Was H m n c2 p2 b2 y2 f2) : ∃ G : Nat → Nat → Int, ∀ i, i < n → IntsM (f i).vp (H.f i).vn (G i) m ∧ IntsM (f2 i).vp (H.f i).vn (G i) m ∧ (H.f i).vn ≤ 50 := by
  have : ∀ i, ∃ g : Nat → Int, i < n → IntsM (f i).vp (H.f i).vn g m ∧ IntsM (f2 i).vp (H.f i).vn g m ∧ (H.f i).vn ≤ 50 := fun i => by
    by_cases hi : i < n
    · obtain ⟨g, a1, a2, a3⟩ := h.vars i hi
      obtain ⟨g', b1, b2, b3⟩ := h2.vars i hi
      exact ⟨g, fun _ => ⟨a1, b1.congr (b2.agree a2), a3⟩⟩
    · exact ⟨fun _ => 0, fun h => absurd h hi⟩
  exact Classical.skolem.1 this

theorem IntsIn.mem {po : Option Addr} {n : Nat} {g : Nat → Int} {W : World} {m : Mem} (h : IntsIn po n g W) (hm : ∀ k o v, W.cell? ⟨k, o, none⟩ = some v → m k o = some v) : IntsM po n g m := fun hn => by
  obtain ⟨b, y, h1, h2⟩ := h hn
  exact ⟨b, y, h1, fun j hj => hm _ _ _ (h2 j hj)⟩

end Go.Proofs.Ytcfghkiokdbhjaa
