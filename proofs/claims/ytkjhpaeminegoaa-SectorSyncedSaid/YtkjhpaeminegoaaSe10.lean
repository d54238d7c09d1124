/- The sector's functions: Sync. -/
import Derived.Test.YtkjhpaeminegoaaSe9

namespace Go.Proofs.Ytkjhpaeminegoaa
open Go.Eng

theorem loc_mono {D D' : Nat → Nat → Prop} {R : World → Prop} (h : Eng.Loc D R) (hD : ∀ k o, D k o → D' k o) : Eng.Loc D' R := fun w w' hs hl hR => h w w' (fun k o hd => hs k o (hD k o hd)) hl hR

/-- the disk with other cells of its own -/
def Dk.withH (d : Dk) (h : Hd) : Dk := { d with h := h }

structure SameH (h h' : Hd) : Prop where
  size : h'.size = h.size
  count : h'.count = h.count
  m : h'.m = h.m
  po : h'.po = h.po
  n : h'.n = h.n
  cp : h'.cp = h.cp

theorem sameH_burn (h : Hd) : SameH h h.burn.2 := by
  obtain ⟨h1, h2, h3, h4, h5, h6⟩ := burn_same h
  exact ⟨h1, h2, h3, h4, h5, h6⟩
theorem sameH_fall (h : Hd) : SameH h h.fall := by
  unfold Hd.fall
  split <;> exact ⟨rfl, rfl, rfl, rfl, rfl, rfl⟩
theorem sameH_lit (h : Hd) (n : Int) : SameH h (h.lit n) := ⟨rfl, rfl, rfl, rfl, rfl, rfl⟩

theorem Dk.withH_D {d : Dk} {h : Hd} (hs : SameH d.h h) : (d.withH h).D = d.D := by
  funext k o
  simp only [Dk.D, Dk.rowD, Dk.withH, hs.size, hs.m, hs.n, hs.cp]

theorem Dk.withH_ok0 {d : Dk} {h : Hd} (hs : SameH d.h h) (ok : d.Ok0) : (d.withH h).Ok0 := by
  refine ⟨by simp only [Dk.withH, hs.size]; exact ok.sz, by simp only [Dk.withH, hs.count]; exact ok.ct, by simp only [Dk.withH, hs.n]; exact ok.nn, by simp only [Dk.withH, hs.po, hs.n, hs.cp]; exact ok.po, ?_, ?_, ?_, ?_, ?_⟩
  · simp only [Dk.withH, hs.n, hs.count]; exact ok.wi
  · simp only [Dk.rowD, Dk.withH, hs.cp]; exact ok.a1
  · simp only [Dk.rowD, Dk.withH, hs.n, hs.size, hs.cp]; exact ok.a2
  · simp only [Dk.rowD, Dk.withH, hs.size, hs.cp]; exact ok.a3
  · simp only [Dk.withH, hs.n, hs.size]; exact ok.a4

theorem Dk.withH_ok {d : Dk} {h : Hd} (hs : SameH d.h h) (ok : d.Ok) : (d.withH h).Ok :=
  ⟨Dk.withH_ok0 hs ok.toOk0, by simp only [Dk.withH, hs.n, hs.size]; exact ok.a5⟩

/-- the disk's own cells were written -/
theorem DiskAt.withH {d : Dk} {w w' : World} {h : Hd} (hD : DiskAt d w) (ok : d.Ok0) (hc : Chg (hdO d.b d.y) w w') (hh : HdAt d.b d.y h w') (hs : SameH d.h h) : DiskAt (d.withH h) w' := by
  have nh : ∀ {k o}, d.rowD k o → ¬ hdO d.b d.y k o := fun h1 h2 => ok.a1 _ _ h2 h1
  have row : ∀ o, o < d.h.cp * 2 → d.rowD d.wb (d.wy + o) := fun o ho => ⟨rfl, by omega, by omega⟩
  have nc := hD.nc
  refine ⟨by simp only [Dk.withH, hs.n, hs.cp]; exact nc, hh, hD.hf.chg hD.hd hc, ?_, ?_, ?_, ?_, ?_⟩
  · have e : (d.withH h).g = d.g := by funext q; simp only [Dk.g, Dk.withH, hs.size]
    rw [e]
    show MapAt h.m d.g w'
    rw [hs.m]
    refine hD.mp.at (objAt_chg hc hD.mp.ob fun o ⟨e1, e2, e3⟩ => ?_)
    exact hD.mapNe (k := d.b) (o := o) (by have := (hD.hd.room hD.hf (o - d.y) (by omega)).1; rwa [show d.y + (o - d.y) = o by omega] at this) e1.symm
  · simp only [Dk.withH, hs.cp]
    intro o ho
    obtain ⟨h1, h2⟩ := hD.rm o ho
    exact ⟨some_of_chg hc _ h1, by rw [frozen_of_chg hc _ h1]; exact h2⟩
  · simp only [Dk.withH, hs.n, hs.size]
    intro i hi
    obtain ⟨h1, h2⟩ := hD.rw i hi
    exact ⟨cell_of_chg hc (nh (row (i * 2) (by omega))) h1, cell_of_chg hc (by have := nh (row (i * 2 + 1) (by omega)); rwa [show d.wy + (i * 2 + 1) = d.wy + i * 2 + 1 by omega] at this) h2⟩
  · simp only [Dk.withH, hs.n, hs.size]
    intro i hi
    exact (hD.wa i hi).chg hc fun o ho => (ok.a2 i hi _ _ ho).1
  · simp only [Dk.withH, hs.size]
    intro q u hq
    exact (hD.ka q u hq).chg hc fun o ho => (ok.a3 q u hq _ _ ho).1

theorem settleK_cases {kept : Int → Option By} {ws : Nat → Int × By} {i0 : Nat} : ∀ {n : Nat} {q : Int} {u : By}, settleK kept ws i0 n q = some u → kept q = some u ∨ ∃ j, j < n ∧ (ws (i0 + j)).1 = q ∧ u = (ws (i0 + j)).2
  | 0, _, _, h => .inl h
  | n + 1, q, u, h => by
    simp only [settleK, updK] at h
    by_cases e : q = (ws (i0 + n)).1
    · rw [if_pos e] at h
      exact .inr ⟨n, by omega, e.symm, (Option.some.inj h).symm⟩
    · rw [if_neg e] at h
      rcases settleK_cases h with h | ⟨j, h1, h2⟩
      · exact .inl h
      · exact .inr ⟨j, by omega, h2⟩

/-- rows have settled -/
theorem DiskAt.settled {d : Dk} {w w' : World} {i0 n : Nat} (hD : DiskAt d w) (hn : i0 + n ≤ d.h.n) (hc : Chg (fun k _ => k = d.h.m) w w') (hm : MapAt d.h.m (d.settled i0 n).g w') : DiskAt (d.settled i0 n) w' := by
  have ne : ∀ {k o : Nat}, (w.cell? ⟨k, o, none⟩).isSome = true → ¬ k = d.h.m := fun h => hD.mapNe h
  have nc := hD.nc
  have byAt : ∀ {u : By}, u.At d.h.size w → u.At d.h.size w' := fun {u} h => h.chg hc fun o ⟨e1, e2, e3⟩ => ne (k := u.k) (o := o) (by
    have := h.bytes (o - u.y) (by omega)
    rw [show u.y + (o - u.y) = o from by omega] at this
    rw [this]; rfl)
  refine ⟨nc, hD.hd.chg hc fun o ⟨e1, e2, e3⟩ => ne (o := o) ?_, hD.hf.chg hD.hd hc, hm, fun o ho => ?_, fun i hi => ?_, fun i hi => byAt (hD.wa i hi), fun q u hq => ?_⟩
  · have := (hD.hd.room hD.hf (o - d.y) (by omega)).1
    rwa [show d.y + (o - d.y) = o by omega] at this
  · obtain ⟨h1, h2⟩ := hD.rm o ho
    show (w'.cell? ⟨d.wb, d.wy + o, none⟩).isSome = true ∧ w'.frozen? ⟨d.wb, d.wy + o, none⟩ = false
    exact ⟨some_of_chg hc _ h1, by rw [frozen_of_chg hc _ h1]; exact h2⟩
  · obtain ⟨h1, h2⟩ := hD.rw i hi
    show w'.cell? ⟨d.wb, d.wy + i * 2, none⟩ = some (.int .i64 (d.ws i).1) ∧ w'.cell? ⟨d.wb, d.wy + i * 2 + 1, none⟩ = some ((d.ws i).2.val d.h.size)
    exact ⟨cell_of_chg hc (ne (o := d.wy + i * 2) (by rw [h1]; rfl)) h1, cell_of_chg hc (ne (o := d.wy + i * 2 + 1) (by rw [h2]; rfl)) h2⟩
  · rcases settleK_cases hq with h | ⟨j, h1, _, rfl⟩
    · exact byAt (hD.ka q u h)
    · exact byAt (hD.wa (i0 + j) (by omega))

theorem Dk.settled_D {d : Dk} {i0 n : Nat} (hn : i0 + n ≤ d.h.n) {k o : Nat} (h : (d.settled i0 n).D k o) : d.D k o := by
  rcases h with h | h | h | h | ⟨q, u, hq, h⟩
  · exact .inl h
  · exact .inr (.inl h)
  · exact .inr (.inr (.inl h))
  · exact .inr (.inr (.inr (.inl h)))
  · rcases settleK_cases hq with h' | ⟨j, h1, _, rfl⟩
    · exact .inr (.inr (.inr (.inr ⟨q, u, h', h⟩)))
    · exact .inr (.inr (.inr (.inl ⟨i0 + j, by omega, h⟩)))

/-- nothing waits any more -/
def Hd.idle (h : Hd) : Hd := { h with po := none, n := 0, cp := 0 }
def Dk.idle (d : Dk) : Dk := d.withH d.h.idle

theorem Dk.idle_D {d : Dk} {k o : Nat} (h : d.idle.D k o) : d.D k o := by
  rcases h with h | h | ⟨h1, h2, h3⟩ | ⟨i, hi, h⟩ | h
  · exact .inl h
  · exact .inr (.inl h)
  · have h3 : o < d.wy + 0 * 2 := h3
    have h2 : d.wy ≤ o := h2
    omega
  · exact absurd hi (Nat.not_lt_zero _)
  · exact .inr (.inr (.inr (.inr h)))

theorem Dk.idle_ok {d : Dk} (ok : d.Ok0) : d.idle.Ok :=
  ⟨⟨ok.sz, ok.ct, Nat.zero_le _, .inl ⟨rfl, rfl, rfl⟩, fun i hi => absurd hi (Nat.not_lt_zero _), fun k o _ ⟨_, h2, h3⟩ => (by have h3 : o < d.wy + 0 * 2 := h3; have h2 : d.wy ≤ o := h2; omega),
    fun i hi => absurd hi (Nat.not_lt_zero _), fun q u hq k o h => ⟨(ok.a3 q u hq k o h).1, fun ⟨_, h2, h3⟩ => (by have h3 : o < d.wy + 0 * 2 := h3; have h2 : d.wy ≤ o := h2; omega)⟩, fun i _ hi => absurd hi (Nat.not_lt_zero _)⟩, fun i _ _ hi => absurd hi (Nat.not_lt_zero _)⟩

theorem Dk.settled_ok0 {d : Dk} {i0 n : Nat} (ok : d.Ok0) (hn : i0 + n ≤ d.h.n) : (d.settled i0 n).Ok0 :=
  ⟨ok.sz, ok.ct, ok.nn, ok.po, ok.wi, ok.a1, ok.a2, fun q u hq k o h => by
    rcases settleK_cases hq with h' | ⟨j, h1, _, rfl⟩
    · exact ok.a3 q u h' k o h
    · exact ok.a2 (i0 + j) (by omega) k o h, ok.a4⟩

theorem DiskAt.idle {d : Dk} {w : World} (hD : DiskAt d w) (ok : d.Ok0) : DiskAt d.idle (putRow w d.b (d.y + 3) [.slice none 0 0]) := by
  have h3 : w.cell? ⟨d.b, d.y + 3, none⟩ = some (.slice d.h.po d.h.n d.h.cp) := hD.hd 3 _ rfl
  have e : putRow w d.b (d.y + 3) [.slice none 0 0] = w.setCell ⟨d.b, d.y + 3, none⟩ (.slice none 0 0) := rfl
  have hc : Chg (fun k o => k = d.b ∧ o = d.y + 3) w (putRow w d.b (d.y + 3) [.slice none 0 0]) := by
    rw [e]; exact (Chg.refl _ w).setCell (.inr ⟨rfl, rfl⟩) _
  have hob : ∀ k, objAt (putRow w d.b (d.y + 3) [.slice none 0 0]) k = objAt w k := fun k => putRow_objAt _ _ _ _ _
  refine ⟨Nat.le_refl _, fun j v hj => ?_, hD.hf.chg hD.hd hc, ?_, fun o ho => absurd ho (by show ¬ o < 0 * 2; omega), fun i hi => absurd hi (Nat.not_lt_zero _), fun i hi => absurd hi (Nat.not_lt_zero _), fun q u hq => ?_⟩
  · show (putRow w d.b (d.y + 3) [.slice none 0 0]).cell? ⟨d.b, d.y + j, none⟩ = some v
    by_cases ej : j = 3
    · subst ej
      have : v = .slice none 0 0 := by simpa [Dk.idle, Dk.withH, Hd.idle, Hd.vals] using hj.symm
      rw [this, e]; exact World.cell?_setCell_same _ _ _ h3
    · have hj' : d.h.vals[j]? = some v := by
        match j, ej, hj with
        | 0, _, hj | 1, _, hj | 2, _, hj | 4, _, hj | 5, _, hj | 6, _, hj | 7, _, hj => exact hj
        | 3, ej, _ => exact absurd rfl ej
        | j + 8, _, hj => simp [Dk.idle, Dk.withH, Hd.idle, Hd.vals] at hj
      exact cell_of_chg hc (fun ⟨_, h⟩ => ej (by omega)) (hD.hd j v hj')
  · exact hD.mp.at (hob _)
  · exact (hD.ka q u hq).chg hc fun o ho h => (ok.a3 q u hq _ _ ho).1 ⟨h.1, by omega, by omega⟩

theorem DiskAt.chk {d : Dk} {w w' : World} (hD : DiskAt d w) (hc : Chg (fun _ _ => False) w w') : DiskAt d w' :=
  DiskAt.loc w w' (fun _ _ hd => ⟨same_none hc (hD.there hd).lt _, objAt_same (hc.same _ (hD.there hd).lt (fun _ h => h))⟩) hc.size hD


/-- behind a sync -/
def Dk.synced (d : Dk) : Dk := ((d.withH d.h.burn.2).settled 0 d.h.n).idle

set_option maxHeartbeats 4000000 in
set_option maxRecDepth 100000 in
set_option cbv.maxSteps 100000000 in
theorem sync_off (b y : Nat) (h : Hd) (w : World) (hh : HdAt b y h w) (ho : h.off = true) : Calls Try.prog 14 #[.pointer (some ⟨b, y, none⟩)] w fun e w' => e = .returned (.int .i64 8) ∧ Chg (fun _ _ => False) w w' := by
  refine X.begin (rg := [⟨false, h.sv, none⟩]) (N := [⟨b, y, 8⟩]) (ss := [.own 0 0]) Try.func14 rfl B14_ok rfl rfl (Sat.std1 false hh.lt (hh.cells _) (fun h => by cases h)) ?_
  obtain ⟨size, count, m, po, n, cp, off, falls, fused, fuse⟩ := h
  obtain rfl : off = true := ho
  refine X.goC FALL_ok false T14_ok 400 _ rfl Try.results14 ?_
  conv => arg 2; cbv
  refine X.done T14_ok rfl (fun N w' v hN hS hv => ?_)
  simp [resV, SV.den, SI.den] at hv
  exact ⟨by rw [← hv], hS.chg.ro1⟩

set_option maxHeartbeats 4000000 in
set_option maxRecDepth 100000 in
set_option cbv.maxSteps 100000000 in
theorem sync_ok (d : Dk) (w : World) (hD : DiskAt d w) (ok : d.Ok) (hoff : d.h.off = false) :
    Calls Try.prog 14 #[.pointer (some ⟨d.b, d.y, none⟩)] w fun e w' => ∃ d' : Dk, (d' = if d.h.burn.1 then d.withH d.h.burn.2 else d.synced) ∧ e = .returned (.int .i64 (if d.h.burn.1 then 8 else 0)) ∧ DiskAt d' w' ∧ d'.Ok ∧ Chg d.D w w' ∧ ∀ k o, d'.D k o → d.D k o := by
  obtain ⟨Q, hQ⟩ : ∃ Q : Ending → World → Prop, Q = fun e w' => ∃ d' : Dk, (d' = if d.h.burn.1 then d.withH d.h.burn.2 else d.synced) ∧ e = .returned (.int .i64 (if d.h.burn.1 then 8 else 0)) ∧ DiskAt d' w' ∧ d'.Ok ∧ Chg d.D w w' ∧ ∀ k o, d'.D k o → d.D k o := ⟨_, rfl⟩
  rw [← hQ]
  refine X.beginR d.D (DiskAt d) (ss := [.ext d.b d.y 0]) Try.func14 rfl B14_ok rfl rfl (fun k o h => hD.there h) DiskAt.loc hD ?_
  obtain ⟨im, hime⟩ : ∃ im, im = outside d.D w := ⟨_, rfl⟩
  have him : ∀ k o, d.D k o → im k o = none := fun k o h => by rw [hime]; exact outside_in h
  obtain ⟨D, hDe⟩ : ∃ D, D = d.D := ⟨_, rfl⟩
  obtain ⟨b, hb⟩ : ∃ b, b = d.b := ⟨_, rfl⟩
  obtain ⟨y, hy⟩ : ∃ y, y = d.y := ⟨_, rfl⟩
  show X (mkE Try.prog Try.f14 Q w d.D (outside d.D w) d.D (DiskAt d) [] B14) _ _
  rw [← hime, ← hDe, ← hb, ← hy]
  have hO : ∀ k o, D k o → w.heap.size ≤ k ∨ D k o := fun _ _ h => .inr h
  have himD : ∀ k o, D k o → im k o = none := fun k o h => him k o (by rw [← hDe]; exact h)
  refine X.go T14_ok 400 _ rfl Try.results14 ?_
  conv => arg 2; cbv
  refine X.call rfl rfl rfl rfl Try.call37 (fun N w1 args hN hS ha => ?_)
  have ha' : [Value.pointer (some ⟨d.b, d.y, none⟩)] = args := by simpa [SV.denL, SV.den, hb, hy] using ha
  subst ha'
  refine (may_ok d.b d.y d.h w1 hS.res.hd).mono fun e w2 ⟨he, hc⟩ => ⟨_, he, Goes.same (r := .int .i64 (.lit 0)) hN hS hc (by rw [hoff]; rfl) rfl ?_⟩
  clear ha he hc hS hN
  refine X.go T14_ok 400 _ rfl Try.results14 ?_
  conv => arg 2; cbv
  refine X.call rfl rfl rfl rfl Try.call40 (fun N w1 args hN hS ha => ?_)
  have ha' : [Value.pointer (some ⟨d.b, d.y, none⟩)] = args := by simpa [SV.denL, SV.den, hb, hy] using ha
  subst ha'
  obtain ⟨br, hbr⟩ : ∃ br, br = d.h.burn := ⟨_, rfl⟩
  have hsame := sameH_burn d.h
  rw [← hbr] at hsame
  obtain ⟨bt, h2⟩ := br
  refine (burns_ok d.b d.y d.h w1 hS.res.hd hS.res.hf).mono fun e w2 ⟨he, k1, k2⟩ => ⟨_, he, ?_⟩
  rw [← hbr] at k1 ⊢
  have hd1 := hS.res.withH ok.toOk0 k2 k1 hsame
  have hD1 : (d.withH h2).D = D := by rw [Dk.withH_D hsame, hDe]
  refine Goes.turn (r := .bool (.lit bt)) D (DiskAt (d.withH h2)) hN hS (k2.mono fun k o _ h => by show D k o; rw [hDe]; exact .inl h) hO himD (fun g hg => by simp at hg) (fun k o hk => ⟨.inl hk, hd1.there (by rw [hD1]; exact hk)⟩) (by rw [← hD1]; exact DiskAt.loc) hd1 rfl rfl ?_
  show X (mkE Try.prog Try.f14 Q w D im D (DiskAt (d.withH h2)) [] B14) _ _
  clear ha he k1 k2 hd1 hS hN
  cases bt with
  | true =>
    refine X.go T14_ok 400 _ rfl Try.results14 ?_
    conv => arg 2; cbv
    refine X.done T14_ok rfl (fun N w' v hN hS hv => ?_)
    cases hv
    rw [hQ]
    refine ⟨d.withH h2, by rw [← hbr]; rfl, by rw [← hbr]; rfl, hS.res, Dk.withH_ok hsame ok, hDe ▸ hS.chg, fun k o h => ?_⟩
    rw [hD1, hDe] at h; exact h
  | false =>
    refine X.go T14_ok 400 _ rfl Try.results14 ?_
    conv => arg 2; cbv
    obtain ⟨d1, hd1⟩ : ∃ d1, d1 = d.withH h2 := ⟨_, rfl⟩
    have ok1 : d1.Ok := by rw [hd1]; exact Dk.withH_ok hsame ok
    have e1 : d1.b = d.b := by rw [hd1]; rfl
    have e2 : d1.y = d.y := by rw [hd1]; rfl
    rw [← hd1] at hD1 ⊢
    obtain ⟨po, hpo⟩ : ∃ po, po = d1.h.po := ⟨_, rfl⟩
    obtain ⟨n, hn⟩ : ∃ n, n = d1.h.n := ⟨_, rfl⟩
    obtain ⟨cp, hcp⟩ : ∃ cp, cp = d1.h.cp := ⟨_, rfl⟩
    refine X.load1R T14_ok (r := .slv po n cp) rfl rfl rfl rfl rfl rfl (fun N w hN hR => ⟨.slice po n cp, rfl, ?_⟩) rfl ?_
    · have := hR.hd 3 _ rfl
      rw [hb, hy, ← e1, ← e2, hpo, hn, hcp]; exact this
    refine X.go T14_ok 400 _ rfl Try.results14 ?_
    conv => arg 2; cbv
    refine X.call rfl rfl rfl rfl Try.call41 (fun N w1 args hN hS ha => ?_)
    have ha' : [Value.pointer (some ⟨d1.b, d1.y, none⟩), .slice po n cp] = args := by simpa [SV.denL, SV.den, hb, hy, e1, e2] using ha
    subst ha'
    have hR := hS.res
    have hnn : 0 + n ≤ d1.h.n := by omega
    refine (settle_ok d1 0 n po cp w1 hR.hd hR.mp (by rw [hn]; exact ok1.nn) (fun h0 => ?_) (fun j hj => ?_)).mono fun e w2 ⟨he, hm, hc⟩ => ⟨_, he, ?_⟩
    · rcases ok1.po with h | h
      · omega
      · rw [hpo, h.1]; simp
    · have := hR.rw (0 + j) (by omega)
      exact this
    have hR2 := hR.settled hnn hc hm
    refine Goes.turn (r := .tup []) D (DiskAt (d1.settled 0 n)) hN hS (hc.mono fun k o _ h => by show D k o; rw [← hD1]; exact .inr (.inl h)) hO himD (fun g hg => by simp at hg) (fun k o hk => ⟨.inl hk, ?_⟩) (loc_mono DiskAt.loc fun k o h => by rw [← hD1]; exact Dk.settled_D hnn h) hR2 rfl rfl ?_
    · have : There w1 k o := hR.there (by rw [hD1]; exact hk)
      rcases this with h | h
      · exact .inl (some_of_chg hc o h)
      · by_cases ek : k = d1.h.m
        · rw [ek]; exact .inr hm.ob
        · exact .inr (by rw [objAt_chg hc h (fun _ h => ek h)]; exact h)
    show X (mkE Try.prog Try.f14 Q w D im D (DiskAt (d1.settled 0 n)) [] B14) _ _
    clear ha he hc hm hR hR2 hS hN
    refine X.go T14_ok 400 _ rfl Try.results14 ?_
    conv => arg 2; cbv
    have ok2 : (d1.settled 0 n).Ok0 := Dk.settled_ok0 ok1.toOk0 hnn
    refine X.storeR T14_ok (b := b) (o1 := y) (c := 3) (v := .raw (.slice none 0 0)) (DiskAt (d1.settled 0 n).idle) rfl rfl rfl rfl rfl rfl rfl rfl (fun j hj => ?_) hO himD (fun g hg => by simp at hg) (fun w hw j hj => ?_) (fun N w vs hN hR hv => ?_) (loc_mono DiskAt.loc fun k o h => by rw [← hD1]; exact Dk.settled_D hnn (Dk.idle_D h)) rfl ?_
    · have : j < 1 := hj
      show D b (y + 3 + j)
      rw [hDe]
      exact .inl ⟨hb, by omega, by omega⟩
    · have hj1 : j < 1 := hj
      obtain rfl : j = 0 := by omega
      have hr := hw.hd.room hw.hf 3 (by decide)
      rw [hb, hy, ← e1, ← e2]; exact hr
    · have hv' : [Value.slice none 0 0] = vs := Option.some.inj hv
      rw [← hv', hb, hy, ← e1, ← e2]
      exact hR.idle ok2
    show X (mkE Try.prog Try.f14 Q w D im D (DiskAt (d1.settled 0 n).idle) [] B14) _ _
    refine X.go T14_ok 400 _ rfl Try.results14 ?_
    conv => arg 2; cbv
    refine X.done T14_ok rfl (fun N w' v hN hS hv => ?_)
    cases hv
    rw [hQ]
    have hd2 : (d1.settled 0 n).idle = d.synced := by
      unfold Dk.synced
      rw [← hbr, hn, hd1]
      show _ = ((d.withH h2).settled 0 d.h.n).idle
      rw [show (d.withH h2).h.n = d.h.n from hsame.n]
    refine ⟨d.synced, by rw [← hbr]; rfl, by rw [← hbr]; rfl, hd2 ▸ hS.res, hd2 ▸ Dk.idle_ok ok2, hDe ▸ hS.chg, fun k o h => ?_⟩
    rw [← hd2] at h
    rw [← hDe, ← hD1]; exact Dk.settled_D hnn (Dk.idle_D h)

end Go.Proofs.Ytkjhpaeminegoaa
