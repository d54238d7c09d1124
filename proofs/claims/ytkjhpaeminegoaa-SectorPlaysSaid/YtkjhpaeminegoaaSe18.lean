import Derived.Test.YtkjhpaeminegoaaSe9
import Derived.Deep.Slices
import Derived.ChangeArms
import Derived.KernelRfl
import Derived.Test.YtkjhpaeminegoaaEB
import Derived.ProofKit
import Derived.Laws.BytesArg

namespace Go.Proofs.Ytkjhpaeminegoaa
open Go.Eng
theorem loc_mono {D D' : Nat → Nat → Prop} {R : World → Prop} (h : Eng.Loc D R) (hD : ∀ k o, D k o → D' k o) : Eng.Loc D' R := fun w w' hs hl hR => h w w' (fun k o hd => hs k o (hD k o hd)) hl hR
def Dk.withH (d : Dk) (h : Hd) : Dk := { d with h := h }
structure SameH (h h' : Hd) : Prop where
  size : h'.size = h.size
  count : h'.count = h.count
  m : h'.m = h.m
  po : h'.po = h.po
  n : h'.n = h.n
  cp : h'.cp = h.cp
theorem sameH_burn (h : Hd) : SameH h h.burn.2 := by
  obtain ⟨h1, h2, h3, h4, h5, h6⟩ := burn_same h
  exact ⟨h1, h2, h3, h4, h5, h6⟩
theorem sameH_fall (h : Hd) : SameH h h.fall := by
  unfold Hd.fall
  split <;> exact ⟨rfl, rfl, rfl, rfl, rfl, rfl⟩
theorem sameH_lit (h : Hd) (n : Int) : SameH h (h.lit n) := ⟨rfl, rfl, rfl, rfl, rfl, rfl⟩
theorem Dk.withH_D {d : Dk} {h : Hd} (hs : SameH d.h h) : (d.withH h).D = d.D := by
  funext k o
  simp only [Dk.D, Dk.rowD, Dk.withH, hs.size, hs.m, hs.n, hs.cp]
theorem Dk.withH_ok0 {d : Dk} {h : Hd} (hs : SameH d.h h) (ok : d.Ok0) : (d.withH h).Ok0 := by
  refine ⟨by simp only [Dk.withH, hs.size]; exact ok.sz, by simp only [Dk.withH, hs.count]; exact ok.ct, by simp only [Dk.withH, hs.n]; exact ok.nn, by simp only [Dk.withH, hs.po, hs.n, hs.cp]; exact ok.po, ?_, ?_, ?_, ?_, ?_⟩
  · simp only [Dk.withH, hs.n, hs.count]; exact ok.wi
  · simp only [Dk.rowD, Dk.withH, hs.cp]; exact ok.a1
  · simp only [Dk.rowD, Dk.withH, hs.n, hs.size, hs.cp]; exact ok.a2
  · simp only [Dk.rowD, Dk.withH, hs.size, hs.cp]; exact ok.a3
  · simp only [Dk.withH, hs.n, hs.size]; exact ok.a4
theorem Dk.withH_ok {d : Dk} {h : Hd} (hs : SameH d.h h) (ok : d.Ok) : (d.withH h).Ok :=
  ⟨Dk.withH_ok0 hs ok.toOk0, by simp only [Dk.withH, hs.n, hs.size]; exact ok.a5⟩
theorem DiskAt.withH {d : Dk} {w w' : World} {h : Hd} (hD : DiskAt d w) (ok : d.Ok0) (hc : Chg (hdO d.b d.y) w w') (hh : HdAt d.b d.y h w') (hs : SameH d.h h) : DiskAt (d.withH h) w' := by
  have nh : ∀ {k o}, d.rowD k o → ¬ hdO d.b d.y k o := fun h1 h2 => ok.a1 _ _ h2 h1
  have row : ∀ o, o < d.h.cp * 2 → d.rowD d.wb (d.wy + o) := fun o ho => ⟨rfl, by omega, by omega⟩
  have nc := hD.nc
  refine ⟨by simp only [Dk.withH, hs.n, hs.cp]; exact nc, hh, hD.hf.chg hD.hd hc, ?_, ?_, ?_, ?_, ?_⟩
  · have e : (d.withH h).g = d.g := by funext q; simp only [Dk.g, Dk.withH, hs.size]
    rw [e]
    show MapAt h.m d.g w'
    rw [hs.m]
    refine hD.mp.at (objAt_chg hc hD.mp.ob fun o ⟨e1, e2, e3⟩ => ?_)
    exact hD.mapNe (k := d.b) (o := o) (by have := (hD.hd.room hD.hf (o - d.y) (by omega)).1; rwa [show d.y + (o - d.y) = o by omega] at this) e1.symm
  · simp only [Dk.withH, hs.cp]
    intro o ho
    obtain ⟨h1, h2⟩ := hD.rm o ho
    exact ⟨some_of_chg hc _ h1, by rw [frozen_of_chg hc _ h1]; exact h2⟩
  · simp only [Dk.withH, hs.n, hs.size]
    intro i hi
    obtain ⟨h1, h2⟩ := hD.rw i hi
    exact ⟨cell_of_chg hc (nh (row (i * 2) (by omega))) h1, cell_of_chg hc (by have := nh (row (i * 2 + 1) (by omega)); rwa [show d.wy + (i * 2 + 1) = d.wy + i * 2 + 1 by omega] at this) h2⟩
  · simp only [Dk.withH, hs.n, hs.size]
    intro i hi
    exact (hD.wa i hi).chg hc fun o ho => (ok.a2 i hi _ _ ho).1
  · simp only [Dk.withH, hs.size]
    intro q u hq
    exact (hD.ka q u hq).chg hc fun o ho => (ok.a3 q u hq _ _ ho).1
theorem settleK_cases {kept : Int → Option By} {ws : Nat → Int × By} {i0 : Nat} : ∀ {n : Nat} {q : Int} {u : By}, settleK kept ws i0 n q = some u → kept q = some u ∨ ∃ j, j < n ∧ (ws (i0 + j)).1 = q ∧ u = (ws (i0 + j)).2
  | 0, _, _, h => .inl h
  | n + 1, q, u, h => by
    simp only [settleK, updK] at h
    by_cases e : q = (ws (i0 + n)).1
    · rw [if_pos e] at h
      exact .inr ⟨n, by omega, e.symm, (Option.some.inj h).symm⟩
    · rw [if_neg e] at h
      rcases settleK_cases h with h | ⟨j, h1, h2⟩
      · exact .inl h
      · exact .inr ⟨j, by omega, h2⟩
theorem DiskAt.settled {d : Dk} {w w' : World} {i0 n : Nat} (hD : DiskAt d w) (hn : i0 + n ≤ d.h.n) (hc : Chg (fun k _ => k = d.h.m) w w') (hm : MapAt d.h.m (d.settled i0 n).g w') : DiskAt (d.settled i0 n) w' := by
  have ne : ∀ {k o : Nat}, (w.cell? ⟨k, o, none⟩).isSome = true → ¬ k = d.h.m := fun h => hD.mapNe h
  have nc := hD.nc
  have byAt : ∀ {u : By}, u.At d.h.size w → u.At d.h.size w' := fun {u} h => h.chg hc fun o ⟨e1, e2, e3⟩ => ne (k := u.k) (o := o) (by
    have := h.bytes (o - u.y) (by omega)
    rw [show u.y + (o - u.y) = o from by omega] at this
    rw [this]; rfl)
  refine ⟨nc, hD.hd.chg hc fun o ⟨e1, e2, e3⟩ => ne (o := o) ?_, hD.hf.chg hD.hd hc, hm, fun o ho => ?_, fun i hi => ?_, fun i hi => byAt (hD.wa i hi), fun q u hq => ?_⟩
  · have := (hD.hd.room hD.hf (o - d.y) (by omega)).1
    rwa [show d.y + (o - d.y) = o by omega] at this
  · obtain ⟨h1, h2⟩ := hD.rm o ho
    show (w'.cell? ⟨d.wb, d.wy + o, none⟩).isSome = true ∧ w'.frozen? ⟨d.wb, d.wy + o, none⟩ = false
    exact ⟨some_of_chg hc _ h1, by rw [frozen_of_chg hc _ h1]; exact h2⟩
  · obtain ⟨h1, h2⟩ := hD.rw i hi
    show w'.cell? ⟨d.wb, d.wy + i * 2, none⟩ = some (.int .i64 (d.ws i).1) ∧ w'.cell? ⟨d.wb, d.wy + i * 2 + 1, none⟩ = some ((d.ws i).2.val d.h.size)
    exact ⟨cell_of_chg hc (ne (o := d.wy + i * 2) (by rw [h1]; rfl)) h1, cell_of_chg hc (ne (o := d.wy + i * 2 + 1) (by rw [h2]; rfl)) h2⟩
  · rcases settleK_cases hq with h | ⟨j, h1, _, rfl⟩
    · exact byAt (hD.ka q u h)
    · exact byAt (hD.wa (i0 + j) (by omega))
theorem Dk.settled_D {d : Dk} {i0 n : Nat} (hn : i0 + n ≤ d.h.n) {k o : Nat} (h : (d.settled i0 n).D k o) : d.D k o := by
  rcases h with h | h | h | h | ⟨q, u, hq, h⟩
  · exact .inl h
  · exact .inr (.inl h)
  · exact .inr (.inr (.inl h))
  · exact .inr (.inr (.inr (.inl h)))
  · rcases settleK_cases hq with h' | ⟨j, h1, _, rfl⟩
    · exact .inr (.inr (.inr (.inr ⟨q, u, h', h⟩)))
    · exact .inr (.inr (.inr (.inl ⟨i0 + j, by omega, h⟩)))
def Hd.idle (h : Hd) : Hd := { h with po := none, n := 0, cp := 0 }
def Dk.idle (d : Dk) : Dk := d.withH d.h.idle
theorem Dk.idle_D {d : Dk} {k o : Nat} (h : d.idle.D k o) : d.D k o := by
  rcases h with h | h | ⟨h1, h2, h3⟩ | ⟨i, hi, h⟩ | h
  · exact .inl h
  · exact .inr (.inl h)
  · have h3 : o < d.wy + 0 * 2 := h3
    have h2 : d.wy ≤ o := h2
    omega
  · exact absurd hi (Nat.not_lt_zero _)
  · exact .inr (.inr (.inr (.inr h)))
theorem Dk.idle_ok {d : Dk} (ok : d.Ok0) : d.idle.Ok :=
  ⟨⟨ok.sz, ok.ct, Nat.zero_le _, .inl ⟨rfl, rfl, rfl⟩, fun i hi => absurd hi (Nat.not_lt_zero _), fun k o _ ⟨_, h2, h3⟩ => (by have h3 : o < d.wy + 0 * 2 := h3; have h2 : d.wy ≤ o := h2; omega),
    fun i hi => absurd hi (Nat.not_lt_zero _), fun q u hq k o h => ⟨(ok.a3 q u hq k o h).1, fun ⟨_, h2, h3⟩ => (by have h3 : o < d.wy + 0 * 2 := h3; have h2 : d.wy ≤ o := h2; omega)⟩, fun i _ hi => absurd hi (Nat.not_lt_zero _)⟩, fun i _ _ hi => absurd hi (Nat.not_lt_zero _)⟩
theorem Dk.settled_ok0 {d : Dk} {i0 n : Nat} (ok : d.Ok0) (hn : i0 + n ≤ d.h.n) : (d.settled i0 n).Ok0 :=
  ⟨ok.sz, ok.ct, ok.nn, ok.po, ok.wi, ok.a1, ok.a2, fun q u hq k o h => by
    rcases settleK_cases hq with h' | ⟨j, h1, _, rfl⟩
    · exact ok.a3 q u h' k o h
    · exact ok.a2 (i0 + j) (by omega) k o h, ok.a4⟩
theorem DiskAt.idle {d : Dk} {w : World} (hD : DiskAt d w) (ok : d.Ok0) : DiskAt d.idle (putRow w d.b (d.y + 3) [.slice none 0 0]) := by
  have h3 : w.cell? ⟨d.b, d.y + 3, none⟩ = some (.slice d.h.po d.h.n d.h.cp) := hD.hd 3 _ rfl
  have e : putRow w d.b (d.y + 3) [.slice none 0 0] = w.setCell ⟨d.b, d.y + 3, none⟩ (.slice none 0 0) := rfl
  have hc : Chg (fun k o => k = d.b ∧ o = d.y + 3) w (putRow w d.b (d.y + 3) [.slice none 0 0]) := by
    rw [e]; exact (Chg.refl _ w).setCell (.inr ⟨rfl, rfl⟩) _
  have hob : ∀ k, objAt (putRow w d.b (d.y + 3) [.slice none 0 0]) k = objAt w k := fun k => putRow_objAt _ _ _ _ _
  refine ⟨Nat.le_refl _, fun j v hj => ?_, hD.hf.chg hD.hd hc, ?_, fun o ho => absurd ho (by show ¬ o < 0 * 2; omega), fun i hi => absurd hi (Nat.not_lt_zero _), fun i hi => absurd hi (Nat.not_lt_zero _), fun q u hq => ?_⟩
  · show (putRow w d.b (d.y + 3) [.slice none 0 0]).cell? ⟨d.b, d.y + j, none⟩ = some v
    by_cases ej : j = 3
    · subst ej
      have : v = .slice none 0 0 := by simpa [Dk.idle, Dk.withH, Hd.idle, Hd.vals] using hj.symm
      rw [this, e]; exact World.cell?_setCell_same _ _ _ h3
    · have hj' : d.h.vals[j]? = some v := by
        match j, ej, hj with
        | 0, _, hj | 1, _, hj | 2, _, hj | 4, _, hj | 5, _, hj | 6, _, hj | 7, _, hj => exact hj
        | 3, ej, _ => exact absurd rfl ej
        | j + 8, _, hj => simp [Dk.idle, Dk.withH, Hd.idle, Hd.vals] at hj
      exact cell_of_chg hc (fun ⟨_, h⟩ => ej (by omega)) (hD.hd j v hj')
  · exact hD.mp.at (hob _)
  · exact (hD.ka q u hq).chg hc fun o ho h => (ok.a3 q u hq _ _ ho).1 ⟨h.1, by omega, by omega⟩
theorem DiskAt.chk {d : Dk} {w w' : World} (hD : DiskAt d w) (hc : Chg (fun _ _ => False) w w') : DiskAt d w' :=
  DiskAt.loc w w' (fun _ _ hd => ⟨same_none hc (hD.there hd).lt _, objAt_same (hc.same _ (hD.there hd).lt (fun _ h => h))⟩) hc.size hD
def Dk.synced (d : Dk) : Dk := ((d.withH d.h.burn.2).settled 0 d.h.n).idle
set_option maxHeartbeats 4000000 in
set_option maxRecDepth 100000 in
set_option cbv.maxSteps 100000000 in
theorem sync_off (b y : Nat) (h : Hd) (w : World) (hh : HdAt b y h w) (ho : h.off = true) : Calls Try.prog 14 #[.pointer (some ⟨b, y, none⟩)] w fun e w' => e = .returned (.int .i64 8) ∧ Chg (fun _ _ => False) w w' := by
  refine X.begin (rg := [⟨false, h.sv, none⟩]) (N := [⟨b, y, 8⟩]) (ss := [.own 0 0]) Try.func14 rfl B14_ok rfl rfl (Sat.std1 false hh.lt (hh.cells _) (fun h => by cases h)) ?_
  obtain ⟨size, count, m, po, n, cp, off, falls, fused, fuse⟩ := h
  obtain rfl : off = true := ho
  refine X.goC FALL_ok false T14_ok 400 _ rfl Try.results14 ?_
  conv => arg 2; cbv
  refine X.done T14_ok rfl (fun N w' v hN hS hv => ?_)
  simp [resV, SV.den, SI.den] at hv
  exact ⟨by rw [← hv], hS.chg.ro1⟩
set_option maxHeartbeats 4000000 in
set_option maxRecDepth 100000 in
set_option cbv.maxSteps 100000000 in
theorem sync_ok (d : Dk) (w : World) (hD : DiskAt d w) (ok : d.Ok) (hoff : d.h.off = false) :
    Calls Try.prog 14 #[.pointer (some ⟨d.b, d.y, none⟩)] w fun e w' => ∃ d' : Dk, (d' = if d.h.burn.1 then d.withH d.h.burn.2 else d.synced) ∧ e = .returned (.int .i64 (if d.h.burn.1 then 8 else 0)) ∧ DiskAt d' w' ∧ d'.Ok ∧ Chg d.D w w' ∧ ∀ k o, d'.D k o → d.D k o := by
  obtain ⟨Q, hQ⟩ : ∃ Q : Ending → World → Prop, Q = fun e w' => ∃ d' : Dk, (d' = if d.h.burn.1 then d.withH d.h.burn.2 else d.synced) ∧ e = .returned (.int .i64 (if d.h.burn.1 then 8 else 0)) ∧ DiskAt d' w' ∧ d'.Ok ∧ Chg d.D w w' ∧ ∀ k o, d'.D k o → d.D k o := ⟨_, rfl⟩
  rw [← hQ]
  refine X.beginR d.D (DiskAt d) (ss := [.ext d.b d.y 0]) Try.func14 rfl B14_ok rfl rfl (fun k o h => hD.there h) DiskAt.loc hD ?_
  obtain ⟨im, hime⟩ : ∃ im, im = outside d.D w := ⟨_, rfl⟩
  have him : ∀ k o, d.D k o → im k o = none := fun k o h => by rw [hime]; exact outside_in h
  obtain ⟨D, hDe⟩ : ∃ D, D = d.D := ⟨_, rfl⟩
  obtain ⟨b, hb⟩ : ∃ b, b = d.b := ⟨_, rfl⟩
  obtain ⟨y, hy⟩ : ∃ y, y = d.y := ⟨_, rfl⟩
  show X (mkE Try.prog Try.f14 Q w d.D (outside d.D w) d.D (DiskAt d) [] B14) _ _
  rw [← hime, ← hDe, ← hb, ← hy]
  have hO : ∀ k o, D k o → w.heap.size ≤ k ∨ D k o := fun _ _ h => .inr h
  have himD : ∀ k o, D k o → im k o = none := fun k o h => him k o (by rw [← hDe]; exact h)
  refine X.go T14_ok 400 _ rfl Try.results14 ?_
  conv => arg 2; cbv
  refine X.call rfl rfl rfl rfl Try.call37 (fun N w1 args hN hS ha => ?_)
  have ha' : [Value.pointer (some ⟨d.b, d.y, none⟩)] = args := by simpa [SV.denL, SV.den, hb, hy] using ha
  subst ha'
  refine (may_ok d.b d.y d.h w1 hS.res.hd).mono fun e w2 ⟨he, hc⟩ => ⟨_, he, Goes.same (r := .int .i64 (.lit 0)) hN hS hc (by rw [hoff]; rfl) rfl ?_⟩
  clear ha he hc hS hN
  refine X.go T14_ok 400 _ rfl Try.results14 ?_
  conv => arg 2; cbv
  refine X.call rfl rfl rfl rfl Try.call40 (fun N w1 args hN hS ha => ?_)
  have ha' : [Value.pointer (some ⟨d.b, d.y, none⟩)] = args := by simpa [SV.denL, SV.den, hb, hy] using ha
  subst ha'
  obtain ⟨br, hbr⟩ : ∃ br, br = d.h.burn := ⟨_, rfl⟩
  have hsame := sameH_burn d.h
  rw [← hbr] at hsame
  obtain ⟨bt, h2⟩ := br
  refine (burns_ok d.b d.y d.h w1 hS.res.hd hS.res.hf).mono fun e w2 ⟨he, k1, k2⟩ => ⟨_, he, ?_⟩
  rw [← hbr] at k1 ⊢
  have hd1 := hS.res.withH ok.toOk0 k2 k1 hsame
  have hD1 : (d.withH h2).D = D := by rw [Dk.withH_D hsame, hDe]
  refine Goes.turn (r := .bool (.lit bt)) D (DiskAt (d.withH h2)) hN hS (k2.mono fun k o _ h => by show D k o; rw [hDe]; exact .inl h) hO himD (fun g hg => by simp at hg) (fun k o hk => ⟨.inl hk, hd1.there (by rw [hD1]; exact hk)⟩) (by rw [← hD1]; exact DiskAt.loc) hd1 rfl rfl ?_
  show X (mkE Try.prog Try.f14 Q w D im D (DiskAt (d.withH h2)) [] B14) _ _
  clear ha he k1 k2 hd1 hS hN
  cases bt with
  | true =>
    refine X.go T14_ok 400 _ rfl Try.results14 ?_
    conv => arg 2; cbv
    refine X.done T14_ok rfl (fun N w' v hN hS hv => ?_)
    cases hv
    rw [hQ]
    refine ⟨d.withH h2, by rw [← hbr]; rfl, by rw [← hbr]; rfl, hS.res, Dk.withH_ok hsame ok, hDe ▸ hS.chg, fun k o h => ?_⟩
    rw [hD1, hDe] at h; exact h
  | false =>
    refine X.go T14_ok 400 _ rfl Try.results14 ?_
    conv => arg 2; cbv
    obtain ⟨d1, hd1⟩ : ∃ d1, d1 = d.withH h2 := ⟨_, rfl⟩
    have ok1 : d1.Ok := by rw [hd1]; exact Dk.withH_ok hsame ok
    have e1 : d1.b = d.b := by rw [hd1]; rfl
    have e2 : d1.y = d.y := by rw [hd1]; rfl
    rw [← hd1] at hD1 ⊢
    obtain ⟨po, hpo⟩ : ∃ po, po = d1.h.po := ⟨_, rfl⟩
    obtain ⟨n, hn⟩ : ∃ n, n = d1.h.n := ⟨_, rfl⟩
    obtain ⟨cp, hcp⟩ : ∃ cp, cp = d1.h.cp := ⟨_, rfl⟩
    refine X.load1R T14_ok (r := .slv po n cp) rfl rfl rfl rfl rfl rfl (fun N w hN hR => ⟨.slice po n cp, rfl, ?_⟩) rfl ?_
    · have := hR.hd 3 _ rfl
      rw [hb, hy, ← e1, ← e2, hpo, hn, hcp]; exact this
    refine X.go T14_ok 400 _ rfl Try.results14 ?_
    conv => arg 2; cbv
    refine X.call rfl rfl rfl rfl Try.call41 (fun N w1 args hN hS ha => ?_)
    have ha' : [Value.pointer (some ⟨d1.b, d1.y, none⟩), .slice po n cp] = args := by simpa [SV.denL, SV.den, hb, hy, e1, e2] using ha
    subst ha'
    have hR := hS.res
    have hnn : 0 + n ≤ d1.h.n := by omega
    refine (settle_ok d1 0 n po cp w1 hR.hd hR.mp (by rw [hn]; exact ok1.nn) (fun h0 => ?_) (fun j hj => ?_)).mono fun e w2 ⟨he, hm, hc⟩ => ⟨_, he, ?_⟩
    · rcases ok1.po with h | h
      · omega
      · rw [hpo, h.1]; simp
    · have := hR.rw (0 + j) (by omega)
      exact this
    have hR2 := hR.settled hnn hc hm
    refine Goes.turn (r := .tup []) D (DiskAt (d1.settled 0 n)) hN hS (hc.mono fun k o _ h => by show D k o; rw [← hD1]; exact .inr (.inl h)) hO himD (fun g hg => by simp at hg) (fun k o hk => ⟨.inl hk, ?_⟩) (loc_mono DiskAt.loc fun k o h => by rw [← hD1]; exact Dk.settled_D hnn h) hR2 rfl rfl ?_
    · have : There w1 k o := hR.there (by rw [hD1]; exact hk)
      rcases this with h | h
      · exact .inl (some_of_chg hc o h)
      · by_cases ek : k = d1.h.m
        · rw [ek]; exact .inr hm.ob
        · exact .inr (by rw [objAt_chg hc h (fun _ h => ek h)]; exact h)
    show X (mkE Try.prog Try.f14 Q w D im D (DiskAt (d1.settled 0 n)) [] B14) _ _
    clear ha he hc hm hR hR2 hS hN
    refine X.go T14_ok 400 _ rfl Try.results14 ?_
    conv => arg 2; cbv
    have ok2 : (d1.settled 0 n).Ok0 := Dk.settled_ok0 ok1.toOk0 hnn
    refine X.storeR T14_ok (b := b) (o1 := y) (c := 3) (v := .raw (.slice none 0 0)) (DiskAt (d1.settled 0 n).idle) rfl rfl rfl rfl rfl rfl rfl rfl (fun j hj => ?_) hO himD (fun g hg => by simp at hg) (fun w hw j hj => ?_) (fun N w vs hN hR hv => ?_) (loc_mono DiskAt.loc fun k o h => by rw [← hD1]; exact Dk.settled_D hnn (Dk.idle_D h)) rfl ?_
    · have : j < 1 := hj
      show D b (y + 3 + j)
      rw [hDe]
      exact .inl ⟨hb, by omega, by omega⟩
    · have hj1 : j < 1 := hj
      obtain rfl : j = 0 := by omega
      have hr := hw.hd.room hw.hf 3 (by decide)
      rw [hb, hy, ← e1, ← e2]; exact hr
    · have hv' : [Value.slice none 0 0] = vs := Option.some.inj hv
      rw [← hv', hb, hy, ← e1, ← e2]
      exact hR.idle ok2
    show X (mkE Try.prog Try.f14 Q w D im D (DiskAt (d1.settled 0 n).idle) [] B14) _ _
    refine X.go T14_ok 400 _ rfl Try.results14 ?_
    conv => arg 2; cbv
    refine X.done T14_ok rfl (fun N w' v hN hS hv => ?_)
    cases hv
    rw [hQ]
    have hd2 : (d1.settled 0 n).idle = d.synced := by
      unfold Dk.synced
      rw [← hbr, hn, hd1]
      show _ = ((d.withH h2).settled 0 d.h.n).idle
      rw [show (d.withH h2).h.n = d.h.n from hsame.n]
    refine ⟨d.synced, by rw [← hbr]; rfl, by rw [← hbr]; rfl, hd2 ▸ hS.res, hd2 ▸ Dk.idle_ok ok2, hDe ▸ hS.chg, fun k o h => ?_⟩
    rw [← hd2] at h
    rw [← hDe, ← hD1]; exact Dk.settled_D hnn (Dk.idle_D h)
end Go.Proofs.Ytkjhpaeminegoaa

namespace Go.Proofs.Ytkjhpaeminegoaa
open Go.Eng
def Dk.restD (d : Dk) (k o : Nat) : Prop := k = d.h.m ∨ d.rowD k o ∨ (∃ i, i < d.h.n ∧ (d.ws i).2.D d.h.size k o) ∨ ∃ q u, d.kept q = some u ∧ u.D d.h.size k o
structure RestAt (d : Dk) (w : World) : Prop where
  nc : d.h.n ≤ d.h.cp
  mp : MapAt d.h.m d.g w
  rm : ∀ o, o < d.h.cp * 2 → (w.cell? ⟨d.wb, d.wy + o, none⟩).isSome = true ∧ w.frozen? ⟨d.wb, d.wy + o, none⟩ = false
  rw : ∀ i, i < d.h.n → w.cell? ⟨d.wb, d.wy + i * 2, none⟩ = some (.int .i64 (d.ws i).1) ∧ w.cell? ⟨d.wb, d.wy + i * 2 + 1, none⟩ = some ((d.ws i).2.val d.h.size)
  wa : ∀ i, i < d.h.n → (d.ws i).2.At d.h.size w
  ka : ∀ q u, d.kept q = some u → u.At d.h.size w
theorem DiskAt.rest {d : Dk} {w : World} (h : DiskAt d w) : RestAt d w := ⟨h.nc, h.mp, h.rm, h.rw, h.wa, h.ka⟩
theorem RestAt.loc {d : Dk} : Eng.Loc d.restD (RestAt d) := by
  intro w w' hs _ h
  have cl : ∀ {k o}, d.restD k o → w'.cell? ⟨k, o, none⟩ = w.cell? ⟨k, o, none⟩ ∧ w'.frozen? ⟨k, o, none⟩ = w.frozen? ⟨k, o, none⟩ := fun hd => (hs _ _ hd).1
  have hn := h.nc
  refine ⟨hn, h.mp.at (hs d.h.m 0 (.inl rfl)).2, fun o ho => ?_, fun i hi => ?_, fun i hi => (h.wa i hi).at fun o ho => cl (.inr (.inr (.inl ⟨i, hi, ho⟩))), fun q u hq => (h.ka q u hq).at fun o ho => cl (.inr (.inr (.inr ⟨q, u, hq, ho⟩)))⟩
  · obtain ⟨e1, e2⟩ := cl (k := d.wb) (o := d.wy + o) (.inr (.inl ⟨rfl, by omega, by omega⟩))
    rw [e1, e2]; exact h.rm o ho
  · have e1 := (cl (k := d.wb) (o := d.wy + i * 2) (.inr (.inl ⟨rfl, by omega, by omega⟩))).1
    have e2 := (cl (k := d.wb) (o := d.wy + i * 2 + 1) (.inr (.inl ⟨rfl, by omega, by omega⟩))).1
    rw [e1, e2]; exact h.rw i hi
theorem RestAt.there {d : Dk} {w : World} (h : RestAt d w) {k o : Nat} (hd : d.restD k o) : There w k o := by
  rcases hd with rfl | ⟨rfl, h1, h2⟩ | ⟨i, hi, hd⟩ | ⟨q, u, hq, hd⟩
  · exact .inr h.mp.ob
  · have := (h.rm (o - d.wy) (by omega)).1
    rw [show d.wy + (o - d.wy) = o by omega] at this
    exact .inl this
  · exact (h.wa i hi).there hd
  · exact (h.ka q u hq).there hd
theorem Dk.restD_D {d : Dk} {k o : Nat} (h : d.restD k o) : d.D k o := .inr h
theorem RestAt.mapNe {d : Dk} {w : World} (h : RestAt d w) {k o : Nat} (hc : (w.cell? ⟨k, o, none⟩).isSome = true) : k ≠ d.h.m := fun e => by
  obtain ⟨x, hx⟩ := Option.isSome_iff_exists.1 h.mp.ob
  rw [e, cell_obj hx] at hc; cases hc
theorem RestAt.settled {d : Dk} {w w' : World} {i0 n : Nat} (hD : RestAt d w) (hn : i0 + n ≤ d.h.n) (hc : Chg (fun k _ => k = d.h.m) w w') (hm : MapAt d.h.m (d.settled i0 n).g w') : RestAt (d.settled i0 n) w' := by
  have ne : ∀ {k o : Nat}, (w.cell? ⟨k, o, none⟩).isSome = true → ¬ k = d.h.m := fun h => hD.mapNe h
  have nc := hD.nc
  have byAt : ∀ {u : By}, u.At d.h.size w → u.At d.h.size w' := fun {u} h => h.chg hc fun o ⟨e1, e2, e3⟩ => ne (k := u.k) (o := o) (by
    have := h.bytes (o - u.y) (by omega)
    rw [show u.y + (o - u.y) = o from by omega] at this
    rw [this]; rfl)
  refine ⟨nc, hm, fun o ho => ?_, fun i hi => ?_, fun i hi => byAt (hD.wa i hi), fun q u hq => ?_⟩
  · obtain ⟨h1, h2⟩ := hD.rm o ho
    show (w'.cell? ⟨d.wb, d.wy + o, none⟩).isSome = true ∧ w'.frozen? ⟨d.wb, d.wy + o, none⟩ = false
    exact ⟨some_of_chg hc _ h1, by rw [frozen_of_chg hc _ h1]; exact h2⟩
  · obtain ⟨h1, h2⟩ := hD.rw i hi
    show w'.cell? ⟨d.wb, d.wy + i * 2, none⟩ = some (.int .i64 (d.ws i).1) ∧ w'.cell? ⟨d.wb, d.wy + i * 2 + 1, none⟩ = some ((d.ws i).2.val d.h.size)
    exact ⟨cell_of_chg hc (ne (o := d.wy + i * 2) (by rw [h1]; rfl)) h1, cell_of_chg hc (ne (o := d.wy + i * 2 + 1) (by rw [h2]; rfl)) h2⟩
  · rcases settleK_cases hq with h | ⟨j, h1, _, rfl⟩
    · exact byAt (hD.ka q u h)
    · exact byAt (hD.wa (i0 + j) (by omega))
theorem Dk.settled_restD {d : Dk} {i0 n : Nat} (hn : i0 + n ≤ d.h.n) {k o : Nat} (h : (d.settled i0 n).restD k o) : d.restD k o := by
  rcases h with h | h | h | ⟨q, u, hq, h⟩
  · exact .inl h
  · exact .inr (.inl h)
  · exact .inr (.inr (.inl h))
  · rcases settleK_cases hq with h' | ⟨j, h1, _, rfl⟩
    · exact .inr (.inr (.inr ⟨q, u, h', h⟩))
    · exact .inr (.inr (.inl ⟨i0 + j, by omega, h⟩))
def Hd.backed (h : Hd) : Hd := { h.fall with po := none, n := 0, cp := 0, off := false, fused := false }
theorem Hd.backed_same (h : Hd) : h.backed.size = h.size ∧ h.backed.count = h.count ∧ h.backed.m = h.m ∧ h.backed.n = 0 ∧ h.backed.cp = 0 ∧ h.backed.po = none := by
  obtain ⟨size, count, m, po, n, cp, off, falls, fused, fuse⟩ := h
  cases off <;> simp [Hd.backed, Hd.fall]
theorem RestAt.back {d : Dk} {w : World} (h : RestAt d w) (hh : HdAt d.b d.y d.h.backed w) (hf : HdFree d.b d.y w) : DiskAt (d.withH d.h.backed) w := by
  obtain ⟨e1, e2, e3, e4, e5, e6⟩ := d.h.backed_same
  have hg : (d.withH d.h.backed).g = d.g := by funext q; simp [Dk.g, Dk.withH, e1]
  refine ⟨by simp [Dk.withH, e4], hh, hf, ?_, fun o ho => ?_, fun i hi => ?_, fun i hi => ?_, fun q u hq => ?_⟩
  · rw [hg]; show MapAt d.h.backed.m _ _; rw [e3]; exact h.mp
  · simp [Dk.withH, e5] at ho
  · simp [Dk.withH, e4] at hi
  · simp [Dk.withH, e4] at hi
  · simp only [Dk.withH, e1] at hq ⊢; exact h.ka q u hq
theorem Dk.backed_ok {d : Dk} (ok : d.Ok0) : (d.withH d.h.backed).Ok := by
  obtain ⟨e1, e2, e3, e4, e5, e6⟩ := d.h.backed_same
  have nr : ∀ k o, ¬ (d.withH d.h.backed).rowD k o := fun k o ⟨_, h2, h3⟩ => by simp only [Dk.withH, e5] at h2 h3; omega
  have nn : ∀ i, ¬ i < (d.withH d.h.backed).h.n := fun i hi => by simp [Dk.withH, e4] at hi
  refine ⟨⟨?_, ?_, ?_, .inl ⟨e6, e4, e5⟩, fun i hi => absurd hi (nn i), fun k o _ h => nr k o h, fun i hi => absurd hi (nn i), fun q u hq k o h => ⟨?_, nr k o⟩, fun i _ hi => absurd hi (nn i)⟩, fun i _ _ hi => absurd hi (nn i)⟩
  · show 64 ≤ d.h.backed.size ∧ d.h.backed.size ≤ 512; rw [e1]; exact ok.sz
  · show 1 ≤ d.h.backed.count ∧ d.h.backed.count ≤ 4096; rw [e2]; exact ok.ct
  · show d.h.backed.n ≤ _; rw [e4]; exact Nat.zero_le _
  · have h : u.D d.h.backed.size k o := h
    rw [e1] at h; exact (ok.a3 q u hq k o h).1
theorem Dk.backed_D {d : Dk} {k o : Nat} (h : (d.withH d.h.backed).D k o) : d.D k o := by
  obtain ⟨e1, e2, e3, e4, e5, e6⟩ := d.h.backed_same
  rcases h with h | h | ⟨h1, h2, h3⟩ | ⟨i, hi, h⟩ | ⟨q, u, hq, h⟩
  · exact .inl h
  · have h : k = d.h.backed.m := h
    rw [e3] at h; exact .inr (.inl h)
  · simp only [Dk.withH, e5] at h2 h3; omega
  · simp [Dk.withH, e4] at hi
  · have h : u.D d.h.backed.size k o := h
    rw [e1] at h; exact .inr (.inr (.inr (.inr ⟨q, u, hq, h⟩)))
section
open Go
variable {E : Ctx} {T : Tab} {all : Array Oper} {i : Nat} {rest : List Nat} {k : List It} {s : St} {o : Oper} {f : Fr}
theorem cutP {t e : TypeId} {x up : Operand} {p : Option Addr} {n c z : Nat} {kd : IntKind} {ex : SI} (ho : nth all.toList i = some o) (hg : o.guard = none) (hop : o.op = .slice t x none (some up) none) (hx : ev s.fr x = some (.slv p n c)) (hi : ev s.fr up = some (.int kd ex))
    (hu : E.P.underlying t = some (.slice e)) {q : Nat} (hq : ∀ w, (sizeOf e).run E.P w = .ok q w) (hz : ex.den = (z : Int)) (hle : z ≤ c) (hp0 : (p = none ∧ c = 0) ∨ ∃ b y, p = some ⟨b, y, none⟩)
    (hp : putO E.n s.fr o.dst (.val (.slv p z c)) = some f) (hk : X E (.ops all rest :: k) ⟨f, s.rg⟩) : X E (.ops all (i :: rest) :: k) s := by
  rcases hp0 with ⟨rfl, rfl⟩ | ⟨b, y, hp0⟩
  · obtain rfl : z = 0 := by omega
    refine X.value ho hg _ hp (fun N a w hN hfr hS => ?_) hk
    refine ⟨_, rfl, ?_⟩
    have h1 := ev_sound hfr hx
    have h2 := ev_sound hfr hi
    simp only [SV.den, Option.some.injEq] at h1 h2
    have hb := run_sliceBounds (P := E.P) (w := w) (ρ' := a.eval) (b := true) (len := n) (cap := 0) (lo := none) (hi := some up) (mx := none) (l := none) (h := some 0) (m := none) (.inl ⟨rfl, rfl⟩) (.inr ⟨kd, 0, by simp [← h2, hz], rfl⟩) (.inl ⟨rfl, rfl⟩)
      (by simp) (by simp) (by simp) (by simp)
    simp only [Option.map_none, Option.map_some, Option.getD_none, Option.getD_some] at hb
    simp [execOp, hop, ← h1, Instr.sliceAt, run_underlying hu, Result.andThen, Instr.slice, hb, hq]
  · exact X.cut ho hg hop hx hi hu hq hz hle b y hp0 hp hk
end
def keepN (keep : Int) (n : Nat) : Nat := min (max keep 0).toNat n
set_option maxHeartbeats 8000000 in
set_option maxRecDepth 100000 in
set_option cbv.maxSteps 100000000 in
theorem back_whole (d : Dk) (keep : Int) (torn : Bool) (w : World) (hD : DiskAt d w) (ok : d.Ok) (z : Nat) (hz : z = keepN keep d.h.n) (ht : torn = false ∨ z = 0) :
    Calls Try.prog 16 #[.pointer (some ⟨d.b, d.y, none⟩), .int .i64 keep, .bool torn] w fun e w' => e = .returned (.tuple #[]) ∧ DiskAt ((d.settled 0 z).withH d.h.backed) w' ∧ ((d.settled 0 z).withH d.h.backed).Ok ∧ Chg d.D w w' ∧ ∀ k o, ((d.settled 0 z).withH d.h.backed).D k o → d.D k o := by
  obtain ⟨Q, hQ⟩ : ∃ Q : Ending → World → Prop, Q = fun e w' => e = .returned (.tuple #[]) ∧ DiskAt ((d.settled 0 z).withH d.h.backed) w' ∧ ((d.settled 0 z).withH d.h.backed).Ok ∧ Chg d.D w w' ∧ ∀ k o, ((d.settled 0 z).withH d.h.backed).D k o → d.D k o := ⟨_, rfl⟩
  rw [← hQ]
  have hfree := hD.hf
  have hcell := hD.hd
  refine X.beginR d.D (DiskAt d) (ss := [.ext d.b d.y 0, .int .i64 (.v keep), .bool (.v torn)]) Try.func16 rfl B16_ok rfl rfl (fun k o h => hD.there h) DiskAt.loc hD ?_
  obtain ⟨im, hime⟩ : ∃ im, im = outside d.D w := ⟨_, rfl⟩
  have him : ∀ k o, d.D k o → im k o = none := fun k o h => by rw [hime]; exact outside_in h
  show X (mkE Try.prog Try.f16 Q w d.D (outside d.D w) d.D (DiskAt d) [] B16) _ _
  rw [← hime]
  obtain ⟨cs, hcs⟩ : ∃ cs : List SV, cs = d.h.sv := ⟨_, rfl⟩
  have hlen : cs.length = 8 := by rw [hcs]; rfl
  refine X.focus d.b d.y cs d.restD (RestAt d) (fun w1 h1 j c hj => ?_) (by omega) (fun j hj => .inl ⟨rfl, by omega, by omega⟩) (fun k i h => ⟨.inr h, fun ⟨e1, e2, e3⟩ => ?_⟩) (.inr fun j hj => .inl ⟨rfl, by omega, by omega⟩) (fun j hj => him _ _ (.inl ⟨rfl, by omega, by omega⟩)) (fun g hg => by simp at hg) RestAt.loc (fun w h => h.rest) (fun N0 hN0 hNl => ?_)
  · rw [hcs] at hj
    obtain ⟨v, k1, k2⟩ := h1.hd.cells [] j c hj
    exact ⟨v, k1, k2, h1.hf j (by have := (List.getElem?_eq_some_iff.1 hj).1; exact this)⟩
  · rcases h with h | h | ⟨q, hq, h⟩ | ⟨q, u, hq, h⟩
    · subst h
      have := (hD.hd.room hD.hf (i - d.y) (by omega)).1
      rw [show d.y + (i - d.y) = i by omega] at this
      exact hD.mapNe (k := d.b) this e1.symm
    · exact ok.a1 k i ⟨e1, e2, by omega⟩ h
    · exact (ok.a2 q hq k i h).1 ⟨e1, e2, by omega⟩
    · exact (ok.a3 q u hq k i h).1 ⟨e1, e2, by omega⟩
  obtain rfl : N0 = [] := List.eq_nil_of_length_eq_zero hNl
  rw [hlen]
  refine X.reval 0 (.own 0 0) (v := .ext d.b d.y 0) rfl (fun N hN x hx => ?_) ?_
  · have := hN 0 _ rfl
    simp only [SV.den, this] at hx ⊢
    exact hx
  refine X.less [0, 1, 2] ?_
  obtain ⟨D, hDe⟩ : ∃ D, D = d.restD := ⟨_, rfl⟩
  show X (mkE Try.prog Try.f16 Q w d.D im d.restD (RestAt d) [⟨d.b, d.y, 8⟩] B16) _ ⟨[(0, .val (.own 0 0)), (0, .val (.ext d.b d.y 0)), (1, .val (.int .i64 (.v keep))), (2, .val (.bool (.v torn)))], [⟨true, cs, none⟩]⟩
  rw [← hDe]
  have himD : ∀ k o, D k o → im k o = none := fun k o h => him k o (by rw [hDe] at h; exact Dk.restD_D h)
  have hO : ∀ k o, D k o → w.heap.size ≤ k ∨ d.D k o := fun k o h => .inr (by rw [hDe] at h; exact Dk.restD_D h)
  refine X.go T16_ok 400 _ rfl Try.results16 ?_
  conv => arg 2; cbv
  refine X.call rfl rfl rfl rfl Try.call26 (fun N w1 args hN hS ha => ?_)
  have q0 := hN 0 _ rfl
  have ha' : [Value.pointer (some ⟨d.b, d.y, none⟩)] = args := by simpa [SV.denL, SV.den, q0] using ha
  subst ha'
  refine (fall_ok d.b d.y d.h w1 (hd_back q0 hS (by rw [hcs]; rfl)) (fun j hj => (hS.room 0 _ _ rfl q0 rfl j hj).2)).mono fun e w2 ⟨he, k1, k2⟩ => ⟨_, he, ?_⟩
  refine Goes.cells (r := 0) (g := ⟨true, cs, none⟩) hN hS rfl q0 rfl k2 d.h.fall.sv (by exact Nat.le_refl _) (fun j c hj => k1.cells N j c hj) (rv := .tup []) rfl rfl ?_
  clear ha he k1 k2 hS hN q0
  obtain ⟨fl, hfl⟩ : ∃ fl : Int, d.h.fall = ⟨d.h.size, d.h.count, d.h.m, d.h.po, d.h.n, d.h.cp, true, fl, d.h.fused, d.h.fuse⟩ := by
    unfold Hd.fall
    cases ho : d.h.off with
    | true => exact ⟨d.h.falls, by simp [← ho]⟩
    | false => exact ⟨_, rfl⟩
  have hbk : d.h.backed = ⟨d.h.size, d.h.count, d.h.m, none, 0, 0, false, fl, false, d.h.fuse⟩ := by unfold Hd.backed; rw [hfl]
  rw [hfl]
  obtain ⟨size, hsz⟩ : ∃ x, x = d.h.size := ⟨_, rfl⟩
  obtain ⟨count, hct⟩ : ∃ x, x = d.h.count := ⟨_, rfl⟩
  obtain ⟨m, hm⟩ : ∃ x, x = d.h.m := ⟨_, rfl⟩
  obtain ⟨po, hpo⟩ : ∃ x, x = d.h.po := ⟨_, rfl⟩
  obtain ⟨n, hn⟩ : ∃ x, x = d.h.n := ⟨_, rfl⟩
  obtain ⟨cp, hcp⟩ : ∃ x, x = d.h.cp := ⟨_, rfl⟩
  obtain ⟨fused, hfu⟩ : ∃ x, x = d.h.fused := ⟨_, rfl⟩
  obtain ⟨fuse, hfs⟩ : ∃ x, x = d.h.fuse := ⟨_, rfl⟩
  rw [← hsz, ← hct, ← hm, ← hpo, ← hn, ← hcp, ← hfu, ← hfs]
  refine X.less [0, 1, 2] ?_
  show X (mkE Try.prog Try.f16 Q w d.D im D (RestAt d) [⟨d.b, d.y, 8⟩] B16) _ ⟨_, [⟨true, [.int .i64 (.nat size), .int .i64 (.nat count), .raw (.map (some m)), .slv po n cp, .bool (.lit true), .int .u64 (.v fl), .bool (.lit fused), .int .i64 (.v fuse)], none⟩]⟩
  refine X.go T16_ok 400 _ rfl Try.results16 ?_
  conv => arg 2; cbv
  refine X.drawnL (fn := Try.f16) T16_ok noCall (idxG 80 []) 12 [13] 12 rfl (by kernel_rfl) rfl noCall_ok (idxG_ok [] rfl (fun q hq => absurd hq List.not_mem_nil)) 80 rfl ?_
  generalize hfin : (fun s' => X (mkE Try.prog Try.f16 Q w d.D im D (RestAt d) [⟨d.b, d.y, 8⟩] B16) _ s') = fin
  conv => cbv
  repeat (first | refine ⟨rfl, ?_⟩ | refine ⟨⟨_, _, rfl, rfl⟩, ?_⟩ | refine ⟨⟨rfl, _, _, rfl, rfl⟩, ?_⟩)
  subst hfin
  show X _ _ _
  have hnc : n ≤ cp := by rw [hn, hcp]; exact hD.nc
  have hzn : z ≤ n := by rw [hz, hn]; exact Nat.min_le_right _ _
  refine cutP (z := z) rfl rfl rfl rfl rfl Try.underlying81 Try.sizeOf87 ?_ (by omega) ?_ rfl ?_
  · rw [hz]
    simp only [SI.den, keepN, ← hn]
    (repeat' split) <;> omega
  · rcases ok.po with h | h
    · exact .inl ⟨by rw [hpo]; exact h.1, by rw [hcp]; exact h.2.2⟩
    · exact .inr ⟨_, _, by rw [hpo]; exact h.1⟩
  refine X.go T16_ok 400 _ rfl Try.results16 ?_
  conv => arg 2; cbv
  refine X.cond rfl (fun hc => ?_) (fun _ => ?_)
  · exfalso
    simp only [SB.T, SI.den] at hc
    rcases ht with h | h
    · rw [h] at hc; simp at hc
    · rw [h] at hc; simp at hc
  refine X.go T16_ok 400 _ rfl Try.results16 ?_
  conv => arg 2; cbv
  refine X.call rfl rfl rfl rfl Try.call41 (fun N w1 args hN hS ha => ?_)
  have q0 := hN 0 _ rfl
  have ha' : [Value.pointer (some ⟨d.b, d.y, none⟩), .slice po z cp] = args := by simpa [SV.denL, SV.den, q0] using ha
  subst ha'
  have hR := hS.res
  have hnn : 0 + z ≤ d.h.n := by omega
  have hh1 : HdAt d.b d.y d.h.fall w1 := hd_back q0 hS (by rw [hfl, ← hsz, ← hct, ← hm, ← hpo, ← hn, ← hcp, ← hfu, ← hfs]; rfl)
  have e1 : (d.withH d.h.fall).g = d.g := by funext q; simp only [Dk.g, Dk.withH, (sameH_fall d.h).size]
  have e2 : ((d.withH d.h.fall).settled 0 z).g = (d.settled 0 z).g := by funext q; simp only [Dk.g, Dk.withH, Dk.settled, (sameH_fall d.h).size]
  refine (settle_ok (d.withH d.h.fall) 0 z po cp w1 hh1 (by rw [e1]; show MapAt d.h.fall.m _ _; rw [(sameH_fall d.h).m]; exact hR.mp) (by have := ok.nn; omega) (fun h0 => ?_) (fun j hj => ?_)).mono fun e w2 ⟨he, hm2, hc⟩ => ⟨_, he, ?_⟩
  · rcases ok.po with h | h
    · omega
    · show po = some ⟨d.wb, _, none⟩
      rw [hpo, h.1]; simp [Dk.withH]
  · have := hR.rw (0 + j) (by omega)
    simp only [Dk.withH, (sameH_fall d.h).size]
    exact this
  rw [e2] at hm2
  have hm2 : MapAt d.h.m (d.settled 0 z).g w2 := by have h := hm2; rwa [show (d.withH d.h.fall).h.m = d.h.m from (sameH_fall d.h).m] at h
  have hc : Chg (fun k _ => k = d.h.m) w1 w2 := by rw [← show (d.withH d.h.fall).h.m = d.h.m from (sameH_fall d.h).m]; exact hc
  have hR2 := hR.settled hnn hc hm2
  refine Goes.turn (r := .tup []) D (RestAt (d.settled 0 z)) hN hS (hc.mono fun k o _ h => by show D k o; rw [hDe]; exact .inl h) hO himD (fun g hg => by simp at hg; subst hg; exact .inl rfl) (fun k o hk => ⟨.inl hk, ?_⟩) (loc_mono RestAt.loc fun k o h => by rw [hDe]; exact Dk.settled_restD hnn h) hR2 rfl rfl ?_
  · have : There w1 k o := hR.there (by rw [hDe] at hk; exact hk)
    rcases this with h | h
    · exact .inl (some_of_chg hc o h)
    · by_cases ek : k = d.h.m
      · rw [ek]; exact .inr hm2.ob
      · exact .inr (by rw [objAt_chg hc h (fun _ h => ek h)]; exact h)
  show X (mkE Try.prog Try.f16 Q w d.D im D (RestAt (d.settled 0 z)) [⟨d.b, d.y, 8⟩] B16) _ _
  clear ha he hc hm2 hR hR2 hS hN q0 hh1
  refine X.go T16_ok 400 _ rfl Try.results16 ?_
  conv => arg 2; cbv
  refine X.over T16_ok rfl (fun N w' v hN hS hv => ?_)
  cases hv
  rw [hQ]
  have q0 := hN 0 _ rfl
  have hbs := d.h.backed_same
  have hfin := hS.res.back (hd_back q0 hS (by rw [show (d.settled 0 z).h = d.h from rfl, hbk, ← hsz, ← hct, ← hm, ← hfs]; rfl)) (fun j hj => (hS.room 0 _ _ rfl q0 rfl j hj).2)
  exact ⟨rfl, hfin, Dk.backed_ok (Dk.settled_ok0 ok.toOk0 hnn), hS.chg, fun k o h => Dk.settled_D hnn (Dk.backed_D (d := d.settled 0 z) h)⟩
end Go.Proofs.Ytkjhpaeminegoaa

namespace Go.Proofs.Ytkjhpaeminegoaa
open Go.Eng
def newH (size count m : Nat) : Hd := ⟨size, count, m, none, 0, 0, false, 0, false, 0⟩
def newDk (b y size count m : Nat) : Dk := ⟨b, y, newH size count m, 0, 0, fun _ => (0, ⟨0, 0, 0, fun _ => 0⟩), fun _ => none⟩
theorem newDk_ok {b y size count m : Nat} (hs : 64 ≤ size ∧ size ≤ 512) (hc : 1 ≤ count ∧ count ≤ 4096) : (newDk b y size count m).Ok := by
  have nr : ∀ k o, ¬ (newDk b y size count m).rowD k o := fun k o ⟨_, h2, h3⟩ => by
    have h3 : o < 0 + 0 * 2 := h3
    omega
  exact ⟨⟨hs, hc, Nat.zero_le _, .inl ⟨rfl, rfl, rfl⟩, fun i hi => absurd hi (Nat.not_lt_zero _), fun k o _ h => nr k o h, fun i hi => absurd hi (Nat.not_lt_zero _), fun q u hq => (by cases hq), fun i _ hi => absurd hi (Nat.not_lt_zero _)⟩, fun i _ _ hi => absurd hi (Nat.not_lt_zero _)⟩
theorem newDk_D {b y size count m k o : Nat} (h : (newDk b y size count m).D k o) : k = b ∨ k = m := by
  rcases h with h | h | ⟨_, h2, h3⟩ | ⟨i, hi, h⟩ | ⟨q, u, hq, h⟩
  · exact .inl h.1
  · exact .inr h
  · have h3 : o < 0 + 0 * 2 := h3
    omega
  · exact absurd hi (Nat.not_lt_zero _)
  · cases hq
def sizesOk (size count : Int) : Prop := 64 ≤ size ∧ size ≤ 512 ∧ 1 ≤ count ∧ count ≤ 4096
set_option maxHeartbeats 8000000 in
set_option maxRecDepth 100000 in
set_option cbv.maxSteps 100000000 in
theorem new_good (size count : Nat) (w : World) (hz : sizesOk size count) :
    Calls Try.prog 12 #[.int .i64 (size : Int), .int .i64 (count : Int)] w fun e w' => ∃ b y m, e = .returned (.tuple #[.pointer (some ⟨b, y, none⟩), .int .i64 0]) ∧ w.heap.size ≤ b ∧ w.heap.size ≤ m ∧ DiskAt (newDk b y size count m) w' ∧ Chg (fun _ _ => False) w w' := by
  obtain ⟨Q, hQ⟩ : ∃ Q : Ending → World → Prop, Q = fun e w' => ∃ b y m, e = .returned (.tuple #[.pointer (some ⟨b, y, none⟩), .int .i64 0]) ∧ w.heap.size ≤ b ∧ w.heap.size ≤ m ∧ DiskAt (newDk b y size count m) w' ∧ Chg (fun _ _ => False) w w' := ⟨_, rfl⟩
  rw [← hQ]
  refine X.begin (rg := []) (N := []) (ss := [.int .i64 (.nat size), .int .i64 (.nat count)]) Try.func12 rfl B12_ok rfl rfl Sat.std0 ?_
  refine X.go T12_ok 400 _ rfl Try.results12 ?_
  conv => arg 2; cbv
  refine X.cond rfl (fun hc => ?_) (fun _ => ?_)
  · exfalso
    simp only [SB.T, SI.den] at hc
    unfold sizesOk at hz
    omega
  refine X.go T12_ok 400 _ rfl Try.results12 ?_
  conv => arg 2; cbv
  refine X.newR (.map #[] 0) trivial (fun b => .map (some b)) (fun _ => rfl) rfl rfl (fun N a w1 hN hf hS => rfl) (fun b => rfl) (fun m hm hmi hmD => ?_)
  show X (mkE Try.prog Try.f12 Q w (InR [] []) (elsewhere [] [] w) (fun k o => False ∨ k = m) (fun w => True ∧ objAt w m = some (.map #[] 0)) [] B12) _ _
  refine X.go T12_ok 400 _ rfl Try.results12 ?_
  conv => arg 2; cbv
  refine X.done T12_ok rfl (fun N w' v hN hS hv => ?_)
  have hS0 := hS
  obtain ⟨p, hp⟩ : ∃ p, N[0]? = some p := ⟨_, List.getElem?_eq_getElem (by rw [hS.len]; simp)⟩
  have hv' : Value.tuple #[.pointer (some ⟨p.b, p.o, none⟩), .int .i64 0] = v := by simpa [resV, SV.den, SV.denL, hp, SI.den] using hv
  subst hv'
  rw [hQ]
  have hx := hS.ext 0 _ p rfl hp rfl
  have hro := hS.room 0 _ p rfl hp rfl
  have hfr : w.heap.size ≤ p.b := by
    rcases hS.foot 0 _ p rfl hp rfl with h | h
    · exact h
    · exact absurd (h 0 (by simp at hx; omega)) inR_nil
  refine ⟨p.b, p.o, m, rfl, hfr, hm, ⟨Nat.le_refl _, fun j v hj => ?_, fun j hj => ?_, ?_, fun o ho => ?_, fun i hi => absurd hi (Nat.not_lt_zero _), fun i hi => absurd hi (Nat.not_lt_zero _), fun q u hq => (by cases hq)⟩, hS.chg.mono fun k o _ h => inR_nil h⟩
  · exact hS.row (vs := (newH size count m).vals) rfl hp rfl j v hj
  · exact (hro j (by simp at hx; omega)).2
  · obtain ⟨_, h⟩ := hS.res
    exact ⟨#[], 0, heap_objAt h, by simp [IntKeys], fun i => rfl⟩
  · exact absurd ho (by show ¬ o < 0 * 2; omega)
end Go.Proofs.Ytkjhpaeminegoaa

namespace Go.Proofs.Ytkjhpaeminegoaa
open Go.Eng
theorem Goes.read {E : Ctx} {N : Nums} {k : List It} {s : St} {d : Option Nat} {w w' : World} {g : Nat → Int} {n : Nat} {e : Ending} (hn : 0 < n) (hN : E.N0.le N) (h : Sat E.toEnv N s.rg w) (hf : ReadRet g n w e w') {f' : Fr} (hp : putO E.n s.fr d (.val (.tup [.osl s.rg.length 0 n 1 none, .int .i64 (.lit 0)])) = some f')
    (hx : X E k ⟨f', s.rg ++ [⟨true, bytesL g n, none⟩]⟩) : ∃ v, e = .returned v ∧ Goes E N k s.fr d v w' := by
  obtain ⟨b, y, x, h1, h2, h3, h4, h5, h6⟩ := hf
  have hff : FreshRet (bytesL g n) n 1 w (.returned (.slice (some ⟨b, y, none⟩) n x)) w' := ⟨b, y, x, by rw [Nat.div_one], h2, by rw [bytesL_len]; exact h3, by omega, h4.cells [], h5, h6⟩
  obtain ⟨p, v, k1, k2, _, k3⟩ := hff.sat h
  cases k1
  refine ⟨_, h1, E, N ++ [p], _, _, f', rfl, rfl, rfl, rfl, Nums.le_append _ _, hN.trans (Nums.le_append _ _), k3, ?_, hp, hx⟩
  show (match SV.denL (N ++ [p]) [.osl s.rg.length 0 n 1 none, .int .i64 (.lit 0)] with | some l => some (Value.tuple l.toArray) | none => none) = _
  rw [show SV.denL (N ++ [p]) [.osl s.rg.length 0 n 1 none, .int .i64 (.lit 0)] = some [.slice (some ⟨b, y, none⟩) n x, .int .i64 0] from by unfold SV.denL; rw [k2]; rfl]
theorem args_eq {N : Nums} {ss : List SV} {vs args : List Value} (h1 : SV.denL N ss = some vs) (ha : SV.denL N ss = some args) : vs = args := Option.some.inj (h1.symm.trans ha)
def litB : SV → Option Int
  | .int .u8 (.lit z) => some z
  | _ => none
def litG (cs : List SV) (j : Nat) : Int := ((cs[j]?).bind litB).getD 0
theorem litB_eq {c : SV} {z : Int} (h : litB c = some z) : c = .int .u8 (.lit z) := by
  unfold litB at h
  split at h
  · cases h; rfl
  · cases h
theorem Sat.bytes {E : Env} {N : Nums} {rg : List Rg} {w : World} (hS : Sat E N rg w) {r : Nat} {g : Rg} {p : Num} (hg : rg[r]? = some g) (hp : N[r]? = some p) (hl : g.cells.all (fun c => (litB c).isSome) = true) : BytesAt p.b p.o g.cells.length (litG g.cells) w := fun j hj => by
  obtain ⟨c, hc⟩ : ∃ c, g.cells[j]? = some c := ⟨_, List.getElem?_eq_getElem hj⟩
  obtain ⟨z, hz⟩ := Option.isSome_iff_exists.1 (List.all_eq_true.1 hl c (List.mem_of_getElem? hc))
  obtain ⟨v, k1, k2⟩ := hS.cell r g p hg hp j c hc
  rw [litB_eq hz] at k1
  cases k1
  rw [k2, litG, hc]
  simp [hz, SI.den]
theorem newH_burn {size count m : Nat} {po : Option Addr} {n cp : Nat} : (⟨size, count, m, po, n, cp, false, 0, false, 0⟩ : Hd).burn = (false, ⟨size, count, m, po, n, cp, false, 0, false, 0⟩) := rfl
set_option maxHeartbeats 8000000 in
set_option maxRecDepth 100000 in
set_option cbv.maxSteps 100000000 in
theorem awake12_ok (w : World) : Calls Try.prog 11 #[] w fun e w' => e = .returned (.bool true) ∧ Chg (fun _ _ => False) w w' := by
  obtain ⟨Q, hQ⟩ : ∃ Q : Ending → World → Prop, Q = fun e w' => e = .returned (.bool true) ∧ Chg (fun _ _ => False) w w' := ⟨_, rfl⟩
  rw [← hQ]
  refine X.begin (rg := []) (N := []) (ss := []) Try.func11 rfl B11_ok rfl rfl Sat.std0 ?_
  refine X.go T11_ok 400 _ rfl Try.results11 ?_
  conv => arg 2; cbv
  refine X.call rfl rfl rfl rfl Try.call12 (fun N w1 args hN hS ha => ?_)
  obtain rfl : [Value.int .i64 64, .int .i64 2] = args := Option.some.inj ha
  refine (new_good 64 2 w1 (by unfold sizesOk; omega)).mono fun e w2 ⟨b, y, m, he, hb, hm, hd, hc⟩ => ⟨_, he, ?_⟩
  obtain ⟨d, hde⟩ : ∃ d, d = newDk b y 64 2 m := ⟨_, rfl⟩
  have ok : d.Ok := by rw [hde]; exact newDk_ok (by omega) (by omega)
  have hdb : d.b = b := by rw [hde]; rfl
  have hdy : d.y = y := by rw [hde]; rfl
  have hdh : d.h = newH 64 2 m := by rw [hde]; rfl
  have hdk : d.kept = fun _ => none := by rw [hde]; rfl
  have hDn : ∀ k o, d.D k o → k = b ∨ k = m := fun k o h => newDk_D (by rw [hde] at h; exact h)
  rw [← hde] at hd
  have hws : w.heap.size ≤ w1.heap.size := hS.chg.size
  refine Goes.turn (r := .tup [.ext b y 0, .int .i64 (.lit 0)]) d.D (DiskAt d) hN hS (hc.mono fun _ _ _ h => h.elim) (fun _ _ h => h.elim) (fun _ _ h => h.elim) (fun g hg => by simp at hg) (fun k o hk => ⟨.inr ?_, hd.there hk⟩) DiskAt.loc hd rfl rfl ?_
  · rcases hDn k o hk with rfl | rfl <;> assumption
  have hDw : ∀ k o, d.D k o → w.heap.size ≤ k := fun k o h => by
    rcases hDn k o h with rfl | rfl <;> omega
  clear ha he hc hS hN hd hws
  obtain ⟨D, hDe⟩ : ∃ D, D = d.D := ⟨_, rfl⟩
  show X (mkE Try.prog Try.f11 Q w (InR [] []) (elsewhere [] [] w) d.D (DiskAt d) [] B11) _ _
  obtain ⟨im, hime⟩ : ∃ im, im = elsewhere [] [] w := ⟨_, rfl⟩
  rw [← hime]
  have himn : ∀ k o, w.heap.size ≤ k → im k o = none := fun k o h => by
    rw [hime]; unfold elsewhere
    rw [if_neg inR_nil]
    cases hc : w.cell? ⟨k, o, none⟩ with
    | none => rfl
    | some v => have := World.block_lt_of_cell? _ _ hc; simp only at this; omega
  refine X.go T11_ok 400 _ rfl Try.results11 ?_
  conv => arg 2; cbv
  refine X.call rfl rfl rfl rfl Try.call13 (fun N w1 args hN hS ha => ?_)
  have hdw : w.heap.size ≤ b := hDw b y (by rw [← hdb, ← hdy]; exact .inl ⟨rfl, by omega, by omega⟩)
  obtain ⟨p, hp⟩ : ∃ p, N[0]? = some p := ⟨_, List.getElem?_eq_getElem (by rw [hS.len]; exact Nat.succ_pos _)⟩
  obtain ⟨G, hbt⟩ : ∃ G, BytesAt p.b p.o 64 G w1 := ⟨_, Sat.bytes hS (r := 0) rfl hp rfl⟩
  have hx : 64 ≤ p.x := hS.ext 0 _ p rfl hp rfl
  have hfar : ∀ o, o < 64 → ¬ d.D p.b (p.o + o) := fun o ho => hS.dd 0 _ p rfl hp rfl o (Nat.lt_of_lt_of_le ho hx)
  obtain rfl := args_eq (vs := [.pointer (some ⟨d.b, d.y, none⟩), .int .i64 1, .slice (some ⟨p.b, p.o, none⟩) d.h.size 64]) (by
    rw [show d.h.size = 64 by rw [hdh]; rfl]
    show SV.denL N [.ext b y 0, .int .i64 (.lit 1), .osl 0 0 64 1 (some 64)] = _
    rw [hdb, hdy]; simp only [SV.denL, SV.den, hp, Num.cap, SI.den, Nat.add_zero]) ha
  have c1 : d.h.off = false := by rw [hdh]; rfl
  have c2 : d.h.has 1 := by rw [hdh]; exact ⟨by decide, by show (1 : Int) < (2 : Nat); decide⟩
  have c3 : d.h.n = 0 := by rw [hdh]; rfl
  have c4 : d.h.size = 64 := by rw [hdh]; rfl
  refine (write_ok d 1 p.b p.o 64 G w1 hS.res ok c1 c2 (by omega) (by rw [c4]; exact hbt) (fun o ho => hfar o (by omega))).mono fun e w2 ⟨bt, h1, h2, wb', wy', u, he, k1, k2, k3, k4, k5, k6, k7⟩ => ?_
  have hh1 : h1 = ⟨64, 2, m, h2.po, 1, h2.cp, false, 0, false, 0⟩ := by rw [k2, hdh]; rfl
  rw [hh1, newH_burn] at k1
  obtain ⟨rfl, hh2⟩ := Prod.mk.inj k1
  obtain ⟨d2, hd2⟩ : ∃ d2, d2 = d.wrote h2 wb' wy' 1 u := ⟨_, rfl⟩
  rw [← hd2] at k4 k5 k7
  have hdb2 : d2.b = b := by rw [hd2]; exact hdb
  have hdy2 : d2.y = y := by rw [hd2]; exact hdy
  have hdk2 : d2.kept = fun _ => none := by rw [hd2]; exact hdk
  have hdh2 : d2.h = ⟨64, 2, m, h2.po, 1, h2.cp, false, 0, false, 0⟩ := by rw [hd2]; exact hh2.symm
  have hws : w.heap.size ≤ w1.heap.size := hS.chg.size
  have hDw2 : ∀ k o, d2.D k o → w.heap.size ≤ k := fun k o h => (k7 k o h).elim (hDw k o) (fun h => Nat.le_trans hws h)
  refine ⟨_, he, Goes.turn (r := .int .i64 (.lit 0)) d2.D (DiskAt d2) hN hS k6 (fun k o h => .inl (hDw k o h)) (fun k o h => himn k o (hDw k o h)) (fun g hg => by simp at hg; subst hg; exact .inl rfl) (fun k o hk => ⟨k7 k o hk, k4.there hk⟩) DiskAt.loc k4 rfl rfl ?_⟩
  show X (mkE Try.prog Try.f11 Q w (InR [] []) im d2.D (DiskAt d2) [] B11) _ _
  clear ha he hS hN hbt hx k4 k6 k7 k1 k2 k3 hh1 hp hws
  refine X.go T11_ok 400 _ rfl Try.results11 ?_
  conv => arg 2; cbv
  refine X.call rfl rfl rfl rfl Try.call16 (fun N w1 args hN hS ha => ?_)
  obtain rfl := args_eq (vs := [.pointer (some ⟨d2.b, d2.y, none⟩), .int .i64 0, .bool false]) (by rw [hdb2, hdy2]; rfl) ha
  refine (back_whole d2 0 false w1 hS.res k5 0 (by rw [hdh2]; rfl) (.inl rfl)).mono fun e w2 ⟨he, q1, q2, q3, q4⟩ => ?_
  obtain ⟨d3, hd3⟩ : ∃ d3, d3 = (d2.settled 0 0).withH d2.h.backed := ⟨_, rfl⟩
  rw [← hd3] at q1 q2 q4
  have hdb3 : d3.b = b := by rw [hd3]; exact hdb2
  have hdy3 : d3.y = y := by rw [hd3]; exact hdy2
  have hdk3 : d3.kept = fun _ => none := by rw [hd3]; exact hdk2
  have hdh3 : d3.h.off = false ∧ d3.h.n = 0 ∧ d3.h.size = 64 ∧ d3.h.count = 2 := by
    have e : d3.h = d2.h.backed := by rw [hd3]; rfl
    rw [e, hdh2]; exact ⟨rfl, rfl, rfl, rfl⟩
  refine ⟨_, he, Goes.turn (r := .tup []) d3.D (DiskAt d3) hN hS q3 (fun k o h => .inl (hDw2 k o h)) (fun k o h => himn k o (hDw2 k o h)) (fun g hg => by simp at hg; subst hg; exact .inl rfl) (fun k o hk => ⟨.inl (q4 k o hk), q1.there hk⟩) DiskAt.loc q1 rfl rfl ?_⟩
  show X (mkE Try.prog Try.f11 Q w (InR [] []) im d3.D (DiskAt d3) [] B11) _ _
  have hDw3 : ∀ k o, d3.D k o → w.heap.size ≤ k := fun k o h => hDw2 k o (q4 k o h)
  clear ha he hS hN q1 q3 q4
  refine X.go T11_ok 400 _ rfl Try.results11 ?_
  conv => arg 2; cbv
  refine X.call rfl rfl rfl rfl Try.call15 (fun N w1 args hN hS ha => ?_)
  obtain rfl := args_eq (vs := [.pointer (some ⟨d3.b, d3.y, none⟩), .int .i64 1]) (by rw [hdb3, hdy3]; rfl) ha
  have hrd : d3.rd 1 = fun _ => 0 := by
    unfold Dk.rd
    rw [hdh3.2.1]
    simp [rdF, Dk.st, hdk3]
  refine (read_ok d3 1 w1 hS.res q2.toOk0 hdh3.1 ⟨by decide, by rw [hdh3.2.2.2]; decide⟩).mono fun e w2 hr => ?_
  rw [hrd, hdh3.2.2.1] at hr
  refine Goes.read (by decide) hN hS hr rfl ?_
  show X (mkE Try.prog Try.f11 Q w (InR [] []) im d3.D (DiskAt d3) [] B11) _ _
  refine X.go T11_ok 400 _ rfl Try.results11 ?_
  conv => arg 2; cbv
  refine X.done T11_ok rfl (fun N w' v hN hS hv => ?_)
  rw [hQ]
  refine ⟨?_, hS.chg.mono fun k o _ h => inR_nil h⟩
  simp [resV, SV.den, SB.den, SI.den] at hv
  rw [← hv]
end Go.Proofs.Ytkjhpaeminegoaa

namespace Go.Proofs.Ytkjhpaeminegoaa
open Go.Eng
end Go.Proofs.Ytkjhpaeminegoaa

namespace Go.Eng
inductive CK where
  | int (k : IntKind)
  | bool
  | str
  | slice (e : Nat)
  | ptr (e : Nat)
def Rd (P : Program) (w : World) (base : Nat) (t : Nat) (cs : List Value) : Prop :=
  ∃ (H : Type) (enc : TypeId × Value → H) (sp : Nat → Bool) (held : Bool) (fuel : Nat) (x : DataW H × List MemPlace), DataW.trod enc P w base sp held fuel t cs = some x
def RdAt (P : Program) (w : World) (base : Nat) (b y : Nat) (e : Nat) : Prop :=
  base ≤ b ∧ ∃ cs, cs.length = P.cellsOf e ∧ (∀ (j : Nat) (v : Value), cs[j]? = some v → w.cell? ⟨b, y + j, none⟩ = some v) ∧ Rd P w base e cs
def CellOk (P : Program) (w : World) (base : Nat) : CK → Value → Prop
  | .int k, v => ∃ n, v = .int k n ∧ (Lit.int k n).wf = true
  | .bool, v => ∃ b, v = .bool b
  | .str, v => ∃ s, v = .string s ∧ s.size ≤ maxLen
  | .slice e, v => ∃ p n c, v = .slice p n c ∧ n ≤ c ∧ c ≤ maxLen ∧ (0 < P.cellsOf e → 0 < n → ∃ b x, p = some ⟨b, x, none⟩ ∧ ∀ i, i < n → RdAt P w base b (x + i * P.cellsOf e) e)
  | .ptr e, v => ∃ p, v = .pointer p ∧ (0 < P.cellsOf e → ∀ a, p = some a → ∃ b x, a = ⟨b, x, none⟩ ∧ RdAt P w base b x e)
def CellsOk (P : Program) (w : World) (base : Nat) : List CK → List Value → Prop
  | [], [] => True
  | k :: ks, v :: vs => CellOk P w base k v ∧ CellsOk P w base ks vs
  | _, _ => False
def kindsFs (P : Program) (sh : Nat → Option (List CK)) : List Field → Nat → Option (List CK)
  | [], _ => some []
  | f :: fs, o => bif Nat.beq f.offset o then
      match sh f.type with
      | some s => bif Nat.beq (P.cellsOf f.type) s.length then
          match kindsFs P sh fs (o + s.length) with
          | some r => some (s ++ r)
          | none => none
        else none
      | none => none
    else none
def kindsOf (P : Program) : Nat → Nat → Option (List CK)
  | 0, _ => none
  | m + 1, t => match P.underlying t with
    | some (.int k) => some [.int k]
    | some .bool => some [.bool]
    | some .string => some [.str]
    | some (.slice e) => some [.slice e]
    | some (.pointer e) => some [.ptr e]
    | some (.struct fs) => match kindsFs P (kindsOf P m) fs.toList 0 with
      | some s => bif Nat.beq (P.cellsOf t) s.length then some s else none
      | none => none
    | _ => none
theorem CellsOk.append {P : Program} {w : World} {base : Nat} : ∀ {ks ls : List CK} {us vs : List Value}, CellsOk P w base ks us → CellsOk P w base ls vs → CellsOk P w base (ks ++ ls) (us ++ vs)
  | [], _, [], _, _, h => h
  | _ :: _, _, _ :: _, _, h, k => ⟨h.1, CellsOk.append h.2 k⟩
  | [], _, _ :: _, _, h, _ => h.elim
  | _ :: _, _, [], _, h, _ => h.elim
theorem spot_none {w : World} {a : Addr} {v : Value} (h : w.cell? a = some v) : a = ⟨a.block, a.off, none⟩ := by
  unfold World.cell? at h
  split at h
  · split at h
    · cases h
    · rename_i hs
      obtain ⟨b, o, s⟩ := a
      cases s <;> simp_all
  · cases h
theorem spot_row {w : World} {base : Nat} {a : Addr} {q : Nat} {cs : List Value} (hp : 0 < q) (h : w.cells? base a q = some cs) : a = ⟨a.block, a.off, none⟩ := by
  obtain ⟨_, h2, h3⟩ := World.cells?_some h
  have h30 := h3 0 hp
  have hlt : 0 < cs.length := by omega
  rw [List.getElem?_eq_getElem hlt] at h30
  have : a.add 0 = a := by simp [Addr.add]
  rw [this] at h30
  exact spot_none h30
theorem add_plain (b o j : Nat) : (Addr.mk b o none).add j = ⟨b, o + j, none⟩ := by
  unfold Addr.add
  by_cases h : j = 0
  · subst h; simp
  · simp [h]
theorem rdAt_of {P : Program} {w : World} {base : Nat} {b x e : Nat} {cs : List Value} (h : w.cells? base ⟨b, x, none⟩ (P.cellsOf e) = some cs) (hr : Rd P w base e cs) : RdAt P w base b x e := by
  obtain ⟨h1, h2, h3⟩ := World.cells?_some h
  refine ⟨h1, cs, h2, fun j v hj => ?_, hr⟩
  have hj' : j < P.cellsOf e := by rw [← h2]; exact (List.getElem?_eq_some_iff.1 hj).1
  have := h3 j hj'
  rw [add_plain] at this
  rw [this, hj]
theorem kindsFs_sound {P : Program} {w : World} {base : Nat} {sh : Nat → Option (List CK)} (ih : ∀ t ks cs, sh t = some ks → Rd P w base t cs → CellsOk P w base ks cs) (all : List Value) :
    ∀ (fs : List Field) (o : Nat) (ks : List CK), kindsFs P sh fs o = some ks → (all.drop o).length = ks.length → (∀ f ∈ fs, Rd P w base f.type ((all.drop f.offset).take (P.cellsOf f.type))) → CellsOk P w base ks (all.drop o)
  | [], o, ks, h, hl, _ => by
    simp only [kindsFs, Option.some.injEq] at h; subst h
    have : all.drop o = [] := List.eq_nil_of_length_eq_zero (by rw [hl]; rfl)
    rw [this]; trivial
  | f :: fs, o, ks, h, hl, hr => by
    simp only [kindsFs] at h
    cases hb : Nat.beq f.offset o with
    | false => rw [hb] at h; simp at h
    | true =>
      rw [hb] at h
      simp only [cond_true] at h
      have hoff := Nat.eq_of_beq_eq_true hb
      split at h
      · rename_i s hs
        cases hc : Nat.beq (P.cellsOf f.type) s.length with
        | false => rw [hc] at h; simp at h
        | true =>
          rw [hc] at h
          simp only [cond_true] at h
          have hsz := Nat.eq_of_beq_eq_true hc
          split at h
          · rename_i r hrr
            simp only [Option.some.injEq] at h; subst h
            rw [List.length_append] at hl
            have h1 := hr f List.mem_cons_self
            rw [hoff, hsz] at h1
            have k1 := ih _ _ _ hs h1
            have k2 := kindsFs_sound ih all fs (o + s.length) r hrr (by rw [List.length_drop] at hl ⊢; omega) (fun g hg => hr g (List.mem_cons_of_mem _ hg))
            have hsplit : all.drop o = (all.drop o).take s.length ++ all.drop (o + s.length) := by
              rw [← List.drop_drop, List.take_append_drop]
            rw [hsplit]
            exact k1.append k2
          · cases h
      · cases h
theorem kindsOf_sound {P : Program} {w : World} {base : Nat} : ∀ (m t : Nat) (ks : List CK) (cs : List Value), kindsOf P m t = some ks → Rd P w base t cs → CellsOk P w base ks cs := by
  intro m
  induction m with
  | zero => intro t ks cs h; simp [kindsOf] at h
  | succ m ih =>
    intro t ks cs h hr
    obtain ⟨H, enc, sp, held, fuel, x, hx⟩ := hr
    simp only [kindsOf] at h
    split at h
    · rename_i k hu
      simp only [Option.some.injEq] at h; subst h
      obtain ⟨n, rfl, _, hw⟩ := DataW.trod_int hu hx
      exact ⟨⟨n, rfl, hw⟩, trivial⟩
    · rename_i hu
      simp only [Option.some.injEq] at h; subst h
      obtain ⟨b, rfl, _⟩ := DataW.trod_bool hu hx
      exact ⟨⟨b, rfl⟩, trivial⟩
    · rename_i hu
      simp only [Option.some.injEq] at h; subst h
      obtain ⟨s, rfl, _, hs⟩ := DataW.trod_string hu hx
      exact ⟨⟨s, rfl, hs⟩, trivial⟩
    · rename_i e hu
      simp only [Option.some.injEq] at h; subst h
      rcases Go.Deep.open_slice hu hx with ⟨rfl, _⟩ | ⟨a, len, cap, m', n, D, Pl, rfl, hb, hl, hm, hm', _, hel⟩
      · exact ⟨⟨none, 0, 0, rfl, Nat.le_refl _, Nat.zero_le _, fun _ h => absurd h (by omega)⟩, trivial⟩
      · refine ⟨⟨some a, len, cap, rfl, hl, hm, fun hp hn => ?_⟩, trivial⟩
        have hle : len ≤ m' := by rw [hm']; split <;> omega
        obtain ⟨cs0, h0, _⟩ := hel 0 (by omega)
        have ha : a.add (0 * P.cellsOf e) = a := by simp [Addr.add]
        rw [ha] at h0
        have hs := spot_row hp h0
        refine ⟨a.block, a.off, by rw [← hs], fun i hi => ?_⟩
        obtain ⟨cs', h1, h2⟩ := hel i (by omega)
        rw [hs, add_plain] at h1
        exact rdAt_of h1 ⟨H, enc, sp, held, n, _, h2⟩
    · rename_i e hu
      simp only [Option.some.injEq] at h; subst h
      rcases DataW.trod_pointer hu hx with ⟨rfl, _⟩ | ⟨a, cs', y, n, _, rfl, _, hc, hy⟩
      · exact ⟨⟨none, rfl, fun _ a h => by cases h⟩, trivial⟩
      · refine ⟨⟨some a, rfl, fun hp a' h => ?_⟩, trivial⟩
        cases h
        have hs := spot_row hp hc
        refine ⟨a.block, a.off, hs, ?_⟩
        rw [hs] at hc
        exact rdAt_of hc ⟨H, enc, sp, held, n, _, hy⟩
    · rename_i fs hu
      split at h
      · rename_i s hs
        cases hc : Nat.beq (P.cellsOf t) s.length with
        | false => rw [hc] at h; simp at h
        | true =>
          rw [hc] at h
          simp only [cond_true, Option.some.injEq] at h; subst h
          have hsz := Nat.eq_of_beq_eq_true hc
          obtain ⟨xs, n, _, _, hl, hxl, hel⟩ := DataW.trod_struct hu hx
          have := kindsFs_sound (base := base) ih cs fs.toList 0 s hs (by simp [hl, hsz]) (fun f hf => by
            obtain ⟨i, hi⟩ := List.mem_iff_getElem?.1 hf
            have hi' : fs[i]? = some f := by simpa using hi
            have hlt : i < xs.length := by rw [hxl]; exact (Array.getElem?_eq_some_iff.1 hi').1
            have := hel i f hi'
            rw [List.getElem?_eq_getElem hlt] at this
            exact ⟨H, enc, sp, held, n, _, this⟩)
          simpa using this
      · cases h
    · cases h
end Go.Eng

namespace Go.Eng
open Go.ChangeShapes Go.WideShapes Go.ChangeAt Go.RowKit
theorem Chg.below {w w' : World} (h : Chg (fun _ _ => False) w w') : Below w.heap.size w w' := ⟨h.os, h.tape, h.output, h.size, fun k hk => h.same k hk (fun _ ho => ho)⟩
section
variable {H : Type} {enc : TypeId × Value → H} {P : Program}
theorem trodAll_stays (hl : laidOutB P = true) {W W' : World} {sp : Nat → Bool} (hb : Below W.heap.size W W') : ∀ {ts : List TypeId} {vs : List Value} {ds : List (DataW H)} {ps : List MemPlace}, DataW.TrodAll enc P W 0 (fun _ => true) true ts vs ds ps →
    (∀ t ∈ ts, P.readableRec t = true ∧ t < P.types.size) → (∀ p ∈ ps, p.block < W.heap.size) → (∀ p ∈ ps, sp p.block = true) → DataW.TrodAll enc P W' 0 sp true ts vs ds ps
  | [], [], [], _, h, _, _, _ => h
  | t :: ts, v :: vs, d :: ds, ps, h, ht, hlt, hsp => by
    obtain ⟨p, q, h1, h2, rfl⟩ := h
    refine ⟨p, q, ?_, ?_, rfl⟩
    · exact WideElems.Trod_stays hl (ht t List.mem_cons_self).1 (ht t List.mem_cons_self).2 h1 (fun x hx => hb.same (hlt x (by simp [hx]))) (fun x hx => hsp x (by simp [hx]))
    · exact trodAll_stays hl hb h2 (fun u hu => ht u (List.mem_cons_of_mem _ hu)) (fun x hx => hlt x (by simp [hx])) (fun x hx => hsp x (by simp [hx]))
  | [], [], _ :: _, _, h, _, _, _ => h.elim
  | [], _ :: _, _, _, h, _, _, _ => h.elim
  | _ :: _, [], _, _, h, _, _, _ => h.elim
  | _ :: _, _ :: _, [], _, h, _, _, _ => h.elim
theorem law_post {f : Func} {s : ChangeSpec} {apart fresh handsOn again : Bool} {W W' : World} {args : Array Value} {ds gs : List (DataW H)} {before : List MemPlace} {tb : TypeId} (hl : laidOutB P = true)
    (hW : DataW.Whole enc P f.params.toList s.vars apart W args.toList ds gs before) (hv : s.vars = []) (hargs : (s.fn H (ds ++ gs)).args = ds) (hres : (s.fn H (ds ++ gs)).results = [.lit (.bool true)]) (hvars : (s.fn H (ds ++ gs)).vars = [])
    (hrt : f.resultTypes = #[tb]) (htb : P.underlying tb = some .bool) (hts : ∀ t ∈ f.params.toList, P.readableRec t = true ∧ t < P.types.size) (hb : Below W.heap.size W W') :
    s.post enc P f apart fresh handsOn again W args (.bool true) W' := by
  have hlt := hW.lt
  have hW0 := hW
  obtain ⟨p, q, hA, hV, rfl, hz, hn⟩ := hW
  rw [hv] at hV
  have hq : q = [] ∧ gs = [] := by
    cases gs with
    | nil => exact ⟨hV, rfl⟩
    | cons g gs => exact hV.elim
  obtain ⟨rfl, rfl⟩ := hq
  have hr : ∀ (b : Nat) (sp : Nat → Bool) (hd : Bool), DataW.TrodAll enc P W' b sp hd f.resultTypes.toList ((Value.bool true).resultList f.resultTypes.size) (s.fn H (ds ++ [])).results [] := by
    intro b sp hd
    rw [hrt, hres]
    exact trodAll_mk1 (shut_bool htb true)
  have ha : ∀ sp : Nat → Bool, (∀ x ∈ p, sp x.block = true) → DataW.TrodAll enc P W' 0 sp true f.params.toList args.toList (s.fn H (ds ++ [])).args p := by
    intro sp hsp
    rw [hargs]
    exact trodAll_stays hl hb hA hts (fun x hx => hlt x (by simpa using hx)) hsp
  have hvv : ∀ sp : Nat → Bool, DataW.TrodVars enc P W' sp s.vars (s.fn H (ds ++ [])).vars [] := by
    intro sp
    rw [hv, hvars]
    rfl
  refine ⟨ds, [], p ++ [], [], p, [], hW0, hr _ _ _, ha _ (fun x hx => by simpa using hlt x (by simpa using hx)), hvv _, World.keptBut_mono (fun x hx => ⟨hx, .inr (by simpa using hx)⟩) (hb.frame _), fun _ => ?_⟩
  refine ⟨?_, _, _, ([] ++ p) ++ [], ⟨[] ++ p, [], trodAll_append (ha _ (fun _ _ => rfl)) (hr _ _ _), hvv _, rfl, ?_, ?_⟩, ?_⟩
  · exact ok_one hrt rfl (okWide_bool_mk htb true)
  · intro b off hp
    have hbl : b < W.heap.size := hlt (.cell b off) (by simpa using hp)
    rw [hb.frozen (p := ⟨b, off, none⟩) hbl]
    exact hz b off (by simpa using hp)
  · intro hap
    have := hn hap
    simpa using this
  · intro x hx _
    simpa using hx
def ArgOk (P : Program) (W : World) (t : Nat) (v : Value) : Prop := (∃ r base, Value.okWide P W r base t v) ∧ Rd P W 0 t v.cells.toList
theorem rd_all {W : World} {sp : Nat → Bool} {hd : Bool} : ∀ {ts : List TypeId} {vs : List Value} {ds : List (DataW H)} {ps : List MemPlace}, DataW.TrodAll enc P W 0 sp hd ts vs ds ps →
    ∀ (j : Nat) t v, ts[j]? = some t → vs[j]? = some v → Rd P W 0 t v.cells.toList
  | [], [], _, _, _, j, t, v, h, _ => by simp at h
  | t :: ts, v :: vs, d :: ds, ps, h, j, t', v', ht, hv => by
    obtain ⟨p, q, h1, h2, rfl⟩ := h
    cases j with
    | zero =>
      simp at ht hv; subst ht; subst hv
      obtain ⟨fuel, h⟩ := h1
      exact ⟨H, enc, _, _, fuel, _, h⟩
    | succ j => exact rd_all h2 j t' v' (by simpa using ht) (by simpa using hv)
  | [], _ :: _, _, _, _, j, t, v, h, _ => by simp at h
  | _ :: _, [], _, _, _, j, t, v, _, h => by simp at h
  | _ :: _, _ :: _, [], _, h, _, _, _, _, _ => h.elim
theorem trodAll_len {W : World} {sp : Nat → Bool} {hd : Bool} : ∀ {ts : List TypeId} {vs : List Value} {ds : List (DataW H)} {ps : List MemPlace}, DataW.TrodAll enc P W 0 sp hd ts vs ds ps → vs.length = ts.length ∧ ds.length = ts.length
  | [], [], [], _, _ => ⟨rfl, rfl⟩
  | t :: ts, v :: vs, d :: ds, ps, h => by
    obtain ⟨p, q, _, h2, _⟩ := h
    have := trodAll_len h2
    simp [this]
  | [], [], _ :: _, _, h => h.elim
  | [], _ :: _, _, _, h => h.elim
  | _ :: _, [], _, _, h => h.elim
  | _ :: _, _ :: _, [], _, h => h.elim
theorem ArgOk.int {W : World} {t : Nat} {k : IntKind} {v : Value} (h : ArgOk P W t v) (hu : P.underlying t = some (.int k)) : ∃ n, v = .int k n ∧ (Lit.int k n).wf = true := by
  obtain ⟨⟨r, b, h1⟩, h2⟩ := h
  obtain ⟨n, rfl⟩ := okWide_int hu h1
  have := kindsOf_sound 1 t [.int k] _ (by simp [kindsOf, hu]) h2
  obtain ⟨m, hm, hw⟩ := this.1
  simp at hm
  subst hm
  exact ⟨_, rfl, hw⟩
theorem ArgOk.bool {W : World} {t : Nat} {v : Value} (h : ArgOk P W t v) (hu : P.underlying t = some .bool) : ∃ b, v = .bool b :=
  let ⟨⟨_, _, h1⟩, _⟩ := h; okWide_bool hu h1
theorem ArgOk.slice {W : World} {t e : Nat} {v : Value} (h : ArgOk P W t v) (hu : P.underlying t = some (.slice e)) : CellOk P W 0 (.slice e) v := by
  obtain ⟨⟨r, b, h1⟩, h2⟩ := h
  obtain ⟨p, n, c, rfl⟩ := okWide_slice hu h1
  exact (kindsOf_sound 1 t [.slice e] _ (by simp [kindsOf, hu]) h2).1
theorem ArgOk.string {W : World} {t : Nat} {v : Value} (h : ArgOk P W t v) (hu : P.underlying t = some .string) : CellOk P W 0 .str v := by
  obtain ⟨⟨r, b, h1⟩, h2⟩ := h
  obtain ⟨s, rfl⟩ := okWide_string hu h1
  exact (kindsOf_sound 1 t [.str] _ (by simp [kindsOf, hu]) h2).1
theorem ArgOk.struct {W : World} {t m : Nat} {fs : Array Field} {ks : List CK} {v : Value} (h : ArgOk P W t v) (hu : P.underlying t = some (.struct fs)) (hk : kindsOf P m t = some ks) : ∃ cs : List Value, v = .agg cs.toArray ∧ CellsOk P W 0 ks cs := by
  obtain ⟨⟨r, b, h1⟩, h2⟩ := h
  obtain ⟨cs, rfl, _⟩ := okWide_struct hu h1
  exact ⟨cs.toList, by simp, kindsOf_sound m t ks _ hk h2⟩
theorem CellsOk.cons {P : Program} {w : World} {base : Nat} {k : CK} {ks : List CK} {cs : List Value} (h : CellsOk P w base (k :: ks) cs) : ∃ v vs, cs = v :: vs ∧ CellOk P w base k v ∧ CellsOk P w base ks vs := by
  cases cs with
  | nil => exact h.elim
  | cons v vs => exact ⟨v, vs, rfl, h.1, h.2⟩
theorem CellsOk.nil {P : Program} {w : World} {base : Nat} {cs : List Value} (h : CellsOk P w base [] cs) : cs = [] := by
  cases cs with
  | nil => rfl
  | cons v vs => exact h.elim
end
end Go.Eng

namespace Go.Proofs.Ytkjhpaeminegoaa
open Go.Eng
def BytesIn (po : Option Addr) (n : Nat) (g : Nat → Int) (W : World) : Prop := 0 < n → ∃ b y, po = some ⟨b, y, none⟩ ∧ BytesAt b y n g W
structure SStep where
  (kd i at' : Int) (bp : Option Addr) (bn bc : Nat) (torn : Bool) (by' : Int) (g : Nat → Int)
def SStep.vals (e : SStep) : List Value := [.int .i64 e.kd, .int .i64 e.i, .int .i64 e.at', .slice e.bp e.bn e.bc, .bool e.torn, .int .u8 e.by']
structure StepsAt (po : Option Addr) (n : Nat) (f : Nat → SStep) (b x : Nat) (W : World) : Prop where
  po : 0 < n → po = some ⟨b, x, none⟩
  row : ∀ i, i < n → ∀ (j : Nat) (v : Value), (f i).vals[j]? = some v → W.cell? ⟨b, x + i * 6 + j, none⟩ = some v
  by' : ∀ i, i < n → BytesIn (f i).bp (f i).bn (f i).g W
theorem kindsStep : kindsOf Try.prog 8 32 = some [.int .i64, .int .i64, .int .i64, .slice 5, .bool, .int .u8] := by kernel_rfl
theorem cellsStep : Try.prog.cellsOf 32 = 6 := by kernel_rfl
theorem kindsU8 : kindsOf Try.prog 8 5 = some [.int .u8] := by kernel_rfl
theorem cellsU8 : Try.prog.cellsOf 5 = 1 := by kernel_rfl
theorem rdCells {W : World} {b y e : Nat} {ks : List CK} (h : RdAt Try.prog W 0 b y e) (hk : kindsOf Try.prog 8 e = some ks) : ∃ cs, CellsOk Try.prog W 0 ks cs ∧ ∀ (j : Nat) (v : Value), cs[j]? = some v → W.cell? ⟨b, y + j, none⟩ = some v := by
  obtain ⟨_, cs, _, h2, h3⟩ := h
  exact ⟨cs, kindsOf_sound 8 e ks cs hk h3, h2⟩
instance : Inhabited SStep := ⟨⟨0, 0, 0, none, 0, 0, false, 0, fun _ => 0⟩⟩
def smallS (size count : Int) (n : Nat) (f : Nat → SStep) : Prop := 64 ≤ size ∧ size ≤ 512 ∧ 1 ≤ count ∧ count ≤ 40 ∧ n ≤ 60 ∧ ∀ i, i < n → (f i).bn ≤ 600
set_option maxHeartbeats 8000000 in
set_option maxRecDepth 100000 in
set_option cbv.maxSteps 100000000 in
theorem great12_ok (size count : Int) (po : Option Addr) (n cp b x : Nat) (f : Nat → SStep) (w : World) (hl : StepsAt po n f b x w) :
    Calls Try.prog 10 #[.int .i64 size, .int .i64 count, .slice po n cp] w fun e w' => ∃ g : Bool, e = .returned (.bool g) ∧ (g = false → smallS size count n f) ∧ Chg (fun _ _ => False) w w' := by
  obtain ⟨Q, hQ⟩ : ∃ Q : Ending → World → Prop, Q = fun e w' => ∃ g : Bool, e = .returned (.bool g) ∧ (g = false → smallS size count n f) ∧ Chg (fun _ _ => False) w w' := ⟨_, rfl⟩
  rw [← hQ]
  refine X.begin (rg := []) (N := []) (ss := [.int .i64 (.v size), .int .i64 (.v count), .slv po n cp]) Try.func10 rfl B10_ok rfl rfl Sat.std0 ?_
  obtain ⟨im, hime⟩ : ∃ im, im = elsewhere [] [] w := ⟨_, rfl⟩
  have him : ∀ {k o v}, w.cell? ⟨k, o, none⟩ = some v → im k o = some v := fun h => by rw [hime, elsewhere_not inR_nil]; exact h
  show X (mkE Try.prog Try.f10 Q w (InR [] []) (elsewhere [] [] w) (fun _ _ => False) (fun _ => True) [] B10) _ _
  rw [← hime]
  refine X.go T10_ok 400 _ rfl Try.results10 ?_
  conv => arg 2; cbv
  refine X.cond rfl (fun _ => ?_) (fun hc => ?_)
  · refine X.go T10_ok 400 _ rfl Try.results10 ?_
    conv => arg 2; cbv
    refine X.done T10_ok rfl (fun N w' v hN hS hv => ?_)
    cases hv
    rw [hQ]
    exact ⟨true, rfl, fun h => (by cases h), hS.chg.mono fun k o _ h => inR_nil h⟩
  simp only [SB.F, SI.den] at hc
  refine X.less [0, 1, 2] ?_
  show X (mkE Try.prog Try.f10 Q w (InR [] []) im (fun _ _ => False) (fun _ => True) [] B10) _ _
  refine X.go T10_ok 400 _ rfl Try.results10 ?_
  conv => arg 2; cbv
  refine X.loop1 (fun i : {i : Nat // i ≤ n ∧ ∀ j, j < i → (f j).bn ≤ 600} => ⟨[(2, .val (.slv po n cp)), (7, .val (.int .i64 (.nat i.1)))], []⟩) (fun i => n - i.1) (fun N a w' hN hf hS => ⟨⟨0, Nat.zero_le _, fun j hj => by omega⟩, ?_⟩) (fun i q hq => ?_)
  · exact At.same hN hf hS (Nat.zero_le _) ⟨⟨_, rfl, .inl ⟨rfl, rfl⟩⟩, ⟨_, rfl, .inr ⟨_, rfl, rfl⟩⟩, trivial⟩ trivial
  obtain ⟨i, hi, hsm⟩ := i
  refine X.go T10_ok 400 _ rfl Try.results10 ?_
  conv => arg 2; cbv
  refine X.cond rfl (fun hlt => ?_) (fun hge => ?_)
  · simp only [SB.T, SI.den] at hlt
    have hlt : i < n := by omega
    refine X.go T10_ok 400 _ rfl Try.results10 ?_
    conv => arg 2; cbv
    obtain ⟨z, hz⟩ : ∃ z, z = x + i * 6 := ⟨_, rfl⟩
    obtain ⟨bp, hbp⟩ : ∃ z, z = (f i).bp := ⟨_, rfl⟩
    obtain ⟨bn, hbn⟩ : ∃ z, z = (f i).bn := ⟨_, rfl⟩
    obtain ⟨bc, hbc⟩ : ∃ z, z = (f i).bc := ⟨_, rfl⟩
    refine X.idxSlv rfl rfl rfl rfl rfl Try.underlying22 Try.sizeOf32 i rfl hlt b x z (hl.po (by omega)) hz rfl ?_
    refine X.go T10_ok 1 _ rfl Try.results10 ?_
    conv => arg 2; cbv
    refine X.load1 T10_ok (r := .slv bp bn bc) rfl rfl rfl rfl rfl rfl (fun N _ => ⟨_, rfl, him (by rw [hz, hbp, hbn, hbc]; exact hl.row i hlt 3 _ rfl)⟩) rfl ?_
    refine X.go T10_ok 400 _ rfl Try.results10 ?_
    conv => arg 2; cbv
    refine X.cond rfl (fun _ => ?_) (fun hc2 => ?_)
    · refine X.go T10_ok 400 _ rfl Try.results10 ?_
      conv => arg 2; cbv
      refine X.done T10_ok rfl (fun N w' v hN hS hv => ?_)
      cases hv
      rw [hQ]
      exact ⟨true, rfl, fun h => (by cases h), hS.chg.mono fun k o _ h => inR_nil h⟩
    simp only [SB.F, SI.den] at hc2
    refine X.go T10_ok 400 _ rfl Try.results10 ?_
    conv => arg 2; cbv
    refine X.back (fun N a w' hN hf hS => hq ⟨i + 1, by omega, fun j hj => ?_⟩ a w' (by simp only; omega) ?_)
    · rcases Nat.lt_or_ge j i with h | h
      · exact hsm j h
      · have e : j = i := by omega
        rw [e, ← hbn]
        first | exact Int.ofNat_le.1 hc2 | exact Int.ofNat_le.1 (Int.not_lt.1 hc2)
    · exact At.same hN hf hS (Nat.zero_le _) ⟨⟨_, rfl, .inl ⟨rfl, rfl⟩⟩, ⟨_, rfl, .inr ⟨_, rfl, by simp [SV.den, SI.den, hwrap64s i (by omega)]⟩⟩, trivial⟩ trivial
  · simp only [SB.F, SI.den] at hge
    obtain rfl : i = n := by omega
    refine X.go T10_ok 400 _ rfl Try.results10 ?_
    conv => arg 2; cbv
    refine X.done T10_ok rfl (fun N w' v hN hS hv => ?_)
    cases hv
    rw [hQ]
    exact ⟨false, rfl, fun _ => ⟨by omega, by omega, by omega, by omega, by omega, hsm⟩, hS.chg.mono fun k o _ h => inR_nil h⟩
def strG (g : Nat → Int) (n : Nat) : ByteArray := strOfNums ((List.range n).map g)
theorem strG_eq {g h : Nat → Int} {n : Nat} (e : ∀ j, j < n → g j = h j) : strG g n = strG h n := by
  unfold strG
  congr 1
  exact List.map_congr_left fun j hj => e j (List.mem_range.1 hj)
section
open Go
variable {E : Ctx} {T : Tab} {all : Array Oper} {i : Nat} {rest : List Nat} {k : List It} {s : St} {o : Oper} {f : Fr}
theorem toStr {src e dst : TypeId} {x : Operand} {r n : Nat} {kc : Option Nat} {G : Nat → Int} {g : Rg} (ho : nth all.toList i = some o) (hg : o.guard = none) (hop : o.op = .convert src dst x) (hx : ev s.fr x = some (.osl r 0 n 1 kc)) (hr : s.rg[r]? = some g) (hgc : g.cells = bytesL G n)
    (hs : E.P.underlying src = some (.slice e)) (he : E.P.underlying e = some (.int .u8)) (hd : E.P.underlying dst = some .string)
    (hp : putO E.n s.fr o.dst (.val (.raw (.string (strG G n)))) = some f) (hk : X E (.ops all rest :: k) ⟨f, s.rg⟩) : X E (.ops all (i :: rest) :: k) s := by
  refine X.value ho hg _ hp (fun N a w hN hfr hS => ?_) hk
  refine ⟨_, rfl, ?_⟩
  have h1 := ev_sound hfr hx
  obtain ⟨p, hp⟩ : ∃ p, N[r]? = some p := ⟨_, List.getElem?_eq_getElem (by rw [hS.len]; exact (List.getElem?_eq_some_iff.1 hr).1)⟩
  simp only [SV.den, hp, Option.some.injEq] at h1
  have := run_convert_bytes_arg (P := E.P) (w := w) src e hs he p.b (p.o + 0) n (p.cap 0 1 kc) ((List.range n).map G) (by simp) (fun j hj => by
    obtain ⟨v, k1, k2⟩ := hS.cell r g p hr hp j (.int .u8 (.v (G j))) (by rw [hgc]; exact bytesL_at hj)
    cases k1
    rw [Nat.add_zero, k2]
    simp [List.getD, List.getElem?_map, List.getElem?_range hj, SI.den]) dst hd
  simp only [execOp, hop, ← h1, this, Sem.run_bind, Result.andThen, Sem.run_pure]
  rfl
end
end Go.Proofs.Ytkjhpaeminegoaa

namespace Go.Proofs.Ytkjhpaeminegoaa
open Go.Eng
abbrev Wl := List (Int × (Nat → Int))
def foldW (st : Int → Nat → Int) (l : Wl) (i : Int) : Nat → Int := l.foldl (fun acc x => if x.1 = i then x.2 else acc) (st i)
theorem foldW_snoc (st : Int → Nat → Int) (l : Wl) (x : Int × (Nat → Int)) (i : Int) : foldW st (l ++ [x]) i = if x.1 = i then x.2 else foldW st l i := by
  unfold foldW; rw [List.foldl_append]; rfl
def Dk.log (d : Dk) (n : Nat) : Wl := (List.range n).map fun q => ((d.ws q).1, (d.ws q).2.f)
theorem Dk.log_succ (d : Dk) (n : Nat) : d.log (n + 1) = d.log n ++ [((d.ws n).1, (d.ws n).2.f)] := by simp [Dk.log, List.range_succ]
theorem Dk.log_take (d : Dk) {z n : Nat} (h : z ≤ n) : (d.log n).take z = d.log z := by
  unfold Dk.log
  rw [← List.map_take, List.take_range, Nat.min_eq_left h]
theorem Dk.log_len (d : Dk) (n : Nat) : (d.log n).length = n := by simp [Dk.log]
theorem rdF_fold (d : Dk) (st : Int → Nat → Int) (i : Int) : ∀ n, rdF (st i) d.ws i n = foldW st (d.log n) i
  | 0 => rfl
  | n + 1 => by rw [Dk.log_succ, foldW_snoc, ← rdF_fold d st i n]; rfl
def stK (kept : Int → Option By) (i : Int) : Nat → Int := match kept i with
  | some u => u.f
  | none => fun _ => 0
theorem Dk.st_eq (d : Dk) (i : Int) : d.st i = stK d.kept i := rfl
theorem stK_upd (kept : Int → Option By) (q : Int) (u : By) (i : Int) : stK (updK kept q u) i = if q = i then u.f else stK kept i := by
  unfold stK updK
  by_cases e : i = q
  · subst e; simp
  · rw [if_neg e, if_neg (fun h => e h.symm)]
theorem stK_settle (d : Dk) (i : Int) : ∀ n, stK (settleK d.kept d.ws 0 n) i = foldW (stK d.kept) (d.log n) i
  | 0 => rfl
  | n + 1 => by
    rw [Dk.log_succ, foldW_snoc, ← stK_settle d i n]
    simp only [settleK, Nat.zero_add]
    rw [stK_upd]
structure Plain (B size count : Nat) (st : Int → Nat → Int) (l : Wl) (d : Dk) : Prop where
  ok : d.Ok
  off : d.h.off = false
  fused : d.h.fused = false
  size : d.h.size = size
  count : d.h.count = count
  far : ∀ k o, d.D k o → B ≤ k
  st : ∀ i, stK d.kept i = st i
  log : d.log d.h.n = l
theorem Plain.len {B size count : Nat} {st : Int → Nat → Int} {l : Wl} {d : Dk} (h : Plain B size count st l d) : l.length = d.h.n := by rw [← h.log, Dk.log_len]
theorem Plain.rd {B size count : Nat} {st : Int → Nat → Int} {l : Wl} {d : Dk} (h : Plain B size count st l d) (i : Int) : d.rd i = foldW st l i := by
  unfold Dk.rd
  rw [Dk.st_eq, rdF_fold d (stK d.kept) i, h.log]
  unfold foldW
  rw [h.st i]
structure To (B size count : Nat) (st : Int → Nat → Int) (l : Wl) (d d' : Dk) (w w' : World) : Prop where
  b : d'.b = d.b
  y : d'.y = d.y
  p : Plain B size count st l d'
  at' : DiskAt d' w'
  chg : Chg d.D w w'
  inD : ∀ k o, d'.D k o → d.D k o ∨ w.heap.size ≤ k
end Go.Proofs.Ytkjhpaeminegoaa

namespace Go.Proofs.Ytkjhpaeminegoaa
open Go.Eng
def tornF (size : Nat) (f s : Nat → Int) (j : Nat) : Int := if j < size / 2 then f j else s j
def Dk.rewr (d : Dk) (i : Nat) (f : Nat → Int) : Dk := { d with ws := updA d.ws i ((d.ws i).1, { (d.ws i).2 with f := f }) }
theorem Dk.rewr_1 (d : Dk) (i : Nat) (f : Nat → Int) (j : Nat) : ((d.rewr i f).ws j).1 = (d.ws j).1 := by
  unfold Dk.rewr updA
  dsimp only
  split
  · rename_i h; subst h; rfl
  · rfl
theorem Dk.rewr_D (d : Dk) (i : Nat) (f : Nat → Int) (j z : Nat) : ((d.rewr i f).ws j).2.D z = (d.ws j).2.D z := by
  unfold Dk.rewr updA
  dsimp only
  split
  · rename_i h; subst h; rfl
  · rfl
theorem Dk.rewr_val (d : Dk) (i : Nat) (f : Nat → Int) (j z : Nat) : ((d.rewr i f).ws j).2.val z = (d.ws j).2.val z := by
  unfold Dk.rewr updA
  dsimp only
  split
  · rename_i h; subst h; rfl
  · rfl
theorem Dk.rewr_ok0 {d : Dk} (ok : d.Ok0) (i : Nat) (f : Nat → Int) : (d.rewr i f).Ok0 := by
  refine ⟨ok.sz, ok.ct, ok.nn, ok.po, fun j hj => ?_, ok.a1, fun j hj k o h => ?_, ok.a3, fun j j' hj hj' hne k o h h' => ?_⟩
  · rw [Dk.rewr_1]; exact ok.wi j hj
  · rw [Dk.rewr_D] at h; exact ok.a2 j hj k o h
  · rw [Dk.rewr_D] at h h'; exact ok.a4 j j' hj hj' hne k o h h'
theorem settleK_congr {kept : Int → Option By} {ws ws' : Nat → Int × By} {i0 : Nat} : ∀ {n : Nat}, (∀ j, j < n → ws (i0 + j) = ws' (i0 + j)) → settleK kept ws i0 n = settleK kept ws' i0 n
  | 0, _ => rfl
  | n + 1, h => by
    simp only [settleK]
    rw [settleK_congr fun j hj => h j (by omega), h n (by omega)]
theorem settleK_rewr (d : Dk) {i : Nat} (f : Nat → Int) {n : Nat} (h : n ≤ i) : settleK d.kept (d.rewr i f).ws 0 n = settleK d.kept d.ws 0 n :=
  settleK_congr fun j hj => updA_ne _ _ (by omega)
def Dk.butD (d : Dk) (i : Nat) (k o : Nat) : Prop := k = d.h.m ∨ d.rowD k o ∨ (∃ j, j < d.h.n ∧ j ≠ i ∧ (d.ws j).2.D d.h.size k o) ∨ ∃ q u, d.kept q = some u ∧ u.D d.h.size k o
structure ButAt (d : Dk) (i : Nat) (g : Int → Option Value) (w : World) : Prop where
  nc : d.h.n ≤ d.h.cp
  mp : MapAt d.h.m g w
  rm : ∀ o, o < d.h.cp * 2 → (w.cell? ⟨d.wb, d.wy + o, none⟩).isSome = true ∧ w.frozen? ⟨d.wb, d.wy + o, none⟩ = false
  rw : ∀ j, j < d.h.n → w.cell? ⟨d.wb, d.wy + j * 2, none⟩ = some (.int .i64 (d.ws j).1) ∧ w.cell? ⟨d.wb, d.wy + j * 2 + 1, none⟩ = some ((d.ws j).2.val d.h.size)
  wa : ∀ j, j < d.h.n → j ≠ i → (d.ws j).2.At d.h.size w
  ka : ∀ q u, d.kept q = some u → u.At d.h.size w
theorem RestAt.but {d : Dk} {w : World} (h : RestAt d w) (i : Nat) : ButAt d i d.g w := ⟨h.nc, h.mp, h.rm, h.rw, fun j hj _ => h.wa j hj, h.ka⟩
theorem ButAt.loc {d : Dk} {i : Nat} {g : Int → Option Value} : Eng.Loc (d.butD i) (ButAt d i g) := by
  intro w w' hs _ h
  have cl : ∀ {k o}, d.butD i k o → w'.cell? ⟨k, o, none⟩ = w.cell? ⟨k, o, none⟩ ∧ w'.frozen? ⟨k, o, none⟩ = w.frozen? ⟨k, o, none⟩ := fun hd => (hs _ _ hd).1
  have hn := h.nc
  refine ⟨hn, h.mp.at (hs d.h.m 0 (.inl rfl)).2, fun o ho => ?_, fun j hj => ?_, fun j hj hne => (h.wa j hj hne).at fun o ho => cl (.inr (.inr (.inl ⟨j, hj, hne, ho⟩))), fun q u hq => (h.ka q u hq).at fun o ho => cl (.inr (.inr (.inr ⟨q, u, hq, ho⟩)))⟩
  · obtain ⟨e1, e2⟩ := cl (k := d.wb) (o := d.wy + o) (.inr (.inl ⟨rfl, by omega, by omega⟩))
    rw [e1, e2]; exact h.rm o ho
  · have e1 := (cl (k := d.wb) (o := d.wy + j * 2) (.inr (.inl ⟨rfl, by omega, by omega⟩))).1
    have e2 := (cl (k := d.wb) (o := d.wy + j * 2 + 1) (.inr (.inl ⟨rfl, by omega, by omega⟩))).1
    rw [e1, e2]; exact h.rw j hj
theorem ButAt.there {d : Dk} {i : Nat} {g : Int → Option Value} {w : World} (h : ButAt d i g w) {k o : Nat} (hd : d.butD i k o) : There w k o := by
  rcases hd with rfl | ⟨rfl, h1, h2⟩ | ⟨j, hj, hne, hd⟩ | ⟨q, u, hq, hd⟩
  · exact .inr h.mp.ob
  · have := (h.rm (o - d.wy) (by omega)).1
    rw [show d.wy + (o - d.wy) = o by omega] at this
    exact .inl this
  · exact (h.wa j hj hne).there hd
  · exact (h.ka q u hq).there hd
theorem Dk.butD_rest {d : Dk} {i k o : Nat} (h : d.butD i k o) : d.restD k o := by
  rcases h with h | h | ⟨j, hj, _, h⟩ | h
  · exact .inl h
  · exact .inr (.inl h)
  · exact .inr (.inr (.inl ⟨j, hj, h⟩))
  · exact .inr (.inr (.inr h))
theorem ButAt.turn {d : Dk} {i : Nat} {g g' : Int → Option Value} {w w' : World} (hD : ButAt d i g w) (hc : Chg (fun k _ => k = d.h.m) w w') (hm : MapAt d.h.m g' w') : ButAt d i g' w' := by
  have mapNe : ∀ {k o : Nat}, (w.cell? ⟨k, o, none⟩).isSome = true → ¬ k = d.h.m := fun {k o} hc e => by
    obtain ⟨x, hx⟩ := Option.isSome_iff_exists.1 hD.mp.ob
    rw [e, cell_obj hx] at hc; cases hc
  have byAt : ∀ {u : By}, u.At d.h.size w → u.At d.h.size w' := fun {u} h => h.chg hc fun o ⟨e1, e2, e3⟩ => mapNe (k := u.k) (o := o) (by
    have := h.bytes (o - u.y) (by omega)
    rw [show u.y + (o - u.y) = o from by omega] at this
    rw [this]; rfl)
  refine ⟨hD.nc, hm, fun o ho => ?_, fun j hj => ?_, fun j hj hne => byAt (hD.wa j hj hne), fun q u hq => byAt (hD.ka q u hq)⟩
  · obtain ⟨h1, h2⟩ := hD.rm o ho
    exact ⟨some_of_chg hc _ h1, by rw [frozen_of_chg hc _ h1]; exact h2⟩
  · obtain ⟨h1, h2⟩ := hD.rw j hj
    exact ⟨cell_of_chg hc (mapNe (o := d.wy + j * 2) (by rw [h1]; rfl)) h1, cell_of_chg hc (mapNe (o := d.wy + j * 2 + 1) (by rw [h2]; rfl)) h2⟩
theorem ButAt.back {d : Dk} {i : Nat} {f : Nat → Int} {w : World} (hi : i < d.h.n) (h : ButAt (d.settled 0 i) i ((d.rewr i f).settled 0 (i + 1)).g w) (hb : ({ (d.ws i).2 with f := f } : By).At d.h.size w) (hh : HdAt d.b d.y d.h.backed w) (hf : HdFree d.b d.y w) :
    DiskAt (((d.rewr i f).settled 0 (i + 1)).withH d.h.backed) w := by
  obtain ⟨e1, e2, e3, e4, e5, e6⟩ := d.h.backed_same
  have hg : (((d.rewr i f).settled 0 (i + 1)).withH d.h.backed).g = ((d.rewr i f).settled 0 (i + 1)).g := by funext q; simp only [Dk.g, Dk.withH, e1]; rfl
  refine ⟨by simp [Dk.withH, e4], hh, hf, ?_, fun o ho => ?_, fun j hj => ?_, fun j hj => ?_, fun q u hq => ?_⟩
  · rw [hg]; show MapAt d.h.backed.m _ _; rw [e3]; exact h.mp
  · simp [Dk.withH, e5] at ho
  · simp [Dk.withH, e4] at hj
  · simp [Dk.withH, e4] at hj
  · show u.At d.h.backed.size w
    rw [e1]
    have hq : settleK d.kept (d.rewr i f).ws 0 (i + 1) q = some u := hq
    simp only [settleK, Nat.zero_add, updK] at hq
    by_cases e : q = ((d.rewr i f).ws i).1
    · rw [if_pos e] at hq
      have : ((d.rewr i f).ws i).2 = ({ (d.ws i).2 with f := f } : By) := by show (updA d.ws i _ i).2 = _; rw [updA_at]
      rw [this] at hq
      rw [← Option.some.inj hq]; exact hb
    · rw [if_neg e, settleK_rewr d f (Nat.le_refl _)] at hq
      exact h.ka q u hq
theorem but_apart {d : Dk} (ok : d.Ok) {i : Nat} (hi : i < d.h.n) {w : World} (hR : RestAt (d.settled 0 i) w) {k o : Nat} (hb : (d.settled 0 i).butD i k o) : ¬ (d.ws i).2.D d.h.size k o := fun hu => by
  rcases hb with h | h | ⟨j, hj, hne, h⟩ | ⟨q, u, hq, h⟩
  · have : There w k o := (hR.wa i hi).there hu
    obtain ⟨rfl, h1, h2⟩ := hu
    have := (hR.wa i hi).bytes (o - (d.ws i).2.y) (by show _ < d.h.size; omega)
    rw [show ((d.settled 0 i).ws i).2.y + (o - (d.ws i).2.y) = o by show (d.ws i).2.y + _ = _; omega] at this
    exact hR.mapNe (k := (d.ws i).2.k) (o := o) (by rw [show (d.ws i).2.k = ((d.settled 0 i).ws i).2.k from rfl, this]; rfl) h
  · exact (ok.a2 i hi k o hu).2 h
  · exact ok.a4 j i hj hi hne k o h hu
  · rcases settleK_cases hq with h' | ⟨j, h1, _, rfl⟩
    · exact ok.a5 i q u hi h' k o h hu
    · rw [Nat.zero_add] at h
      exact ok.a4 j i (by omega) hi (by omega) k o h hu
end Go.Proofs.Ytkjhpaeminegoaa

namespace Go.Proofs.Ytkjhpaeminegoaa
open Go.Eng
def pairD (c d : Dk) (k o : Nat) : Prop := c.D k o ∨ d.D k o
structure PairAt (c d : Dk) (w : World) : Prop where
  c : DiskAt c w
  d : DiskAt d w
def Apart (c d : Dk) : Prop := ∀ k o, c.D k o → ¬ d.D k o
theorem PairAt.loc {c d : Dk} : Eng.Loc (pairD c d) (PairAt c d) := fun w w' hs hl h => ⟨DiskAt.loc w w' (fun k o hd => hs k o (.inl hd)) hl h.c, DiskAt.loc w w' (fun k o hd => hs k o (.inr hd)) hl h.d⟩
theorem PairAt.there {c d : Dk} {w : World} (h : PairAt c d w) {k o : Nat} (hd : pairD c d k o) : There w k o := hd.elim h.c.there h.d.there
end Go.Proofs.Ytkjhpaeminegoaa
