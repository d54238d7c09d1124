/- The sector's functions: Back, where nothing is torn. -/
import Derived.Test.YtkjhpaeminegoaaSe10

namespace Go.Proofs.Ytkjhpaeminegoaa
open Go.Eng

/-- the disk's memory but for its own cells -/
def Dk.restD (d : Dk) (k o : Nat) : Prop := k = d.h.m ∨ d.rowD k o ∨ (∃ i, i < d.h.n ∧ (d.ws i).2.D d.h.size k o) ∨ ∃ q u, d.kept q = some u ∧ u.D d.h.size k o

structure RestAt (d : Dk) (w : World) : Prop where
  nc : d.h.n ≤ d.h.cp
  mp : MapAt d.h.m d.g w
  rm : ∀ o, o < d.h.cp * 2 → (w.cell? ⟨d.wb, d.wy + o, none⟩).isSome = true ∧ w.frozen? ⟨d.wb, d.wy + o, none⟩ = false
  rw : ∀ i, i < d.h.n → w.cell? ⟨d.wb, d.wy + i * 2, none⟩ = some (.int .i64 (d.ws i).1) ∧ w.cell? ⟨d.wb, d.wy + i * 2 + 1, none⟩ = some ((d.ws i).2.val d.h.size)
  wa : ∀ i, i < d.h.n → (d.ws i).2.At d.h.size w
  ka : ∀ q u, d.kept q = some u → u.At d.h.size w

theorem DiskAt.rest {d : Dk} {w : World} (h : DiskAt d w) : RestAt d w := ⟨h.nc, h.mp, h.rm, h.rw, h.wa, h.ka⟩
theorem RestAt.disk {d : Dk} {w : World} (h : RestAt d w) (hh : HdAt d.b d.y d.h w) (hf : HdFree d.b d.y w) : DiskAt d w := ⟨h.nc, hh, hf, h.mp, h.rm, h.rw, h.wa, h.ka⟩

theorem RestAt.loc {d : Dk} : Eng.Loc d.restD (RestAt d) := by
  intro w w' hs _ h
  have cl : ∀ {k o}, d.restD k o → w'.cell? ⟨k, o, none⟩ = w.cell? ⟨k, o, none⟩ ∧ w'.frozen? ⟨k, o, none⟩ = w.frozen? ⟨k, o, none⟩ := fun hd => (hs _ _ hd).1
  have hn := h.nc
  refine ⟨hn, h.mp.at (hs d.h.m 0 (.inl rfl)).2, fun o ho => ?_, fun i hi => ?_, fun i hi => (h.wa i hi).at fun o ho => cl (.inr (.inr (.inl ⟨i, hi, ho⟩))), fun q u hq => (h.ka q u hq).at fun o ho => cl (.inr (.inr (.inr ⟨q, u, hq, ho⟩)))⟩
  · obtain ⟨e1, e2⟩ := cl (k := d.wb) (o := d.wy + o) (.inr (.inl ⟨rfl, by omega, by omega⟩))
    rw [e1, e2]; exact h.rm o ho
  · have e1 := (cl (k := d.wb) (o := d.wy + i * 2) (.inr (.inl ⟨rfl, by omega, by omega⟩))).1
    have e2 := (cl (k := d.wb) (o := d.wy + i * 2 + 1) (.inr (.inl ⟨rfl, by omega, by omega⟩))).1
    rw [e1, e2]; exact h.rw i hi

theorem RestAt.there {d : Dk} {w : World} (h : RestAt d w) {k o : Nat} (hd : d.restD k o) : There w k o := by
  rcases hd with rfl | ⟨rfl, h1, h2⟩ | ⟨i, hi, hd⟩ | ⟨q, u, hq, hd⟩
  · exact .inr h.mp.ob
  · have := (h.rm (o - d.wy) (by omega)).1
    rw [show d.wy + (o - d.wy) = o by omega] at this
    exact .inl this
  · exact (h.wa i hi).there hd
  · exact (h.ka q u hq).there hd

theorem Dk.restD_D {d : Dk} {k o : Nat} (h : d.restD k o) : d.D k o := .inr h

theorem RestAt.mapNe {d : Dk} {w : World} (h : RestAt d w) {k o : Nat} (hc : (w.cell? ⟨k, o, none⟩).isSome = true) : k ≠ d.h.m := fun e => by
  obtain ⟨x, hx⟩ := Option.isSome_iff_exists.1 h.mp.ob
  rw [e, cell_obj hx] at hc; cases hc

theorem RestAt.settled {d : Dk} {w w' : World} {i0 n : Nat} (hD : RestAt d w) (hn : i0 + n ≤ d.h.n) (hc : Chg (fun k _ => k = d.h.m) w w') (hm : MapAt d.h.m (d.settled i0 n).g w') : RestAt (d.settled i0 n) w' := by
  have ne : ∀ {k o : Nat}, (w.cell? ⟨k, o, none⟩).isSome = true → ¬ k = d.h.m := fun h => hD.mapNe h
  have nc := hD.nc
  have byAt : ∀ {u : By}, u.At d.h.size w → u.At d.h.size w' := fun {u} h => h.chg hc fun o ⟨e1, e2, e3⟩ => ne (k := u.k) (o := o) (by
    have := h.bytes (o - u.y) (by omega)
    rw [show u.y + (o - u.y) = o from by omega] at this
    rw [this]; rfl)
  refine ⟨nc, hm, fun o ho => ?_, fun i hi => ?_, fun i hi => byAt (hD.wa i hi), fun q u hq => ?_⟩
  · obtain ⟨h1, h2⟩ := hD.rm o ho
    show (w'.cell? ⟨d.wb, d.wy + o, none⟩).isSome = true ∧ w'.frozen? ⟨d.wb, d.wy + o, none⟩ = false
    exact ⟨some_of_chg hc _ h1, by rw [frozen_of_chg hc _ h1]; exact h2⟩
  · obtain ⟨h1, h2⟩ := hD.rw i hi
    show w'.cell? ⟨d.wb, d.wy + i * 2, none⟩ = some (.int .i64 (d.ws i).1) ∧ w'.cell? ⟨d.wb, d.wy + i * 2 + 1, none⟩ = some ((d.ws i).2.val d.h.size)
    exact ⟨cell_of_chg hc (ne (o := d.wy + i * 2) (by rw [h1]; rfl)) h1, cell_of_chg hc (ne (o := d.wy + i * 2 + 1) (by rw [h2]; rfl)) h2⟩
  · rcases settleK_cases hq with h | ⟨j, h1, _, rfl⟩
    · exact byAt (hD.ka q u h)
    · exact byAt (hD.wa (i0 + j) (by omega))

theorem Dk.settled_restD {d : Dk} {i0 n : Nat} (hn : i0 + n ≤ d.h.n) {k o : Nat} (h : (d.settled i0 n).restD k o) : d.restD k o := by
  rcases h with h | h | h | ⟨q, u, hq, h⟩
  · exact .inl h
  · exact .inr (.inl h)
  · exact .inr (.inr (.inl h))
  · rcases settleK_cases hq with h' | ⟨j, h1, _, rfl⟩
    · exact .inr (.inr (.inr ⟨q, u, h', h⟩))
    · exact .inr (.inr (.inl ⟨i0 + j, by omega, h⟩))

/-- the disk's own cells once it is back -/
def Hd.backed (h : Hd) : Hd := { h.fall with po := none, n := 0, cp := 0, off := false, fused := false }
theorem Hd.backed_same (h : Hd) : h.backed.size = h.size ∧ h.backed.count = h.count ∧ h.backed.m = h.m ∧ h.backed.n = 0 ∧ h.backed.cp = 0 ∧ h.backed.po = none := by
  obtain ⟨size, count, m, po, n, cp, off, falls, fused, fuse⟩ := h
  cases off <;> simp [Hd.backed, Hd.fall]

/-- nothing waits any more: the disk that is back -/
theorem RestAt.back {d : Dk} {w : World} (h : RestAt d w) (hh : HdAt d.b d.y d.h.backed w) (hf : HdFree d.b d.y w) : DiskAt (d.withH d.h.backed) w := by
  obtain ⟨e1, e2, e3, e4, e5, e6⟩ := d.h.backed_same
  have hg : (d.withH d.h.backed).g = d.g := by funext q; simp [Dk.g, Dk.withH, e1]
  refine ⟨by simp [Dk.withH, e4], hh, hf, ?_, fun o ho => ?_, fun i hi => ?_, fun i hi => ?_, fun q u hq => ?_⟩
  · rw [hg]; show MapAt d.h.backed.m _ _; rw [e3]; exact h.mp
  · simp [Dk.withH, e5] at ho
  · simp [Dk.withH, e4] at hi
  · simp [Dk.withH, e4] at hi
  · simp only [Dk.withH, e1] at hq ⊢; exact h.ka q u hq

theorem Dk.backed_ok {d : Dk} (ok : d.Ok0) : (d.withH d.h.backed).Ok := by
  obtain ⟨e1, e2, e3, e4, e5, e6⟩ := d.h.backed_same
  have nr : ∀ k o, ¬ (d.withH d.h.backed).rowD k o := fun k o ⟨_, h2, h3⟩ => by simp only [Dk.withH, e5] at h2 h3; omega
  have nn : ∀ i, ¬ i < (d.withH d.h.backed).h.n := fun i hi => by simp [Dk.withH, e4] at hi
  refine ⟨⟨?_, ?_, ?_, .inl ⟨e6, e4, e5⟩, fun i hi => absurd hi (nn i), fun k o _ h => nr k o h, fun i hi => absurd hi (nn i), fun q u hq k o h => ⟨?_, nr k o⟩, fun i _ hi => absurd hi (nn i)⟩, fun i _ _ hi => absurd hi (nn i)⟩
  · show 64 ≤ d.h.backed.size ∧ d.h.backed.size ≤ 512; rw [e1]; exact ok.sz
  · show 1 ≤ d.h.backed.count ∧ d.h.backed.count ≤ 4096; rw [e2]; exact ok.ct
  · show d.h.backed.n ≤ _; rw [e4]; exact Nat.zero_le _
  · have h : u.D d.h.backed.size k o := h
    rw [e1] at h; exact (ok.a3 q u hq k o h).1

theorem Dk.backed_D {d : Dk} {k o : Nat} (h : (d.withH d.h.backed).D k o) : d.D k o := by
  obtain ⟨e1, e2, e3, e4, e5, e6⟩ := d.h.backed_same
  rcases h with h | h | ⟨h1, h2, h3⟩ | ⟨i, hi, h⟩ | ⟨q, u, hq, h⟩
  · exact .inl h
  · have h : k = d.h.backed.m := h
    rw [e3] at h; exact .inr (.inl h)
  · simp only [Dk.withH, e5] at h2 h3; omega
  · simp [Dk.withH, e4] at hi
  · have h : u.D d.h.backed.size k o := h
    rw [e1] at h; exact .inr (.inr (.inr (.inr ⟨q, u, hq, h⟩)))

section
open Go
variable {E : Ctx} {T : Tab} {all : Array Oper} {i : Nat} {rest : List Nat} {k : List It} {s : St} {o : Oper} {f : Fr}

/-- a slice, nil or not, cut short -/
theorem cutP {t e : TypeId} {x up : Operand} {p : Option Addr} {n c z : Nat} {kd : IntKind} {ex : SI} (ho : nth all.toList i = some o) (hg : o.guard = none) (hop : o.op = .slice t x none (some up) none) (hx : ev s.fr x = some (.slv p n c)) (hi : ev s.fr up = some (.int kd ex))
    (hu : E.P.underlying t = some (.slice e)) {q : Nat} (hq : ∀ w, (sizeOf e).run E.P w = .ok q w) (hz : ex.den = (z : Int)) (hle : z ≤ c) (hp0 : (p = none ∧ c = 0) ∨ ∃ b y, p = some ⟨b, y, none⟩)
    (hp : putO E.n s.fr o.dst (.val (.slv p z c)) = some f) (hk : X E (.ops all rest :: k) ⟨f, s.rg⟩) : X E (.ops all (i :: rest) :: k) s := by
  rcases hp0 with ⟨rfl, rfl⟩ | ⟨b, y, hp0⟩
  · obtain rfl : z = 0 := by omega
    refine X.value ho hg _ hp (fun N a w hN hfr hS => ?_) hk
    refine ⟨_, rfl, ?_⟩
    have h1 := ev_sound hfr hx
    have h2 := ev_sound hfr hi
    simp only [SV.den, Option.some.injEq] at h1 h2
    have hb := run_sliceBounds (P := E.P) (w := w) (ρ' := a.eval) (b := true) (len := n) (cap := 0) (lo := none) (hi := some up) (mx := none) (l := none) (h := some 0) (m := none) (.inl ⟨rfl, rfl⟩) (.inr ⟨kd, 0, by simp [← h2, hz], rfl⟩) (.inl ⟨rfl, rfl⟩)
      (by simp) (by simp) (by simp) (by simp)
    simp only [Option.map_none, Option.map_some, Option.getD_none, Option.getD_some] at hb
    simp [execOp, hop, ← h1, Instr.sliceAt, run_underlying hu, Result.andThen, Instr.slice, hb, hq]
  · exact X.cut ho hg hop hx hi hu hq hz hle b y hp0 hp hk
end

/-- how many writes stay -/
def keepN (keep : Int) (n : Nat) : Nat := min (max keep 0).toNat n

set_option maxHeartbeats 8000000 in
set_option maxRecDepth 100000 in
set_option cbv.maxSteps 100000000 in
theorem back_whole (d : Dk) (keep : Int) (torn : Bool) (w : World) (hD : DiskAt d w) (ok : d.Ok) (z : Nat) (hz : z = keepN keep d.h.n) (ht : torn = false ∨ z = 0) :
    Calls Try.prog 16 #[.pointer (some ⟨d.b, d.y, none⟩), .int .i64 keep, .bool torn] w fun e w' => e = .returned (.tuple #[]) ∧ DiskAt ((d.settled 0 z).withH d.h.backed) w' ∧ ((d.settled 0 z).withH d.h.backed).Ok ∧ Chg d.D w w' ∧ ∀ k o, ((d.settled 0 z).withH d.h.backed).D k o → d.D k o := by
  obtain ⟨Q, hQ⟩ : ∃ Q : Ending → World → Prop, Q = fun e w' => e = .returned (.tuple #[]) ∧ DiskAt ((d.settled 0 z).withH d.h.backed) w' ∧ ((d.settled 0 z).withH d.h.backed).Ok ∧ Chg d.D w w' ∧ ∀ k o, ((d.settled 0 z).withH d.h.backed).D k o → d.D k o := ⟨_, rfl⟩
  rw [← hQ]
  have hfree := hD.hf
  have hcell := hD.hd
  refine X.beginR d.D (DiskAt d) (ss := [.ext d.b d.y 0, .int .i64 (.v keep), .bool (.v torn)]) Try.func16 rfl B16_ok rfl rfl (fun k o h => hD.there h) DiskAt.loc hD ?_
  obtain ⟨im, hime⟩ : ∃ im, im = outside d.D w := ⟨_, rfl⟩
  have him : ∀ k o, d.D k o → im k o = none := fun k o h => by rw [hime]; exact outside_in h
  show X (mkE Try.prog Try.f16 Q w d.D (outside d.D w) d.D (DiskAt d) [] B16) _ _
  rw [← hime]
  obtain ⟨cs, hcs⟩ : ∃ cs : List SV, cs = d.h.sv := ⟨_, rfl⟩
  have hlen : cs.length = 8 := by rw [hcs]; rfl
  refine X.focus d.b d.y cs d.restD (RestAt d) (fun w1 h1 j c hj => ?_) (by omega) (fun j hj => .inl ⟨rfl, by omega, by omega⟩) (fun k i h => ⟨.inr h, fun ⟨e1, e2, e3⟩ => ?_⟩) (.inr fun j hj => .inl ⟨rfl, by omega, by omega⟩) (fun j hj => him _ _ (.inl ⟨rfl, by omega, by omega⟩)) (fun g hg => by simp at hg) RestAt.loc (fun w h => h.rest) (fun N0 hN0 hNl => ?_)
  · rw [hcs] at hj
    obtain ⟨v, k1, k2⟩ := h1.hd.cells [] j c hj
    exact ⟨v, k1, k2, h1.hf j (by have := (List.getElem?_eq_some_iff.1 hj).1; exact this)⟩
  · rcases h with h | h | ⟨q, hq, h⟩ | ⟨q, u, hq, h⟩
    · subst h
      have := (hD.hd.room hD.hf (i - d.y) (by omega)).1
      rw [show d.y + (i - d.y) = i by omega] at this
      exact hD.mapNe (k := d.b) this e1.symm
    · exact ok.a1 k i ⟨e1, e2, by omega⟩ h
    · exact (ok.a2 q hq k i h).1 ⟨e1, e2, by omega⟩
    · exact (ok.a3 q u hq k i h).1 ⟨e1, e2, by omega⟩
  obtain rfl : N0 = [] := List.eq_nil_of_length_eq_zero hNl
  rw [hlen]
  refine X.reval 0 (.own 0 0) (v := .ext d.b d.y 0) rfl (fun N hN x hx => ?_) ?_
  · have := hN 0 _ rfl
    simp only [SV.den, this] at hx ⊢
    exact hx
  refine X.less [0, 1, 2] ?_
  obtain ⟨D, hDe⟩ : ∃ D, D = d.restD := ⟨_, rfl⟩
  show X (mkE Try.prog Try.f16 Q w d.D im d.restD (RestAt d) [⟨d.b, d.y, 8⟩] B16) _ ⟨[(0, .val (.own 0 0)), (0, .val (.ext d.b d.y 0)), (1, .val (.int .i64 (.v keep))), (2, .val (.bool (.v torn)))], [⟨true, cs, none⟩]⟩
  rw [← hDe]
  have himD : ∀ k o, D k o → im k o = none := fun k o h => him k o (by rw [hDe] at h; exact Dk.restD_D h)
  have hO : ∀ k o, D k o → w.heap.size ≤ k ∨ d.D k o := fun k o h => .inr (by rw [hDe] at h; exact Dk.restD_D h)
  refine X.go T16_ok 400 _ rfl Try.results16 ?_
  conv => arg 2; cbv
  refine X.call rfl rfl rfl rfl Try.call26 (fun N w1 args hN hS ha => ?_)
  have q0 := hN 0 _ rfl
  have ha' : [Value.pointer (some ⟨d.b, d.y, none⟩)] = args := by simpa [SV.denL, SV.den, q0] using ha
  subst ha'
  refine (fall_ok d.b d.y d.h w1 (hd_back q0 hS (by rw [hcs]; rfl)) (fun j hj => (hS.room 0 _ _ rfl q0 rfl j hj).2)).mono fun e w2 ⟨he, k1, k2⟩ => ⟨_, he, ?_⟩
  refine Goes.cells (r := 0) (g := ⟨true, cs, none⟩) hN hS rfl q0 rfl k2 d.h.fall.sv (by exact Nat.le_refl _) (fun j c hj => k1.cells N j c hj) (rv := .tup []) rfl rfl ?_
  clear ha he k1 k2 hS hN q0
  obtain ⟨fl, hfl⟩ : ∃ fl : Int, d.h.fall = ⟨d.h.size, d.h.count, d.h.m, d.h.po, d.h.n, d.h.cp, true, fl, d.h.fused, d.h.fuse⟩ := by
    unfold Hd.fall
    cases ho : d.h.off with
    | true => exact ⟨d.h.falls, by simp [← ho]⟩
    | false => exact ⟨_, rfl⟩
  have hbk : d.h.backed = ⟨d.h.size, d.h.count, d.h.m, none, 0, 0, false, fl, false, d.h.fuse⟩ := by unfold Hd.backed; rw [hfl]
  rw [hfl]
  obtain ⟨size, hsz⟩ : ∃ x, x = d.h.size := ⟨_, rfl⟩
  obtain ⟨count, hct⟩ : ∃ x, x = d.h.count := ⟨_, rfl⟩
  obtain ⟨m, hm⟩ : ∃ x, x = d.h.m := ⟨_, rfl⟩
  obtain ⟨po, hpo⟩ : ∃ x, x = d.h.po := ⟨_, rfl⟩
  obtain ⟨n, hn⟩ : ∃ x, x = d.h.n := ⟨_, rfl⟩
  obtain ⟨cp, hcp⟩ : ∃ x, x = d.h.cp := ⟨_, rfl⟩
  obtain ⟨fused, hfu⟩ : ∃ x, x = d.h.fused := ⟨_, rfl⟩
  obtain ⟨fuse, hfs⟩ : ∃ x, x = d.h.fuse := ⟨_, rfl⟩
  rw [← hsz, ← hct, ← hm, ← hpo, ← hn, ← hcp, ← hfu, ← hfs]
  refine X.less [0, 1, 2] ?_
  show X (mkE Try.prog Try.f16 Q w d.D im D (RestAt d) [⟨d.b, d.y, 8⟩] B16) _ ⟨_, [⟨true, [.int .i64 (.nat size), .int .i64 (.nat count), .raw (.map (some m)), .slv po n cp, .bool (.lit true), .int .u64 (.v fl), .bool (.lit fused), .int .i64 (.v fuse)], none⟩]⟩
  refine X.go T16_ok 400 _ rfl Try.results16 ?_
  conv => arg 2; cbv
  refine X.drawnL (fn := Try.f16) T16_ok noCall (idxG 80 []) 12 [13] 12 rfl (by kernel_rfl) rfl noCall_ok (idxG_ok [] rfl (fun q hq => absurd hq List.not_mem_nil)) 80 rfl ?_
  generalize hfin : (fun s' => X (mkE Try.prog Try.f16 Q w d.D im D (RestAt d) [⟨d.b, d.y, 8⟩] B16) _ s') = fin
  conv => cbv
  repeat (first | refine ⟨rfl, ?_⟩ | refine ⟨⟨_, _, rfl, rfl⟩, ?_⟩ | refine ⟨⟨rfl, _, _, rfl, rfl⟩, ?_⟩)
  subst hfin
  show X _ _ _
  have hnc : n ≤ cp := by rw [hn, hcp]; exact hD.nc
  have hzn : z ≤ n := by rw [hz, hn]; exact Nat.min_le_right _ _
  refine cutP (z := z) rfl rfl rfl rfl rfl Try.underlying81 Try.sizeOf87 ?_ (by omega) ?_ rfl ?_
  · rw [hz]
    simp only [SI.den, keepN, ← hn]
    (repeat' split) <;> omega
  · rcases ok.po with h | h
    · exact .inl ⟨by rw [hpo]; exact h.1, by rw [hcp]; exact h.2.2⟩
    · exact .inr ⟨_, _, by rw [hpo]; exact h.1⟩
  refine X.go T16_ok 400 _ rfl Try.results16 ?_
  conv => arg 2; cbv
  refine X.cond rfl (fun hc => ?_) (fun _ => ?_)
  · exfalso
    simp only [SB.T, SI.den] at hc
    rcases ht with h | h
    · rw [h] at hc; simp at hc
    · rw [h] at hc; simp at hc
  refine X.go T16_ok 400 _ rfl Try.results16 ?_
  conv => arg 2; cbv
  refine X.call rfl rfl rfl rfl Try.call41 (fun N w1 args hN hS ha => ?_)
  have q0 := hN 0 _ rfl
  have ha' : [Value.pointer (some ⟨d.b, d.y, none⟩), .slice po z cp] = args := by simpa [SV.denL, SV.den, q0] using ha
  subst ha'
  have hR := hS.res
  have hnn : 0 + z ≤ d.h.n := by omega
  have hh1 : HdAt d.b d.y d.h.fall w1 := hd_back q0 hS (by rw [hfl, ← hsz, ← hct, ← hm, ← hpo, ← hn, ← hcp, ← hfu, ← hfs]; rfl)
  have e1 : (d.withH d.h.fall).g = d.g := by funext q; simp only [Dk.g, Dk.withH, (sameH_fall d.h).size]
  have e2 : ((d.withH d.h.fall).settled 0 z).g = (d.settled 0 z).g := by funext q; simp only [Dk.g, Dk.withH, Dk.settled, (sameH_fall d.h).size]
  refine (settle_ok (d.withH d.h.fall) 0 z po cp w1 hh1 (by rw [e1]; show MapAt d.h.fall.m _ _; rw [(sameH_fall d.h).m]; exact hR.mp) (by have := ok.nn; omega) (fun h0 => ?_) (fun j hj => ?_)).mono fun e w2 ⟨he, hm2, hc⟩ => ⟨_, he, ?_⟩
  · rcases ok.po with h | h
    · omega
    · show po = some ⟨d.wb, _, none⟩
      rw [hpo, h.1]; simp [Dk.withH]
  · have := hR.rw (0 + j) (by omega)
    simp only [Dk.withH, (sameH_fall d.h).size]
    exact this
  rw [e2] at hm2
  have hm2 : MapAt d.h.m (d.settled 0 z).g w2 := by have h := hm2; rwa [show (d.withH d.h.fall).h.m = d.h.m from (sameH_fall d.h).m] at h
  have hc : Chg (fun k _ => k = d.h.m) w1 w2 := by rw [← show (d.withH d.h.fall).h.m = d.h.m from (sameH_fall d.h).m]; exact hc
  have hR2 := hR.settled hnn hc hm2
  refine Goes.turn (r := .tup []) D (RestAt (d.settled 0 z)) hN hS (hc.mono fun k o _ h => by show D k o; rw [hDe]; exact .inl h) hO himD (fun g hg => by simp at hg; subst hg; exact .inl rfl) (fun k o hk => ⟨.inl hk, ?_⟩) (loc_mono RestAt.loc fun k o h => by rw [hDe]; exact Dk.settled_restD hnn h) hR2 rfl rfl ?_
  · have : There w1 k o := hR.there (by rw [hDe] at hk; exact hk)
    rcases this with h | h
    · exact .inl (some_of_chg hc o h)
    · by_cases ek : k = d.h.m
      · rw [ek]; exact .inr hm2.ob
      · exact .inr (by rw [objAt_chg hc h (fun _ h => ek h)]; exact h)
  show X (mkE Try.prog Try.f16 Q w d.D im D (RestAt (d.settled 0 z)) [⟨d.b, d.y, 8⟩] B16) _ _
  clear ha he hc hm2 hR hR2 hS hN q0 hh1
  refine X.go T16_ok 400 _ rfl Try.results16 ?_
  conv => arg 2; cbv
  refine X.over T16_ok rfl (fun N w' v hN hS hv => ?_)
  cases hv
  rw [hQ]
  have q0 := hN 0 _ rfl
  have hbs := d.h.backed_same
  have hfin := hS.res.back (hd_back q0 hS (by rw [show (d.settled 0 z).h = d.h from rfl, hbk, ← hsz, ← hct, ← hm, ← hfs]; rfl)) (fun j hj => (hS.room 0 _ _ rfl q0 rfl j hj).2)
  exact ⟨rfl, hfin, Dk.backed_ok (Dk.settled_ok0 ok.toOk0 hnn), hS.chg, fun k o h => Dk.settled_D hnn (Dk.backed_D (d := d.settled 0 z) h)⟩

end Go.Proofs.Ytkjhpaeminegoaa
