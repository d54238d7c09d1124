/- The sector's functions: Back, where the last write that stays is torn. -/
import Derived.Test.YtkjhpaeminegoaaSe18
import Derived.Test.YtkjhpaeminegoaaED

namespace Go.Proofs.Ytkjhpaeminegoaa
open Go.Eng

/-- the torn bytes of row i, once those ahead of it have settled -/
def Dk.tornB (d : Dk) (i : Nat) : Nat → Int := tornF d.h.size (d.ws i).2.f ((d.settled 0 i).st (d.ws i).1)

theorem copy_torn {rg : List Rg} {te : TI} {r r2 n h : Nat} {k k2 : Option Nat} {f g : Nat → Int} {cs cs2 : List SV} {o2 : Bool} {b2 : Option Ob} (h1 : te.size = 1) (hh : h ≤ n) (hr : nth rg r = some ⟨true, cs, none⟩) (hcs : cs = bytesL f n) (hr2 : nth rg r2 = some ⟨o2, cs2, b2⟩) (hcs2 : cs2 = bytesL g n) :
    copyV rg te (.osl r h (n - h) 1 k) (.osl r2 h (n - h) 1 k2) = some (.int .i64 (.lit (n - h : Nat)), rg.set r ⟨true, bytesL (fun j => if j < h then f j else g j) n, none⟩) := by
  have hl : cs.length = n := by rw [hcs, bytesL_len]
  have hl2 : cs2.length = n := by rw [hcs2, bytesL_len]
  have e1 : Nat.beq te.size 1 = true := by rw [h1]; rfl
  have e1' : Nat.beq 1 te.size = true := by rw [h1]; rfl
  have e2 : Nat.ble (h + (n - h) * te.size) cs2.length = true := Nat.ble_eq_true_of_le (by rw [h1, hl2]; omega)
  have hx : ((cs2.drop h).take ((n - h) * te.size)) = cs2.drop h := by rw [List.take_of_length_le]; rw [h1]; simp [hl2]
  have e3 : Nat.beq (cs2.drop h).length ((n - h) * 1) = true := by simp [hl2]
  have e4 : (cs2.drop h).all SV.one = true := List.all_eq_true.2 fun c hc => by
    have hc := List.mem_of_mem_drop hc
    rw [hcs2] at hc
    obtain ⟨j, hj, rfl⟩ := List.mem_map.1 hc
    rfl
  have e5 : Nat.ble (h + min (n - h) (n - h) * 1) cs.length = true := Nat.ble_eq_true_of_le (by rw [hl]; omega)
  unfold copyV
  simp only [srcV, hr, hr2, e1, e1', e2, Bool.and_self, cond_true, hx, e3, e4, e5]
  have hw : (cs2.drop h).take (min (n - h) (n - h) * 1) = cs2.drop h := by rw [List.take_of_length_le]; simp [hl2]
  rw [hw, Nat.min_self]
  congr 3
  congr 1
  refine List.ext_getElem? fun j => ?_
  rw [setRow_at _ _ _ _ (by simp [hl, hl2]; omega)]
  have hd : (cs2.drop h).length = n - h := by simp [hl2]
  rw [hd]
  by_cases hj : j < n
  · rw [bytesL_at hj]
    by_cases hjh : j < h
    · rw [if_neg (by omega), hcs, bytesL_at hj, if_pos hjh]
    · rw [if_pos (by omega), List.getElem?_drop, show h + (j - h) = j by omega, hcs2, bytesL_at hj, if_neg hjh]
  · rw [if_neg (by omega), List.getElem?_eq_none (by rw [hl]; omega), List.getElem?_eq_none (by rw [bytesL_len]; omega)]

section
open Go
/-- a part of a slice, from some place on -/
theorem exec_from {P : Program} {a : Act} {o : Oper} {t e sz : Nat} {x lo : Operand} {b y m c zl : Nat} {kl : IntKind} {w : World} (hop : o.op = .slice t x (some lo) none none) (hu : P.underlying t = some (.slice e)) (hq : ∀ w, (sizeOf e).run P w = .ok sz w) (h1 : a.eval x = .slice (some ⟨b, y, none⟩) m c) (h2 : a.eval lo = .int kl (zl : Nat))
    (hzm : zl ≤ m) (hmc : m ≤ c) (hzc : zl < c) : (execOp a.eval o).run P w = .ok (.value (.slice (some ⟨b, y + zl * sz, none⟩) (m - zl) (c - zl))) w := by
  have hb := run_sliceBounds (P := P) (w := w) (ρ' := a.eval) (b := true) (len := m) (cap := c) (lo := some lo) (hi := none) (mx := none) (l := some zl) (h := none) (m := none) (.inr ⟨kl, zl, by simp [h2], rfl⟩) (.inl ⟨rfl, rfl⟩) (.inl ⟨rfl, rfl⟩)
    (by simpa using hzm) (by simpa using hmc) (by simp) (by simp)
  simp only [Option.map_none, Option.map_some, Option.getD_none, Option.getD_some] at hb
  have hne : ¬ c - zl = 0 := by omega
  simp [execOp, hop, h1, Instr.sliceAt, run_underlying hu, Result.andThen, Instr.slice, hb, hq, addr_add]
  try exact fun h => absurd h (by omega)
end

/-- a state, to be worked out -/
def stQ (s : St) (fin : St → Prop) : Prop := fin s
theorem XI.norm {rg0 : List Rg} {ks : List Nat} {all : Array Oper} {k : List It} {zs : List Nat} {E : Ctx} {s : St} (h : stQ s fun s' => XI rg0 ks all k zs E s') : XI rg0 ks all k zs E s := h

set_option maxHeartbeats 8000000 in
set_option maxRecDepth 100000 in
set_option cbv.maxSteps 100000000 in
theorem back_torn (d : Dk) (keep : Int) (w : World) (hD : DiskAt d w) (ok : d.Ok) (i z : Nat) (hiz : z = i + 1) (hz : z = keepN keep d.h.n) :
    Calls Try.prog 16 #[.pointer (some ⟨d.b, d.y, none⟩), .int .i64 keep, .bool true] w fun e w' => e = .returned (.tuple #[]) ∧ DiskAt (((d.rewr i (d.tornB i)).settled 0 (i + 1)).withH d.h.backed) w' ∧ (((d.rewr i (d.tornB i)).settled 0 (i + 1)).withH d.h.backed).Ok ∧ Chg d.D w w' ∧ ∀ k o, (((d.rewr i (d.tornB i)).settled 0 (i + 1)).withH d.h.backed).D k o → d.D k o := by
  obtain ⟨Q, hQ⟩ : ∃ Q : Ending → World → Prop, Q = fun e w' => e = .returned (.tuple #[]) ∧ DiskAt (((d.rewr i (d.tornB i)).settled 0 (i + 1)).withH d.h.backed) w' ∧ (((d.rewr i (d.tornB i)).settled 0 (i + 1)).withH d.h.backed).Ok ∧ Chg d.D w w' ∧ ∀ k o, (((d.rewr i (d.tornB i)).settled 0 (i + 1)).withH d.h.backed).D k o → d.D k o := ⟨_, rfl⟩
  rw [← hQ]
  have hfree := hD.hf
  have hcell := hD.hd
  refine X.beginR d.D (DiskAt d) (ss := [.ext d.b d.y 0, .int .i64 (.v keep), .bool (.lit true)]) Try.func16 rfl B16_ok rfl rfl (fun k o h => hD.there h) DiskAt.loc hD ?_
  obtain ⟨im, hime⟩ : ∃ im, im = outside d.D w := ⟨_, rfl⟩
  have him : ∀ k o, d.D k o → im k o = none := fun k o h => by rw [hime]; exact outside_in h
  show X (mkE Try.prog Try.f16 Q w d.D (outside d.D w) d.D (DiskAt d) [] B16) _ _
  rw [← hime]
  obtain ⟨cs, hcs⟩ : ∃ cs : List SV, cs = d.h.sv := ⟨_, rfl⟩
  have hlen : cs.length = 8 := by rw [hcs]; rfl
  refine X.focus d.b d.y cs d.restD (RestAt d) (fun w1 h1 j c hj => ?_) (by omega) (fun j hj => .inl ⟨rfl, by omega, by omega⟩) (fun k i h => ⟨.inr h, fun ⟨e1, e2, e3⟩ => ?_⟩) (.inr fun j hj => .inl ⟨rfl, by omega, by omega⟩) (fun j hj => him _ _ (.inl ⟨rfl, by omega, by omega⟩)) (fun g hg => by simp at hg) RestAt.loc (fun w h => h.rest) (fun N0 hN0 hNl => ?_)
  · rw [hcs] at hj
    obtain ⟨v, k1, k2⟩ := h1.hd.cells [] j c hj
    exact ⟨v, k1, k2, h1.hf j (by have := (List.getElem?_eq_some_iff.1 hj).1; exact this)⟩
  · rcases h with h | h | ⟨q, hq, h⟩ | ⟨q, u, hq, h⟩
    · subst h
      have := (hD.hd.room hD.hf (i - d.y) (by omega)).1
      rw [show d.y + (i - d.y) = i by omega] at this
      exact hD.mapNe (k := d.b) this e1.symm
    · exact ok.a1 k i ⟨e1, e2, by omega⟩ h
    · exact (ok.a2 q hq k i h).1 ⟨e1, e2, by omega⟩
    · exact (ok.a3 q u hq k i h).1 ⟨e1, e2, by omega⟩
  obtain rfl : N0 = [] := List.eq_nil_of_length_eq_zero hNl
  rw [hlen]
  refine X.reval 0 (.own 0 0) (v := .ext d.b d.y 0) rfl (fun N hN x hx => ?_) ?_
  · have := hN 0 _ rfl
    simp only [SV.den, this] at hx ⊢
    exact hx
  refine X.less [0, 1, 2] ?_
  obtain ⟨D, hDe⟩ : ∃ D, D = d.restD := ⟨_, rfl⟩
  show X (mkE Try.prog Try.f16 Q w d.D im d.restD (RestAt d) [⟨d.b, d.y, 8⟩] B16) _ ⟨[(0, .val (.own 0 0)), (0, .val (.ext d.b d.y 0)), (1, .val (.int .i64 (.v keep))), (2, .val (.bool (.lit true)))], [⟨true, cs, none⟩]⟩
  rw [← hDe]
  have himD : ∀ k o, D k o → im k o = none := fun k o h => him k o (by rw [hDe] at h; exact Dk.restD_D h)
  have hO : ∀ k o, D k o → w.heap.size ≤ k ∨ d.D k o := fun k o h => .inr (by rw [hDe] at h; exact Dk.restD_D h)
  refine X.go T16_ok 400 _ rfl Try.results16 ?_
  conv => arg 2; cbv
  refine X.call rfl rfl rfl rfl Try.call26 (fun N w1 args hN hS ha => ?_)
  have q0 := hN 0 _ rfl
  have ha' : [Value.pointer (some ⟨d.b, d.y, none⟩)] = args := by simpa [SV.denL, SV.den, q0] using ha
  subst ha'
  refine (fall_ok d.b d.y d.h w1 (hd_back q0 hS (by rw [hcs]; rfl)) (fun j hj => (hS.room 0 _ _ rfl q0 rfl j hj).2)).mono fun e w2 ⟨he, k1, k2⟩ => ⟨_, he, ?_⟩
  refine Goes.cells (r := 0) (g := ⟨true, cs, none⟩) hN hS rfl q0 rfl k2 d.h.fall.sv (by exact Nat.le_refl _) (fun j c hj => k1.cells N j c hj) (rv := .tup []) rfl rfl ?_
  clear ha he k1 k2 hS hN q0
  obtain ⟨fl, hfl⟩ : ∃ fl : Int, d.h.fall = ⟨d.h.size, d.h.count, d.h.m, d.h.po, d.h.n, d.h.cp, true, fl, d.h.fused, d.h.fuse⟩ := by
    unfold Hd.fall
    cases ho : d.h.off with
    | true => exact ⟨d.h.falls, by simp [← ho]⟩
    | false => exact ⟨_, rfl⟩
  have hbk : d.h.backed = ⟨d.h.size, d.h.count, d.h.m, none, 0, 0, false, fl, false, d.h.fuse⟩ := by unfold Hd.backed; rw [hfl]
  rw [hfl]
  obtain ⟨size, hsz⟩ : ∃ x, x = d.h.size := ⟨_, rfl⟩
  obtain ⟨count, hct⟩ : ∃ x, x = d.h.count := ⟨_, rfl⟩
  obtain ⟨m, hm⟩ : ∃ x, x = d.h.m := ⟨_, rfl⟩
  obtain ⟨po, hpo⟩ : ∃ x, x = d.h.po := ⟨_, rfl⟩
  obtain ⟨n, hn⟩ : ∃ x, x = d.h.n := ⟨_, rfl⟩
  obtain ⟨cp, hcp⟩ : ∃ x, x = d.h.cp := ⟨_, rfl⟩
  obtain ⟨fused, hfu⟩ : ∃ x, x = d.h.fused := ⟨_, rfl⟩
  obtain ⟨fuse, hfs⟩ : ∃ x, x = d.h.fuse := ⟨_, rfl⟩
  rw [← hsz, ← hct, ← hm, ← hpo, ← hn, ← hcp, ← hfu, ← hfs]
  refine X.less [0, 1, 2] ?_
  show X (mkE Try.prog Try.f16 Q w d.D im D (RestAt d) [⟨d.b, d.y, 8⟩] B16) _ ⟨_, [⟨true, [.int .i64 (.nat size), .int .i64 (.nat count), .raw (.map (some m)), .slv po n cp, .bool (.lit true), .int .u64 (.v fl), .bool (.lit fused), .int .i64 (.v fuse)], none⟩]⟩
  refine X.go T16_ok 400 _ rfl Try.results16 ?_
  conv => arg 2; cbv
  refine X.drawnL (fn := Try.f16) T16_ok noCall (idxG 80 []) 12 [13] 12 rfl (by kernel_rfl) rfl noCall_ok (idxG_ok [] rfl (fun q hq => absurd hq List.not_mem_nil)) 80 rfl ?_
  generalize hfin : (fun s' => X (mkE Try.prog Try.f16 Q w d.D im D (RestAt d) [⟨d.b, d.y, 8⟩] B16) _ s') = fin
  conv => cbv
  repeat (first | refine ⟨rfl, ?_⟩ | refine ⟨⟨_, _, rfl, rfl⟩, ?_⟩ | refine ⟨⟨rfl, _, _, rfl, rfl⟩, ?_⟩)
  subst hfin
  show X _ _ _
  have hnc : n ≤ cp := by rw [hn, hcp]; exact hD.nc
  have hzn : z ≤ n := by rw [hz, hn]; exact Nat.min_le_right _ _
  refine cutP (z := z) rfl rfl rfl rfl rfl Try.underlying81 Try.sizeOf87 ?_ (by omega) ?_ rfl ?_
  · rw [hz]
    simp only [SI.den, keepN, ← hn]
    (repeat' split) <;> omega
  · rcases ok.po with h | h
    · exact .inl ⟨by rw [hpo]; exact h.1, by rw [hcp]; exact h.2.2⟩
    · exact .inr ⟨_, _, by rw [hpo]; exact h.1⟩
  refine X.go T16_ok 400 _ rfl Try.results16 ?_
  conv => arg 2; cbv
  refine X.cond rfl (fun _ => ?_) (fun hc => ?_)
  case _ =>
    have hpos : d.h.po = some ⟨d.wb, d.wy, none⟩ := by
      rcases ok.po with h | h
      · omega
      · exact h.1
    have hi1000 : i < 1000 := by have := ok.nn; omega
    have hin : i < d.h.n := by omega
    refine X.go T16_ok 400 _ rfl Try.results16 ?_
    conv => arg 2; cbv
    refine X.cut (z := i) rfl rfl rfl rfl rfl Try.underlying81 Try.sizeOf87 ?_ (by omega) d.wb d.wy (by rw [hpo]; exact hpos) rfl ?_
    · simp [SI.den, IntKind.wrap, IntKind.bits, IntKind.signed]; omega
    refine X.go T16_ok 400 _ rfl Try.results16 ?_
    conv => arg 2; cbv
    refine X.call rfl rfl rfl rfl Try.call41 (fun N w1 args hN hS ha => ?_)
    have q0 := hN 0 _ rfl
    have ha' : [Value.pointer (some ⟨d.b, d.y, none⟩), .slice po i cp] = args := by simpa [SV.denL, SV.den, q0] using ha
    subst ha'
    have hR := hS.res
    have hnn : 0 + i ≤ d.h.n := by omega
    have hh1 : HdAt d.b d.y d.h.fall w1 := hd_back q0 hS (by rw [hfl, ← hsz, ← hct, ← hm, ← hpo, ← hn, ← hcp, ← hfu, ← hfs]; rfl)
    have e1 : (d.withH d.h.fall).g = d.g := by funext q; simp only [Dk.g, Dk.withH, (sameH_fall d.h).size]
    have e2 : ((d.withH d.h.fall).settled 0 i).g = (d.settled 0 i).g := by funext q; simp only [Dk.g, Dk.withH, Dk.settled, (sameH_fall d.h).size]
    refine (settle_ok (d.withH d.h.fall) 0 i po cp w1 hh1 (by rw [e1]; show MapAt d.h.fall.m _ _; rw [(sameH_fall d.h).m]; exact hR.mp) (by have := ok.nn; omega) (fun h0 => ?_) (fun j hj => ?_)).mono fun e w2 ⟨he, hm2, hc⟩ => ⟨_, he, ?_⟩
    · show po = some ⟨d.wb, _, none⟩
      rw [hpo, hpos]; simp [Dk.withH]
    · have := hR.rw (0 + j) (by omega)
      simp only [Dk.withH, (sameH_fall d.h).size]
      exact this
    rw [e2] at hm2
    have hm2 : MapAt d.h.m (d.settled 0 i).g w2 := by have h := hm2; rwa [show (d.withH d.h.fall).h.m = d.h.m from (sameH_fall d.h).m] at h
    have hc : Chg (fun k _ => k = d.h.m) w1 w2 := by rw [← show (d.withH d.h.fall).h.m = d.h.m from (sameH_fall d.h).m]; exact hc
    have hR2 := hR.settled hnn hc hm2
    have hsep : ∀ {k o : Nat}, (d.settled 0 i).butD i k o → ¬ (d.ws i).2.D d.h.size k o := fun h => but_apart ok hin hR2 h
    have hcap0 : d.h.size ≤ (d.ws i).2.cp := (hR.wa i hin).cap
    refine Goes.turn (r := .tup []) D (RestAt (d.settled 0 i)) hN hS (hc.mono fun k o _ h => by show D k o; rw [hDe]; exact .inl h) hO himD (fun g hg => by simp at hg; subst hg; exact .inl rfl) (fun k o hk => ⟨.inl hk, ?_⟩) (loc_mono RestAt.loc fun k o h => by rw [hDe]; exact Dk.settled_restD hnn h) hR2 rfl rfl ?_
    · have : There w1 k o := hR.there (by rw [hDe] at hk; exact hk)
      rcases this with h | h
      · exact .inl (some_of_chg hc o h)
      · by_cases ek : k = d.h.m
        · rw [ek]; exact .inr hm2.ob
        · exact .inr (by rw [objAt_chg hc h (fun _ h => ek h)]; exact h)
    show X (mkE Try.prog Try.f16 Q w d.D im D (RestAt (d.settled 0 i)) [⟨d.b, d.y, 8⟩] B16) _ _
    clear ha he hc hm2 hR hR2 hS hN q0 hh1
    refine X.go T16_ok 400 _ rfl Try.results16 ?_
    conv => arg 2; cbv
    obtain ⟨x, hx⟩ : ∃ x, x = d.ws i := ⟨_, rfl⟩
    obtain ⟨xi, uk, uy, ucp, uf⟩ := x
    have hcap : size ≤ ucp := by rw [hsz]; rw [← hx] at hcap0; exact hcap0
    obtain ⟨zz, hzz⟩ : ∃ zz, zz = d.wy + i * 2 := ⟨_, rfl⟩
    refine X.idxSlv rfl rfl rfl rfl rfl Try.underlying81 Try.sizeOf87 i ?_ (by omega) d.wb d.wy zz (by rw [hpo]; exact hpos) hzz rfl ?_
    · simp [SI.den, IntKind.wrap, IntKind.bits, IntKind.signed]; omega
    refine X.loadNR T16_ok (rs := [.int .i64 (.v xi), .slv (some ⟨uk, uy, none⟩) size ucp]) rfl rfl rfl rfl rfl rfl rfl (fun N w hN hR => ⟨[.int .i64 xi, .slice (some ⟨uk, uy, none⟩) size ucp], rfl, fun j v hj => ?_⟩) rfl ?_
    · have hr := RestAt.rw hR i hin
      rw [show (d.settled 0 i).ws i = d.ws i from rfl, ← hx, show (d.settled 0 i).wb = d.wb from rfl, show (d.settled 0 i).wy = d.wy from rfl, ← hzz] at hr
      match j, hj with
      | 0, hj => simp at hj; subst hj; exact hr.1
      | 1, hj => simp at hj; subst hj; rw [hr.2]; simp [By.val, hsz, Dk.settled]
      | j + 2, hj => simp at hj
    refine X.go T16_ok 400 _ rfl Try.results16 ?_
    conv => arg 2; cbv
    refine X.less [0, 6, 7] ?_
    have hs64 : 64 ≤ size ∧ size ≤ 512 := by rw [hsz]; exact ok.sz
    obtain ⟨cs2, hcs2⟩ : ∃ cs, cs = bytesL uf size := ⟨_, rfl⟩
    have hl2 : cs2.length = size := by rw [hcs2, bytesL_len]
    have huD : ∀ j, j < size → d.restD uk (uy + j) := fun j hj => .inr (.inr (.inl ⟨i, hin, by rw [← hx]; exact ⟨rfl, by show uy ≤ uy + j; omega, by show uy + j < uy + d.h.size; omega⟩⟩))
    refine X.focus uk uy cs2 ((d.settled 0 i).butD i) (ButAt (d.settled 0 i) i (d.settled 0 i).g) (fun w1 h1 j c hj => ?_) (by omega) (fun j hj => by show D _ _; rw [hDe]; exact huD j (by omega)) (fun k o h => ⟨by show D _ _; rw [hDe]; exact Dk.settled_restD hnn (Dk.butD_rest h), fun ⟨q1, q2, q3⟩ => hsep h (by rw [← hx]; exact ⟨q1, q2, by show o < uy + d.h.size; omega⟩)⟩) (.inr fun j hj => Dk.restD_D (huD j (by omega))) (fun j hj => him _ _ (Dk.restD_D (huD j (by omega)))) (fun g hg => by simp at hg; rcases hg with rfl | rfl <;> exact .inl rfl) ButAt.loc (fun w h => h.but i) (fun N0 hN0 hNl => ?_)
    · have hw := RestAt.wa h1 i hin
      rw [show (d.settled 0 i).ws i = d.ws i from rfl, ← hx, show (d.settled 0 i).h = d.h from rfl, ← hsz] at hw
      rw [hcs2] at hj
      obtain ⟨hjs, rfl⟩ := bytesL_get _ _ _ _ hj
      exact ⟨_, rfl, hw.bytes j hjs, hw.free j hjs⟩
    have hNl : N0.length = 2 := hNl
    rw [hl2]
    have hget : (N0 ++ [(⟨uk, uy, size⟩ : Num)])[2]? = some ⟨uk, uy, size⟩ := by rw [List.getElem?_append_right (by omega)]; simp [hNl]
    have hget0 : (N0 ++ [(⟨uk, uy, size⟩ : Num)])[0]? = some ⟨d.b, d.y, 8⟩ := by rw [List.getElem?_append_left (by omega)]; exact hN0 0 _ rfl
    refine X.recell1 1 1 (.osl 2 0 size 1 (some ucp)) rfl rfl (fun N hN v hv => ?_) ?_
    · have := hN 2 _ hget
      simp only [SV.den, this, Num.cap] at hv ⊢
      exact hv
    obtain ⟨Db, hDb⟩ : ∃ Db, Db = (d.settled 0 i).butD i := ⟨_, rfl⟩
    have hDbD : ∀ k o, Db k o → D k o := fun k o h => by rw [hDb] at h; rw [hDe]; exact Dk.settled_restD hnn (Dk.butD_rest h)
    show X (mkE Try.prog Try.f16 Q w d.D im ((d.settled 0 i).butD i) (ButAt (d.settled 0 i) i (d.settled 0 i).g) (N0 ++ [⟨uk, uy, size⟩]) B16) _ ⟨[(7, .val (.own 1 0)), (6, .val (.slv po z cp)), (0, .val (.own 0 0)), (0, .val (.ext d.b d.y 0))], [⟨true, [.int .i64 (.nat size), .int .i64 (.nat count), .raw (.map (some m)), .slv po n cp, .bool (.lit true), .int .u64 (.v fl), .bool (.lit fused), .int .i64 (.v fuse)], none⟩, ⟨true, [.int .i64 (.v xi), .osl 2 0 size 1 (some ucp)], none⟩, ⟨true, cs2, none⟩]⟩
    rw [← hDb]
    obtain ⟨hf, hhf⟩ : ∃ hf, hf = size / 2 := ⟨_, rfl⟩
    have hz2 : (SI.wrap .i64 (.quo (.nat size) (.lit 2))).den = ((hf : Nat) : Int) := by
      simp [SI.den, IntKind.wrap, IntKind.bits, IntKind.signed]; omega
    obtain ⟨sh, hsh⟩ : ∃ sh, sh = size - hf := ⟨_, rfl⟩
    obtain ⟨ch, hch⟩ : ∃ ch, ch = ucp - hf := ⟨_, rfl⟩
    refine X.go T16_ok 400 _ rfl Try.results16 ?_
    conv => arg 2; cbv
    refine X.drawnI (fn := Try.f16) T16_ok noCall (valO 80 _ [⟨7, 51, .osl 2 hf sh 1 (some ch), fun f => ev f (.tmp 45) = some (.osl 2 0 size 1 (some ucp)) ∧ ∃ kd e, ev f (.tmp 50) = some (.int kd e) ∧ e.den = (hf : Int)⟩]) 11 [17, 18] [2] 16 rfl (by kernel_rfl) rfl noCall_ok (valO_ok _ (by kernel_rfl) (fun q hq => ?_)) 80 rfl ?_
    · simp only [List.mem_cons, List.not_mem_nil, or_false] at hq
      subst hq
      refine good_from (fun o ho => by cases ho; rfl) Try.underlying30 Try.sizeOf5 fun N hN v hv => ?_
      have := hN 2 _ hget
      simp only [SV.den, this, Num.cap, Option.some.injEq] at hv ⊢
      exact ⟨uk, uy, size, ucp, by rw [← hv]; rfl, by omega, hcap, by omega, by simp [hsh, hch]⟩
    generalize hfin : (fun s' => XI _ _ _ _ _ (mkE Try.prog Try.f16 Q w d.D im Db (ButAt (d.settled 0 i) i (d.settled 0 i).g) (N0 ++ [⟨uk, uy, size⟩]) B16) s') = fin
    conv => cbv
    refine ⟨⟨_, _, rfl, hz2⟩, ?_⟩
    subst hfin
    show XI _ _ _ _ _ (mkE Try.prog Try.f16 Q w d.D im Db (ButAt (d.settled 0 i) i (d.settled 0 i).g) (N0 ++ [⟨uk, uy, size⟩]) B16) _
    refine XI.call rfl rfl rfl rfl Try.call43 (fun N w1 args hN hS ha => ?_)
    have q0 := hN 0 _ hget0
    obtain rfl := args_eq (vs := [.pointer (some ⟨d.b, d.y, none⟩), .int .i64 xi]) (by simp [SV.denL, SV.den, SI.den, q0]) ha
    obtain ⟨hd1, hhd1⟩ : ∃ h : Hd, h = ⟨size, count, m, po, n, cp, true, fl, fused, fuse⟩ := ⟨_, rfl⟩
    have hh1 : HdAt d.b d.y hd1 w1 := hd_back q0 hS (by rw [hhd1]; rfl)
    obtain ⟨dS, hdS⟩ : ∃ dS : Dk, dS = ⟨d.b, d.y, hd1, d.wb, d.wy, d.ws, (d.settled 0 i).kept⟩ := ⟨_, rfl⟩
    have hgS : dS.g = (d.settled 0 i).g := by rw [hdS, hhd1]; funext q; simp [Dk.g, Dk.settled, hsz]
    have hsS : dS.h.size = size := by rw [hdS, hhd1]
    have hst : dS.st xi = (d.settled 0 i).st xi := by rw [hdS]; rfl
    have hRb : ButAt (d.settled 0 i) i (d.settled 0 i).g w1 := hS.res
    have hs1 : 0 < dS.h.size ∧ dS.h.size ≤ 1000 := by rw [hsS]; omega
    have hs2 : HdAt dS.b dS.y dS.h w1 := by rw [hdS]; exact hh1
    have hmS : dS.h.m = d.h.m := by rw [hdS, hhd1]; exact hm
    have hs3 : MapAt dS.h.m dS.g w1 := by rw [hgS, hmS]; exact hRb.mp
    have hs4 : ∀ u, dS.kept xi = some u → u.At dS.h.size w1 := fun u hu => by
      have hu : (d.settled 0 i).kept xi = some u := by rw [hdS] at hu; exact hu
      have h := hRb.ka xi u hu
      rw [hsS, hsz]; exact h
    have hcall := stays_ok dS xi w1 hs1 hs2 hs3 hs4
    have eb : dS.b = d.b := by rw [hdS]
    have ey : dS.y = d.y := by rw [hdS]
    rw [eb, ey] at hcall
    refine hcall.mono fun e w2 hr => ?_
    clear hcall hs4 hs3 hs2 hs1 hmS hRb eb ey
    rw [hsS, hst] at hr
    refine GoesI.fresh hN hS hr rfl (fun r g hg hm => ?_) ?_
    · rw [List.getElem?_append_left (List.getElem?_eq_some_iff.1 hg).1]; exact hg
    clear hr ha hh1 hS hN q0 hgS hsS hst hdS dS
    obtain ⟨fs, hfs2⟩ : ∃ fs, fs = (d.settled 0 i).st xi := ⟨_, rfl⟩
    rw [← hfs2]
    obtain ⟨cs3, hcs3⟩ : ∃ cs, cs = bytesL fs size := ⟨_, rfl⟩
    rw [← hcs3]
    have hl3 : cs3.length = size := by rw [hcs3, bytesL_len]
    show XI _ _ _ _ _ (mkE Try.prog Try.f16 Q w d.D im Db (ButAt (d.settled 0 i) i (d.settled 0 i).g) (N0 ++ [⟨uk, uy, size⟩]) B16) _
    refine XI.value rfl rfl (.osl 3 hf sh 1 none) rfl (fun N a w1 hN hf' hS => ?_) (fun r g hg hm => ?_) ?_
    · obtain ⟨p, hp⟩ : ∃ p, N[3]? = some p := ⟨_, List.getElem?_eq_getElem (by rw [hS.len]; exact Nat.lt_succ_self 3)⟩
      have hext := hS.ext 3 _ p rfl hp rfl
      simp only [hl3] at hext
      have h1 := ev_sound hf' (o := .tmp 55) (s := .osl 3 0 size 1 none) rfl
      have h2 := ev_sound hf' (o := .tmp 60) (s := .int .i64 (.wrap .i64 (.quo (.nat size) (.lit 2)))) rfl
      simp only [SV.den, hp, Num.cap, Option.some.injEq] at h1 h2
      rw [hz2] at h2
      refine ⟨_, ?_, exec_from (x := .tmp 55) (lo := .tmp 60) rfl Try.underlying30 Try.sizeOf5 h1.symm h2.symm (by omega) (by simp; omega) (by simp; omega)⟩
      simp [SV.den, hp, Num.cap, hsh]
      try omega
    · match r, hg with
      | 0, hg => exact hg
      | 1, hg => exact hg
      | 2, hg => exact hg
      | r + 3, hg => simp at hg
    refine XI.norm ?_
    generalize hfin : (fun s' => XI _ _ _ _ _ (mkE Try.prog Try.f16 Q w d.D im Db (ButAt (d.settled 0 i) i (d.settled 0 i).g) (N0 ++ [⟨uk, uy, size⟩]) B16) s') = fin
    conv => cbv
    subst hfin
    show XI _ _ _ _ _ (mkE Try.prog Try.f16 Q w d.D im Db (ButAt (d.settled 0 i) i (d.settled 0 i).g) (N0 ++ [⟨uk, uy, size⟩]) B16) _
    have hcp := copy_torn (te := ti5) (r := 2) (r2 := 3) (n := size) (h := hf) (k := some ch) (k2 := none) (f := uf) (g := fs) (cs := cs2) (cs2 := cs3) (o2 := true) (b2 := none) (rg := [⟨true, [.int .i64 (.nat size), .int .i64 (.nat count), .raw (.map (some m)), .slv po n cp, .bool (.lit true), .int .u64 (.v fl), .bool (.lit fused), .int .i64 (.v fuse)], none⟩, ⟨true, [.int .i64 (.v xi), .osl 2 0 size 1 (some ucp)], none⟩, ⟨true, cs2, none⟩, ⟨true, cs3, none⟩]) rfl (by omega) rfl hcs2 rfl hcs3
    rw [← hsh] at hcp
    refine XI.opEq T16_ok (opE_copy (ti := ti30) (te := ti5) rfl rfl rfl rfl rfl rfl rfl rfl hcp rfl) (fun r g hg hm => ?_) (XI.done ?_)
    · match r, hg with
      | 0, hg => exact hg
      | 1, hg => exact hg
      | 2, hg => simp [memN] at hm
      | r + 3, hg => simp at hg
    have hft : (fun j => if j < hf then uf j else fs j) = d.tornB i := by
      funext j
      unfold Dk.tornB tornF
      rw [← hx, hfs2, ← hsz, ← hhf]
    rw [hft]
    obtain ⟨cs4, hcs4⟩ : ∃ cs, cs = bytesL (d.tornB i) size := ⟨_, rfl⟩
    rw [← hcs4]
    have hl4 : cs4.length = size := by rw [hcs4, bytesL_len]
    show X (mkE Try.prog Try.f16 Q w d.D im Db (ButAt (d.settled 0 i) i (d.settled 0 i).g) (N0 ++ [⟨uk, uy, size⟩]) B16) _ _
    refine X.go T16_ok 400 _ rfl Try.results16 ?_
    conv => arg 2; cbv
    obtain ⟨ci, hci⟩ : ∃ ci, ci = cp - i := ⟨_, rfl⟩
    refine X.value rfl rfl (.slv (some ⟨d.wb, zz, none⟩) 1 ci) rfl (fun N a w1 hN hf' hS => ⟨_, rfl, ?_⟩) ?_
    · have h1 := ev_sound hf' (o := .tmp 63) (s := .slv po z cp) rfl
      have h2 := ev_sound hf' (o := .tmp 66) (s := .int .i64 (.wrap .i64 (.sub (.nat z) (.lit 1)))) rfl
      simp only [SV.den, Option.some.injEq] at h1 h2
      have hz3 : (SI.wrap .i64 (.sub (.nat z) (.lit 1))).den = ((i : Nat) : Int) := by simp [SI.den, IntKind.wrap, IntKind.bits, IntKind.signed]; omega
      rw [hz3] at h2
      rw [hpo, hpos] at h1
      refine (exec_from (x := .tmp 63) (lo := .tmp 66) rfl Try.underlying81 Try.sizeOf87 h1.symm h2.symm (by omega) (by omega) (by omega)).trans ?_
      rw [show z - i = 1 by omega, ← hzz, ← hci]
    refine X.go T16_ok 400 _ rfl Try.results16 ?_
    conv => arg 2; cbv
    refine X.call rfl rfl rfl rfl Try.call41 (fun N w1 args hN hS ha => ?_)
    have q0 := hN 0 _ hget0
    obtain rfl := args_eq (vs := [.pointer (some ⟨d.b, d.y, none⟩), .slice (some ⟨d.wb, zz, none⟩) 1 ci]) (by simp [SV.denL, SV.den, q0]) ha
    have hRb : ButAt (d.settled 0 i) i (d.settled 0 i).g w1 := hS.res
    obtain ⟨hd1, hhd1⟩ : ∃ h : Hd, h = ⟨size, count, m, po, n, cp, true, fl, fused, fuse⟩ := ⟨_, rfl⟩
    have hh1 : HdAt d.b d.y hd1 w1 := hd_back q0 hS (by rw [hhd1]; rfl)
    obtain ⟨dS, hdS⟩ : ∃ dS : Dk, dS = ⟨d.b, d.y, hd1, d.wb, d.wy, (d.rewr i (d.tornB i)).ws, (d.settled 0 i).kept⟩ := ⟨_, rfl⟩
    have hmS : dS.h.m = d.h.m := by rw [hdS, hhd1]; exact hm
    have hsS : dS.h.size = d.h.size := by rw [hdS, hhd1]; exact hsz
    have hgS : dS.g = (d.settled 0 i).g := by funext q; simp only [Dk.g, hsS]; rw [hdS]; rfl
    have hgS2 : (dS.settled i 1).g = ((d.rewr i (d.tornB i)).settled 0 (i + 1)).g := by
      funext q
      show (settleK dS.kept dS.ws i 1 q).map (·.val dS.h.size) = (settleK d.kept (d.rewr i (d.tornB i)).ws 0 (i + 1) q).map (·.val d.h.size)
      rw [hsS, hdS]
      show (settleK (settleK d.kept d.ws 0 i) (d.rewr i (d.tornB i)).ws i 1 q).map _ = _
      rw [← settleK_rewr d (d.tornB i) (Nat.le_refl i)]
      simp [settleK]
    have hcall := settle_ok dS i 1 (some ⟨d.wb, zz, none⟩) ci w1 (by rw [show dS.b = d.b by rw [hdS], show dS.y = d.y by rw [hdS], show dS.h = hd1 by rw [hdS]]; exact hh1) (by rw [hgS, hmS]; exact hRb.mp) (by omega) (fun _ => by rw [hdS, hzz]) (fun j hj => by
      obtain rfl : j = 0 := by omega
      have hr := hRb.rw i hin
      rw [show (d.settled 0 i).ws i = d.ws i from rfl, show (d.settled 0 i).wb = d.wb from rfl, show (d.settled 0 i).wy = d.wy from rfl, show (d.settled 0 i).h.size = d.h.size from rfl] at hr
      rw [hsS, hdS]
      show w1.cell? ⟨d.wb, d.wy + i * 2, none⟩ = some (.int .i64 ((d.rewr i (d.tornB i)).ws i).1) ∧ w1.cell? ⟨d.wb, d.wy + i * 2 + 1, none⟩ = some (((d.rewr i (d.tornB i)).ws i).2.val d.h.size)
      rw [Dk.rewr_1, Dk.rewr_val]; exact hr)
    rw [show dS.b = d.b by rw [hdS], show dS.y = d.y by rw [hdS], hgS2, hmS] at hcall
    refine hcall.mono fun e w2 ⟨he, hm2, hc⟩ => ⟨_, he, ?_⟩
    have hR2 : ButAt (d.settled 0 i) i ((d.rewr i (d.tornB i)).settled 0 (i + 1)).g w2 := hRb.turn hc hm2
    refine Goes.turn (r := .tup []) Db (ButAt (d.settled 0 i) i ((d.rewr i (d.tornB i)).settled 0 (i + 1)).g) hN hS (hc.mono fun k o _ h => by show Db k o; rw [hDb]; exact .inl h) (fun k o h => hO k o (hDbD k o h)) (fun k o h => himD k o (hDbD k o h)) (fun g hg => by simp at hg; rcases hg with rfl | rfl | rfl | rfl <;> exact .inl rfl) (fun k o hk => ⟨.inl hk, ?_⟩) (by rw [hDb]; exact ButAt.loc) hR2 rfl rfl ?_
    · have : There w1 k o := hRb.there (by rw [hDb] at hk; exact hk)
      rcases this with h | h
      · exact .inl (some_of_chg hc o h)
      · by_cases ek : k = d.h.m
        · rw [ek]; exact .inr hm2.ob
        · exact .inr (by rw [objAt_chg hc h (fun _ h => ek h)]; exact h)
    show X (mkE Try.prog Try.f16 Q w d.D im Db (ButAt (d.settled 0 i) i ((d.rewr i (d.tornB i)).settled 0 (i + 1)).g) (N0 ++ [⟨uk, uy, size⟩]) B16) _ _
    clear hcall ha he hc hm2 hR2 hRb hS hN q0 hh1 hgS hgS2 hsS hmS hdS dS
    refine X.go T16_ok 400 _ rfl Try.results16 ?_
    conv => arg 2; cbv
    refine X.over T16_ok rfl (fun N w' v hN hS hv => ?_)
    cases hv
    rw [hQ]
    have q0 := hN 0 _ hget0
    have q2 := hN 2 _ hget
    have hRb : ButAt (d.settled 0 i) i ((d.rewr i (d.tornB i)).settled 0 (i + 1)).g w' := hS.res
    have hhd : HdAt d.b d.y d.h.backed w' := hd_back q0 hS (by rw [hbk, ← hsz, ← hct, ← hm, ← hfs]; rfl)
    have hhf : HdFree d.b d.y w' := fun j hj => (hS.room 0 _ _ rfl q0 rfl j hj).2
    have hby : ({ (d.ws i).2 with f := d.tornB i } : By).At d.h.size w' := by
      rw [← hx, ← hsz]
      refine ⟨hcap, fun j hj => ?_, fun j hj => (hS.room 2 _ _ rfl q2 rfl j hj).2⟩
      obtain ⟨v, k1, k2⟩ := hS.cell 2 _ _ rfl q2 j (.int .u8 (.v (d.tornB i j))) (by show cs4[j]? = _; rw [hcs4]; exact bytesL_at hj)
      cases k1
      exact k2
    exact ⟨rfl, ButAt.back hin hRb hby hhd hhf, Dk.backed_ok (Dk.settled_ok0 (Dk.rewr_ok0 ok.toOk0 i _) (by show 0 + (i + 1) ≤ d.h.n; omega)), hS.chg, fun k o h => by
      have h1 := Dk.settled_D (d := d.rewr i (d.tornB i)) (by show 0 + (i + 1) ≤ d.h.n; omega) (Dk.backed_D (d := (d.rewr i (d.tornB i)).settled 0 (i + 1)) h)
      rcases h1 with h1 | h1 | h1 | ⟨q, hq, h1⟩ | h1
      · exact .inl h1
      · exact .inr (.inl h1)
      · exact .inr (.inr (.inl h1))
      · exact .inr (.inr (.inr (.inl ⟨q, hq, by rw [Dk.rewr_D] at h1; exact h1⟩)))
      · exact .inr (.inr (.inr (.inr h1)))⟩
  · exfalso
    simp only [SB.F, SI.den] at hc
    omega

end Go.Proofs.Ytkjhpaeminegoaa
