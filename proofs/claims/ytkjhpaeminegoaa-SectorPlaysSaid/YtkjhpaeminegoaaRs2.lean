import Derived.Test.YtkjhpaeminegoaaSe18
import Derived.Test.YtkjhpaeminegoaaSe2
import Derived.Test.YtkjhpaeminegoaaTab

namespace Go.Proofs.Ytkjhpaeminegoaa
open Go.Eng
def Dk.tornB (d : Dk) (i : Nat) : Nat → Int := tornF d.h.size (d.ws i).2.f ((d.settled 0 i).st (d.ws i).1)
theorem copy_torn {rg : List Rg} {te : TI} {r r2 n h : Nat} {k k2 : Option Nat} {f g : Nat → Int} {cs cs2 : List SV} {o2 : Bool} {b2 : Option Ob} (h1 : te.size = 1) (hh : h ≤ n) (hr : nth rg r = some ⟨true, cs, none⟩) (hcs : cs = bytesL f n) (hr2 : nth rg r2 = some ⟨o2, cs2, b2⟩) (hcs2 : cs2 = bytesL g n) :
    copyV rg te (.osl r h (n - h) 1 k) (.osl r2 h (n - h) 1 k2) = some (.int .i64 (.lit (n - h : Nat)), rg.set r ⟨true, bytesL (fun j => if j < h then f j else g j) n, none⟩) := by
  have hl : cs.length = n := by rw [hcs, bytesL_len]
  have hl2 : cs2.length = n := by rw [hcs2, bytesL_len]
  have e1 : Nat.beq te.size 1 = true := by rw [h1]; rfl
  have e1' : Nat.beq 1 te.size = true := by rw [h1]; rfl
  have e2 : Nat.ble (h + (n - h) * te.size) cs2.length = true := Nat.ble_eq_true_of_le (by rw [h1, hl2]; omega)
  have hx : ((cs2.drop h).take ((n - h) * te.size)) = cs2.drop h := by rw [List.take_of_length_le]; rw [h1]; simp [hl2]
  have e3 : Nat.beq (cs2.drop h).length ((n - h) * 1) = true := by simp [hl2]
  have e4 : (cs2.drop h).all SV.one = true := List.all_eq_true.2 fun c hc => by
    have hc := List.mem_of_mem_drop hc
    rw [hcs2] at hc
    obtain ⟨j, hj, rfl⟩ := List.mem_map.1 hc
    rfl
  have e5 : Nat.ble (h + min (n - h) (n - h) * 1) cs.length = true := Nat.ble_eq_true_of_le (by rw [hl]; omega)
  unfold copyV
  simp only [srcV, hr, hr2, e1, e1', e2, Bool.and_self, cond_true, hx, e3, e4, e5]
  have hw : (cs2.drop h).take (min (n - h) (n - h) * 1) = cs2.drop h := by rw [List.take_of_length_le]; simp [hl2]
  rw [hw, Nat.min_self]
  congr 3
  congr 1
  refine List.ext_getElem? fun j => ?_
  rw [setRow_at _ _ _ _ (by simp [hl, hl2]; omega)]
  have hd : (cs2.drop h).length = n - h := by simp [hl2]
  rw [hd]
  by_cases hj : j < n
  · rw [bytesL_at hj]
    by_cases hjh : j < h
    · rw [if_neg (by omega), hcs, bytesL_at hj, if_pos hjh]
    · rw [if_pos (by omega), List.getElem?_drop, show h + (j - h) = j by omega, hcs2, bytesL_at hj, if_neg hjh]
  · rw [if_neg (by omega), List.getElem?_eq_none (by rw [hl]; omega), List.getElem?_eq_none (by rw [bytesL_len]; omega)]
section
open Go
theorem exec_from {P : Program} {a : Act} {o : Oper} {t e sz : Nat} {x lo : Operand} {b y m c zl : Nat} {kl : IntKind} {w : World} (hop : o.op = .slice t x (some lo) none none) (hu : P.underlying t = some (.slice e)) (hq : ∀ w, (sizeOf e).run P w = .ok sz w) (h1 : a.eval x = .slice (some ⟨b, y, none⟩) m c) (h2 : a.eval lo = .int kl (zl : Nat))
    (hzm : zl ≤ m) (hmc : m ≤ c) (hzc : zl < c) : (execOp a.eval o).run P w = .ok (.value (.slice (some ⟨b, y + zl * sz, none⟩) (m - zl) (c - zl))) w := by
  have hb := run_sliceBounds (P := P) (w := w) (ρ' := a.eval) (b := true) (len := m) (cap := c) (lo := some lo) (hi := none) (mx := none) (l := some zl) (h := none) (m := none) (.inr ⟨kl, zl, by simp [h2], rfl⟩) (.inl ⟨rfl, rfl⟩) (.inl ⟨rfl, rfl⟩)
    (by simpa using hzm) (by simpa using hmc) (by simp) (by simp)
  simp only [Option.map_none, Option.map_some, Option.getD_none, Option.getD_some] at hb
  have hne : ¬ c - zl = 0 := by omega
  simp [execOp, hop, h1, Instr.sliceAt, run_underlying hu, Result.andThen, Instr.slice, hb, hq, addr_add]
  try exact fun h => absurd h (by omega)
end
def stQ (s : St) (fin : St → Prop) : Prop := fin s
theorem XI.norm {rg0 : List Rg} {ks : List Nat} {all : Array Oper} {k : List It} {zs : List Nat} {E : Ctx} {s : St} (h : stQ s fun s' => XI rg0 ks all k zs E s') : XI rg0 ks all k zs E s := h
set_option maxHeartbeats 8000000 in
set_option maxRecDepth 100000 in
set_option cbv.maxSteps 100000000 in
theorem back_torn (d : Dk) (keep : Int) (w : World) (hD : DiskAt d w) (ok : d.Ok) (i z : Nat) (hiz : z = i + 1) (hz : z = keepN keep d.h.n) :
    Calls Try.prog 16 #[.pointer (some ⟨d.b, d.y, none⟩), .int .i64 keep, .bool true] w fun e w' => e = .returned (.tuple #[]) ∧ DiskAt (((d.rewr i (d.tornB i)).settled 0 (i + 1)).withH d.h.backed) w' ∧ (((d.rewr i (d.tornB i)).settled 0 (i + 1)).withH d.h.backed).Ok ∧ Chg d.D w w' ∧ ∀ k o, (((d.rewr i (d.tornB i)).settled 0 (i + 1)).withH d.h.backed).D k o → d.D k o := by
  obtain ⟨Q, hQ⟩ : ∃ Q : Ending → World → Prop, Q = fun e w' => e = .returned (.tuple #[]) ∧ DiskAt (((d.rewr i (d.tornB i)).settled 0 (i + 1)).withH d.h.backed) w' ∧ (((d.rewr i (d.tornB i)).settled 0 (i + 1)).withH d.h.backed).Ok ∧ Chg d.D w w' ∧ ∀ k o, (((d.rewr i (d.tornB i)).settled 0 (i + 1)).withH d.h.backed).D k o → d.D k o := ⟨_, rfl⟩
  rw [← hQ]
  have hfree := hD.hf
  have hcell := hD.hd
  refine X.beginR d.D (DiskAt d) (ss := [.ext d.b d.y 0, .int .i64 (.v keep), .bool (.lit true)]) Try.func16 rfl B16_ok rfl rfl (fun k o h => hD.there h) DiskAt.loc hD ?_
  obtain ⟨im, hime⟩ : ∃ im, im = outside d.D w := ⟨_, rfl⟩
  have him : ∀ k o, d.D k o → im k o = none := fun k o h => by rw [hime]; exact outside_in h
  show X (mkE Try.prog Try.f16 Q w d.D (outside d.D w) d.D (DiskAt d) [] B16) _ _
  rw [← hime]
  obtain ⟨cs, hcs⟩ : ∃ cs : List SV, cs = d.h.sv := ⟨_, rfl⟩
  have hlen : cs.length = 8 := by rw [hcs]; rfl
  refine X.focus d.b d.y cs d.restD (RestAt d) (fun w1 h1 j c hj => ?_) (by omega) (fun j hj => .inl ⟨rfl, by omega, by omega⟩) (fun k i h => ⟨.inr h, fun ⟨e1, e2, e3⟩ => ?_⟩) (.inr fun j hj => .inl ⟨rfl, by omega, by omega⟩) (fun j hj => him _ _ (.inl ⟨rfl, by omega, by omega⟩)) (fun g hg => by simp at hg) RestAt.loc (fun w h => h.rest) (fun N0 hN0 hNl => ?_)
  · rw [hcs] at hj
    obtain ⟨v, k1, k2⟩ := h1.hd.cells [] j c hj
    exact ⟨v, k1, k2, h1.hf j (by have := (List.getElem?_eq_some_iff.1 hj).1; exact this)⟩
  · rcases h with h | h | ⟨q, hq, h⟩ | ⟨q, u, hq, h⟩
    · subst h
      have := (hD.hd.room hD.hf (i - d.y) (by omega)).1
      rw [show d.y + (i - d.y) = i by omega] at this
      exact hD.mapNe (k := d.b) this e1.symm
    · exact ok.a1 k i ⟨e1, e2, by omega⟩ h
    · exact (ok.a2 q hq k i h).1 ⟨e1, e2, by omega⟩
    · exact (ok.a3 q u hq k i h).1 ⟨e1, e2, by omega⟩
  obtain rfl : N0 = [] := List.eq_nil_of_length_eq_zero hNl
  rw [hlen]
  refine X.reval 0 (.own 0 0) (v := .ext d.b d.y 0) rfl (fun N hN x hx => ?_) ?_
  · have := hN 0 _ rfl
    simp only [SV.den, this] at hx ⊢
    exact hx
  refine X.less [0, 1, 2] ?_
  obtain ⟨D, hDe⟩ : ∃ D, D = d.restD := ⟨_, rfl⟩
  show X (mkE Try.prog Try.f16 Q w d.D im d.restD (RestAt d) [⟨d.b, d.y, 8⟩] B16) _ ⟨[(0, .val (.own 0 0)), (0, .val (.ext d.b d.y 0)), (1, .val (.int .i64 (.v keep))), (2, .val (.bool (.lit true)))], [⟨true, cs, none⟩]⟩
  rw [← hDe]
  have himD : ∀ k o, D k o → im k o = none := fun k o h => him k o (by rw [hDe] at h; exact Dk.restD_D h)
  have hO : ∀ k o, D k o → w.heap.size ≤ k ∨ d.D k o := fun k o h => .inr (by rw [hDe] at h; exact Dk.restD_D h)
  refine X.go T16_ok 400 _ rfl Try.results16 ?_
  conv => arg 2; cbv
  refine X.call rfl rfl rfl rfl Try.call26 (fun N w1 args hN hS ha => ?_)
  have q0 := hN 0 _ rfl
  have ha' : [Value.pointer (some ⟨d.b, d.y, none⟩)] = args := by simpa [SV.denL, SV.den, q0] using ha
  subst ha'
  refine (fall_ok d.b d.y d.h w1 (hd_back q0 hS (by rw [hcs]; rfl)) (fun j hj => (hS.room 0 _ _ rfl q0 rfl j hj).2)).mono fun e w2 ⟨he, k1, k2⟩ => ⟨_, he, ?_⟩
  refine Goes.cells (r := 0) (g := ⟨true, cs, none⟩) hN hS rfl q0 rfl k2 d.h.fall.sv (by exact Nat.le_refl _) (fun j c hj => k1.cells N j c hj) (rv := .tup []) rfl rfl ?_
  clear ha he k1 k2 hS hN q0
  obtain ⟨fl, hfl⟩ : ∃ fl : Int, d.h.fall = ⟨d.h.size, d.h.count, d.h.m, d.h.po, d.h.n, d.h.cp, true, fl, d.h.fused, d.h.fuse⟩ := by
    unfold Hd.fall
    cases ho : d.h.off with
    | true => exact ⟨d.h.falls, by simp [← ho]⟩
    | false => exact ⟨_, rfl⟩
  have hbk : d.h.backed = ⟨d.h.size, d.h.count, d.h.m, none, 0, 0, false, fl, false, d.h.fuse⟩ := by unfold Hd.backed; rw [hfl]
  rw [hfl]
  obtain ⟨size, hsz⟩ : ∃ x, x = d.h.size := ⟨_, rfl⟩
  obtain ⟨count, hct⟩ : ∃ x, x = d.h.count := ⟨_, rfl⟩
  obtain ⟨m, hm⟩ : ∃ x, x = d.h.m := ⟨_, rfl⟩
  obtain ⟨po, hpo⟩ : ∃ x, x = d.h.po := ⟨_, rfl⟩
  obtain ⟨n, hn⟩ : ∃ x, x = d.h.n := ⟨_, rfl⟩
  obtain ⟨cp, hcp⟩ : ∃ x, x = d.h.cp := ⟨_, rfl⟩
  obtain ⟨fused, hfu⟩ : ∃ x, x = d.h.fused := ⟨_, rfl⟩
  obtain ⟨fuse, hfs⟩ : ∃ x, x = d.h.fuse := ⟨_, rfl⟩
  rw [← hsz, ← hct, ← hm, ← hpo, ← hn, ← hcp, ← hfu, ← hfs]
  refine X.less [0, 1, 2] ?_
  show X (mkE Try.prog Try.f16 Q w d.D im D (RestAt d) [⟨d.b, d.y, 8⟩] B16) _ ⟨_, [⟨true, [.int .i64 (.nat size), .int .i64 (.nat count), .raw (.map (some m)), .slv po n cp, .bool (.lit true), .int .u64 (.v fl), .bool (.lit fused), .int .i64 (.v fuse)], none⟩]⟩
  refine X.go T16_ok 400 _ rfl Try.results16 ?_
  conv => arg 2; cbv
  refine X.drawnL (fn := Try.f16) T16_ok noCall (idxG 80 []) 12 [13] 12 rfl (by kernel_rfl) rfl noCall_ok (idxG_ok [] rfl (fun q hq => absurd hq List.not_mem_nil)) 80 rfl ?_
  generalize hfin : (fun s' => X (mkE Try.prog Try.f16 Q w d.D im D (RestAt d) [⟨d.b, d.y, 8⟩] B16) _ s') = fin
  conv => cbv
  repeat (first | refine ⟨rfl, ?_⟩ | refine ⟨⟨_, _, rfl, rfl⟩, ?_⟩ | refine ⟨⟨rfl, _, _, rfl, rfl⟩, ?_⟩)
  subst hfin
  show X _ _ _
  have hnc : n ≤ cp := by rw [hn, hcp]; exact hD.nc
  have hzn : z ≤ n := by rw [hz, hn]; exact Nat.min_le_right _ _
  refine cutP (z := z) rfl rfl rfl rfl rfl Try.underlying81 Try.sizeOf87 ?_ (by omega) ?_ rfl ?_
  · rw [hz]
    simp only [SI.den, keepN, ← hn]
    (repeat' split) <;> omega
  · rcases ok.po with h | h
    · exact .inl ⟨by rw [hpo]; exact h.1, by rw [hcp]; exact h.2.2⟩
    · exact .inr ⟨_, _, by rw [hpo]; exact h.1⟩
  refine X.go T16_ok 400 _ rfl Try.results16 ?_
  conv => arg 2; cbv
  refine X.cond rfl (fun _ => ?_) (fun hc => ?_)
  case _ =>
    have hpos : d.h.po = some ⟨d.wb, d.wy, none⟩ := by
      rcases ok.po with h | h
      · omega
      · exact h.1
    have hi1000 : i < 1000 := by have := ok.nn; omega
    have hin : i < d.h.n := by omega
    refine X.go T16_ok 400 _ rfl Try.results16 ?_
    conv => arg 2; cbv
    refine X.cut (z := i) rfl rfl rfl rfl rfl Try.underlying81 Try.sizeOf87 ?_ (by omega) d.wb d.wy (by rw [hpo]; exact hpos) rfl ?_
    · simp [SI.den, IntKind.wrap, IntKind.bits, IntKind.signed]; omega
    refine X.go T16_ok 400 _ rfl Try.results16 ?_
    conv => arg 2; cbv
    refine X.call rfl rfl rfl rfl Try.call41 (fun N w1 args hN hS ha => ?_)
    have q0 := hN 0 _ rfl
    have ha' : [Value.pointer (some ⟨d.b, d.y, none⟩), .slice po i cp] = args := by simpa [SV.denL, SV.den, q0] using ha
    subst ha'
    have hR := hS.res
    have hnn : 0 + i ≤ d.h.n := by omega
    have hh1 : HdAt d.b d.y d.h.fall w1 := hd_back q0 hS (by rw [hfl, ← hsz, ← hct, ← hm, ← hpo, ← hn, ← hcp, ← hfu, ← hfs]; rfl)
    have e1 : (d.withH d.h.fall).g = d.g := by funext q; simp only [Dk.g, Dk.withH, (sameH_fall d.h).size]
    have e2 : ((d.withH d.h.fall).settled 0 i).g = (d.settled 0 i).g := by funext q; simp only [Dk.g, Dk.withH, Dk.settled, (sameH_fall d.h).size]
    refine (settle_ok (d.withH d.h.fall) 0 i po cp w1 hh1 (by rw [e1]; show MapAt d.h.fall.m _ _; rw [(sameH_fall d.h).m]; exact hR.mp) (by have := ok.nn; omega) (fun h0 => ?_) (fun j hj => ?_)).mono fun e w2 ⟨he, hm2, hc⟩ => ⟨_, he, ?_⟩
    · show po = some ⟨d.wb, _, none⟩
      rw [hpo, hpos]; simp [Dk.withH]
    · have := hR.rw (0 + j) (by omega)
      simp only [Dk.withH, (sameH_fall d.h).size]
      exact this
    rw [e2] at hm2
    have hm2 : MapAt d.h.m (d.settled 0 i).g w2 := by have h := hm2; rwa [show (d.withH d.h.fall).h.m = d.h.m from (sameH_fall d.h).m] at h
    have hc : Chg (fun k _ => k = d.h.m) w1 w2 := by rw [← show (d.withH d.h.fall).h.m = d.h.m from (sameH_fall d.h).m]; exact hc
    have hR2 := hR.settled hnn hc hm2
    have hsep : ∀ {k o : Nat}, (d.settled 0 i).butD i k o → ¬ (d.ws i).2.D d.h.size k o := fun h => but_apart ok hin hR2 h
    have hcap0 : d.h.size ≤ (d.ws i).2.cp := (hR.wa i hin).cap
    refine Goes.turn (r := .tup []) D (RestAt (d.settled 0 i)) hN hS (hc.mono fun k o _ h => by show D k o; rw [hDe]; exact .inl h) hO himD (fun g hg => by simp at hg; subst hg; exact .inl rfl) (fun k o hk => ⟨.inl hk, ?_⟩) (loc_mono RestAt.loc fun k o h => by rw [hDe]; exact Dk.settled_restD hnn h) hR2 rfl rfl ?_
    · have : There w1 k o := hR.there (by rw [hDe] at hk; exact hk)
      rcases this with h | h
      · exact .inl (some_of_chg hc o h)
      · by_cases ek : k = d.h.m
        · rw [ek]; exact .inr hm2.ob
        · exact .inr (by rw [objAt_chg hc h (fun _ h => ek h)]; exact h)
    show X (mkE Try.prog Try.f16 Q w d.D im D (RestAt (d.settled 0 i)) [⟨d.b, d.y, 8⟩] B16) _ _
    clear ha he hc hm2 hR hR2 hS hN q0 hh1
    refine X.go T16_ok 400 _ rfl Try.results16 ?_
    conv => arg 2; cbv
    obtain ⟨x, hx⟩ : ∃ x, x = d.ws i := ⟨_, rfl⟩
    obtain ⟨xi, uk, uy, ucp, uf⟩ := x
    have hcap : size ≤ ucp := by rw [hsz]; rw [← hx] at hcap0; exact hcap0
    obtain ⟨zz, hzz⟩ : ∃ zz, zz = d.wy + i * 2 := ⟨_, rfl⟩
    refine X.idxSlv rfl rfl rfl rfl rfl Try.underlying81 Try.sizeOf87 i ?_ (by omega) d.wb d.wy zz (by rw [hpo]; exact hpos) hzz rfl ?_
    · simp [SI.den, IntKind.wrap, IntKind.bits, IntKind.signed]; omega
    refine X.loadNR T16_ok (rs := [.int .i64 (.v xi), .slv (some ⟨uk, uy, none⟩) size ucp]) rfl rfl rfl rfl rfl rfl rfl (fun N w hN hR => ⟨[.int .i64 xi, .slice (some ⟨uk, uy, none⟩) size ucp], rfl, fun j v hj => ?_⟩) rfl ?_
    · have hr := RestAt.rw hR i hin
      rw [show (d.settled 0 i).ws i = d.ws i from rfl, ← hx, show (d.settled 0 i).wb = d.wb from rfl, show (d.settled 0 i).wy = d.wy from rfl, ← hzz] at hr
      match j, hj with
      | 0, hj => simp at hj; subst hj; exact hr.1
      | 1, hj => simp at hj; subst hj; rw [hr.2]; simp [By.val, hsz, Dk.settled]
      | j + 2, hj => simp at hj
    refine X.go T16_ok 400 _ rfl Try.results16 ?_
    conv => arg 2; cbv
    refine X.less [0, 6, 7] ?_
    have hs64 : 64 ≤ size ∧ size ≤ 512 := by rw [hsz]; exact ok.sz
    obtain ⟨cs2, hcs2⟩ : ∃ cs, cs = bytesL uf size := ⟨_, rfl⟩
    have hl2 : cs2.length = size := by rw [hcs2, bytesL_len]
    have huD : ∀ j, j < size → d.restD uk (uy + j) := fun j hj => .inr (.inr (.inl ⟨i, hin, by rw [← hx]; exact ⟨rfl, by show uy ≤ uy + j; omega, by show uy + j < uy + d.h.size; omega⟩⟩))
    refine X.focus uk uy cs2 ((d.settled 0 i).butD i) (ButAt (d.settled 0 i) i (d.settled 0 i).g) (fun w1 h1 j c hj => ?_) (by omega) (fun j hj => by show D _ _; rw [hDe]; exact huD j (by omega)) (fun k o h => ⟨by show D _ _; rw [hDe]; exact Dk.settled_restD hnn (Dk.butD_rest h), fun ⟨q1, q2, q3⟩ => hsep h (by rw [← hx]; exact ⟨q1, q2, by show o < uy + d.h.size; omega⟩)⟩) (.inr fun j hj => Dk.restD_D (huD j (by omega))) (fun j hj => him _ _ (Dk.restD_D (huD j (by omega)))) (fun g hg => by simp at hg; rcases hg with rfl | rfl <;> exact .inl rfl) ButAt.loc (fun w h => h.but i) (fun N0 hN0 hNl => ?_)
    · have hw := RestAt.wa h1 i hin
      rw [show (d.settled 0 i).ws i = d.ws i from rfl, ← hx, show (d.settled 0 i).h = d.h from rfl, ← hsz] at hw
      rw [hcs2] at hj
      obtain ⟨hjs, rfl⟩ := bytesL_get _ _ _ _ hj
      exact ⟨_, rfl, hw.bytes j hjs, hw.free j hjs⟩
    have hNl : N0.length = 2 := hNl
    rw [hl2]
    have hget : (N0 ++ [(⟨uk, uy, size⟩ : Num)])[2]? = some ⟨uk, uy, size⟩ := by rw [List.getElem?_append_right (by omega)]; simp [hNl]
    have hget0 : (N0 ++ [(⟨uk, uy, size⟩ : Num)])[0]? = some ⟨d.b, d.y, 8⟩ := by rw [List.getElem?_append_left (by omega)]; exact hN0 0 _ rfl
    refine X.recell1 1 1 (.osl 2 0 size 1 (some ucp)) rfl rfl (fun N hN v hv => ?_) ?_
    · have := hN 2 _ hget
      simp only [SV.den, this, Num.cap] at hv ⊢
      exact hv
    obtain ⟨Db, hDb⟩ : ∃ Db, Db = (d.settled 0 i).butD i := ⟨_, rfl⟩
    have hDbD : ∀ k o, Db k o → D k o := fun k o h => by rw [hDb] at h; rw [hDe]; exact Dk.settled_restD hnn (Dk.butD_rest h)
    show X (mkE Try.prog Try.f16 Q w d.D im ((d.settled 0 i).butD i) (ButAt (d.settled 0 i) i (d.settled 0 i).g) (N0 ++ [⟨uk, uy, size⟩]) B16) _ ⟨[(7, .val (.own 1 0)), (6, .val (.slv po z cp)), (0, .val (.own 0 0)), (0, .val (.ext d.b d.y 0))], [⟨true, [.int .i64 (.nat size), .int .i64 (.nat count), .raw (.map (some m)), .slv po n cp, .bool (.lit true), .int .u64 (.v fl), .bool (.lit fused), .int .i64 (.v fuse)], none⟩, ⟨true, [.int .i64 (.v xi), .osl 2 0 size 1 (some ucp)], none⟩, ⟨true, cs2, none⟩]⟩
    rw [← hDb]
    obtain ⟨hf, hhf⟩ : ∃ hf, hf = size / 2 := ⟨_, rfl⟩
    have hz2 : (SI.wrap .i64 (.quo (.nat size) (.lit 2))).den = ((hf : Nat) : Int) := by
      simp [SI.den, IntKind.wrap, IntKind.bits, IntKind.signed]; omega
    obtain ⟨sh, hsh⟩ : ∃ sh, sh = size - hf := ⟨_, rfl⟩
    obtain ⟨ch, hch⟩ : ∃ ch, ch = ucp - hf := ⟨_, rfl⟩
    refine X.go T16_ok 400 _ rfl Try.results16 ?_
    conv => arg 2; cbv
    refine X.drawnI (fn := Try.f16) T16_ok noCall (valO 80 _ [⟨7, 51, .osl 2 hf sh 1 (some ch), fun f => ev f (.tmp 45) = some (.osl 2 0 size 1 (some ucp)) ∧ ∃ kd e, ev f (.tmp 50) = some (.int kd e) ∧ e.den = (hf : Int)⟩]) 11 [17, 18] [2] 16 rfl (by kernel_rfl) rfl noCall_ok (valO_ok _ (by kernel_rfl) (fun q hq => ?_)) 80 rfl ?_
    · simp only [List.mem_cons, List.not_mem_nil, or_false] at hq
      subst hq
      refine good_from (fun o ho => by cases ho; rfl) Try.underlying30 Try.sizeOf5 fun N hN v hv => ?_
      have := hN 2 _ hget
      simp only [SV.den, this, Num.cap, Option.some.injEq] at hv ⊢
      exact ⟨uk, uy, size, ucp, by rw [← hv]; rfl, by omega, hcap, by omega, by simp [hsh, hch]⟩
    generalize hfin : (fun s' => XI _ _ _ _ _ (mkE Try.prog Try.f16 Q w d.D im Db (ButAt (d.settled 0 i) i (d.settled 0 i).g) (N0 ++ [⟨uk, uy, size⟩]) B16) s') = fin
    conv => cbv
    refine ⟨⟨_, _, rfl, hz2⟩, ?_⟩
    subst hfin
    show XI _ _ _ _ _ (mkE Try.prog Try.f16 Q w d.D im Db (ButAt (d.settled 0 i) i (d.settled 0 i).g) (N0 ++ [⟨uk, uy, size⟩]) B16) _
    refine XI.call rfl rfl rfl rfl Try.call43 (fun N w1 args hN hS ha => ?_)
    have q0 := hN 0 _ hget0
    obtain rfl := args_eq (vs := [.pointer (some ⟨d.b, d.y, none⟩), .int .i64 xi]) (by simp [SV.denL, SV.den, SI.den, q0]) ha
    obtain ⟨hd1, hhd1⟩ : ∃ h : Hd, h = ⟨size, count, m, po, n, cp, true, fl, fused, fuse⟩ := ⟨_, rfl⟩
    have hh1 : HdAt d.b d.y hd1 w1 := hd_back q0 hS (by rw [hhd1]; rfl)
    obtain ⟨dS, hdS⟩ : ∃ dS : Dk, dS = ⟨d.b, d.y, hd1, d.wb, d.wy, d.ws, (d.settled 0 i).kept⟩ := ⟨_, rfl⟩
    have hgS : dS.g = (d.settled 0 i).g := by rw [hdS, hhd1]; funext q; simp [Dk.g, Dk.settled, hsz]
    have hsS : dS.h.size = size := by rw [hdS, hhd1]
    have hst : dS.st xi = (d.settled 0 i).st xi := by rw [hdS]; rfl
    have hRb : ButAt (d.settled 0 i) i (d.settled 0 i).g w1 := hS.res
    have hs1 : 0 < dS.h.size ∧ dS.h.size ≤ 1000 := by rw [hsS]; omega
    have hs2 : HdAt dS.b dS.y dS.h w1 := by rw [hdS]; exact hh1
    have hmS : dS.h.m = d.h.m := by rw [hdS, hhd1]; exact hm
    have hs3 : MapAt dS.h.m dS.g w1 := by rw [hgS, hmS]; exact hRb.mp
    have hs4 : ∀ u, dS.kept xi = some u → u.At dS.h.size w1 := fun u hu => by
      have hu : (d.settled 0 i).kept xi = some u := by rw [hdS] at hu; exact hu
      have h := hRb.ka xi u hu
      rw [hsS, hsz]; exact h
    have hcall := stays_ok dS xi w1 hs1 hs2 hs3 hs4
    have eb : dS.b = d.b := by rw [hdS]
    have ey : dS.y = d.y := by rw [hdS]
    rw [eb, ey] at hcall
    refine hcall.mono fun e w2 hr => ?_
    clear hcall hs4 hs3 hs2 hs1 hmS hRb eb ey
    rw [hsS, hst] at hr
    refine GoesI.fresh hN hS hr rfl (fun r g hg hm => ?_) ?_
    · rw [List.getElem?_append_left (List.getElem?_eq_some_iff.1 hg).1]; exact hg
    clear hr ha hh1 hS hN q0 hgS hsS hst hdS dS
    obtain ⟨fs, hfs2⟩ : ∃ fs, fs = (d.settled 0 i).st xi := ⟨_, rfl⟩
    rw [← hfs2]
    obtain ⟨cs3, hcs3⟩ : ∃ cs, cs = bytesL fs size := ⟨_, rfl⟩
    rw [← hcs3]
    have hl3 : cs3.length = size := by rw [hcs3, bytesL_len]
    show XI _ _ _ _ _ (mkE Try.prog Try.f16 Q w d.D im Db (ButAt (d.settled 0 i) i (d.settled 0 i).g) (N0 ++ [⟨uk, uy, size⟩]) B16) _
    refine XI.value rfl rfl (.osl 3 hf sh 1 none) rfl (fun N a w1 hN hf' hS => ?_) (fun r g hg hm => ?_) ?_
    · obtain ⟨p, hp⟩ : ∃ p, N[3]? = some p := ⟨_, List.getElem?_eq_getElem (by rw [hS.len]; exact Nat.lt_succ_self 3)⟩
      have hext := hS.ext 3 _ p rfl hp rfl
      simp only [hl3] at hext
      have h1 := ev_sound hf' (o := .tmp 55) (s := .osl 3 0 size 1 none) rfl
      have h2 := ev_sound hf' (o := .tmp 60) (s := .int .i64 (.wrap .i64 (.quo (.nat size) (.lit 2)))) rfl
      simp only [SV.den, hp, Num.cap, Option.some.injEq] at h1 h2
      rw [hz2] at h2
      refine ⟨_, ?_, exec_from (x := .tmp 55) (lo := .tmp 60) rfl Try.underlying30 Try.sizeOf5 h1.symm h2.symm (by omega) (by simp; omega) (by simp; omega)⟩
      simp [SV.den, hp, Num.cap, hsh]
      try omega
    · match r, hg with
      | 0, hg => exact hg
      | 1, hg => exact hg
      | 2, hg => exact hg
      | r + 3, hg => simp at hg
    refine XI.norm ?_
    generalize hfin : (fun s' => XI _ _ _ _ _ (mkE Try.prog Try.f16 Q w d.D im Db (ButAt (d.settled 0 i) i (d.settled 0 i).g) (N0 ++ [⟨uk, uy, size⟩]) B16) s') = fin
    conv => cbv
    subst hfin
    show XI _ _ _ _ _ (mkE Try.prog Try.f16 Q w d.D im Db (ButAt (d.settled 0 i) i (d.settled 0 i).g) (N0 ++ [⟨uk, uy, size⟩]) B16) _
    have hcp := copy_torn (te := ti5) (r := 2) (r2 := 3) (n := size) (h := hf) (k := some ch) (k2 := none) (f := uf) (g := fs) (cs := cs2) (cs2 := cs3) (o2 := true) (b2 := none) (rg := [⟨true, [.int .i64 (.nat size), .int .i64 (.nat count), .raw (.map (some m)), .slv po n cp, .bool (.lit true), .int .u64 (.v fl), .bool (.lit fused), .int .i64 (.v fuse)], none⟩, ⟨true, [.int .i64 (.v xi), .osl 2 0 size 1 (some ucp)], none⟩, ⟨true, cs2, none⟩, ⟨true, cs3, none⟩]) rfl (by omega) rfl hcs2 rfl hcs3
    rw [← hsh] at hcp
    refine XI.opEq T16_ok (opE_copy (ti := ti30) (te := ti5) rfl rfl rfl rfl rfl rfl rfl rfl hcp rfl) (fun r g hg hm => ?_) (XI.done ?_)
    · match r, hg with
      | 0, hg => exact hg
      | 1, hg => exact hg
      | 2, hg => simp [memN] at hm
      | r + 3, hg => simp at hg
    have hft : (fun j => if j < hf then uf j else fs j) = d.tornB i := by
      funext j
      unfold Dk.tornB tornF
      rw [← hx, hfs2, ← hsz, ← hhf]
    rw [hft]
    obtain ⟨cs4, hcs4⟩ : ∃ cs, cs = bytesL (d.tornB i) size := ⟨_, rfl⟩
    rw [← hcs4]
    have hl4 : cs4.length = size := by rw [hcs4, bytesL_len]
    show X (mkE Try.prog Try.f16 Q w d.D im Db (ButAt (d.settled 0 i) i (d.settled 0 i).g) (N0 ++ [⟨uk, uy, size⟩]) B16) _ _
    refine X.go T16_ok 400 _ rfl Try.results16 ?_
    conv => arg 2; cbv
    obtain ⟨ci, hci⟩ : ∃ ci, ci = cp - i := ⟨_, rfl⟩
    refine X.value rfl rfl (.slv (some ⟨d.wb, zz, none⟩) 1 ci) rfl (fun N a w1 hN hf' hS => ⟨_, rfl, ?_⟩) ?_
    · have h1 := ev_sound hf' (o := .tmp 63) (s := .slv po z cp) rfl
      have h2 := ev_sound hf' (o := .tmp 66) (s := .int .i64 (.wrap .i64 (.sub (.nat z) (.lit 1)))) rfl
      simp only [SV.den, Option.some.injEq] at h1 h2
      have hz3 : (SI.wrap .i64 (.sub (.nat z) (.lit 1))).den = ((i : Nat) : Int) := by simp [SI.den, IntKind.wrap, IntKind.bits, IntKind.signed]; omega
      rw [hz3] at h2
      rw [hpo, hpos] at h1
      refine (exec_from (x := .tmp 63) (lo := .tmp 66) rfl Try.underlying81 Try.sizeOf87 h1.symm h2.symm (by omega) (by omega) (by omega)).trans ?_
      rw [show z - i = 1 by omega, ← hzz, ← hci]
    refine X.go T16_ok 400 _ rfl Try.results16 ?_
    conv => arg 2; cbv
    refine X.call rfl rfl rfl rfl Try.call41 (fun N w1 args hN hS ha => ?_)
    have q0 := hN 0 _ hget0
    obtain rfl := args_eq (vs := [.pointer (some ⟨d.b, d.y, none⟩), .slice (some ⟨d.wb, zz, none⟩) 1 ci]) (by simp [SV.denL, SV.den, q0]) ha
    have hRb : ButAt (d.settled 0 i) i (d.settled 0 i).g w1 := hS.res
    obtain ⟨hd1, hhd1⟩ : ∃ h : Hd, h = ⟨size, count, m, po, n, cp, true, fl, fused, fuse⟩ := ⟨_, rfl⟩
    have hh1 : HdAt d.b d.y hd1 w1 := hd_back q0 hS (by rw [hhd1]; rfl)
    obtain ⟨dS, hdS⟩ : ∃ dS : Dk, dS = ⟨d.b, d.y, hd1, d.wb, d.wy, (d.rewr i (d.tornB i)).ws, (d.settled 0 i).kept⟩ := ⟨_, rfl⟩
    have hmS : dS.h.m = d.h.m := by rw [hdS, hhd1]; exact hm
    have hsS : dS.h.size = d.h.size := by rw [hdS, hhd1]; exact hsz
    have hgS : dS.g = (d.settled 0 i).g := by funext q; simp only [Dk.g, hsS]; rw [hdS]; rfl
    have hgS2 : (dS.settled i 1).g = ((d.rewr i (d.tornB i)).settled 0 (i + 1)).g := by
      funext q
      show (settleK dS.kept dS.ws i 1 q).map (·.val dS.h.size) = (settleK d.kept (d.rewr i (d.tornB i)).ws 0 (i + 1) q).map (·.val d.h.size)
      rw [hsS, hdS]
      show (settleK (settleK d.kept d.ws 0 i) (d.rewr i (d.tornB i)).ws i 1 q).map _ = _
      rw [← settleK_rewr d (d.tornB i) (Nat.le_refl i)]
      simp [settleK]
    have hcall := settle_ok dS i 1 (some ⟨d.wb, zz, none⟩) ci w1 (by rw [show dS.b = d.b by rw [hdS], show dS.y = d.y by rw [hdS], show dS.h = hd1 by rw [hdS]]; exact hh1) (by rw [hgS, hmS]; exact hRb.mp) (by omega) (fun _ => by rw [hdS, hzz]) (fun j hj => by
      obtain rfl : j = 0 := by omega
      have hr := hRb.rw i hin
      rw [show (d.settled 0 i).ws i = d.ws i from rfl, show (d.settled 0 i).wb = d.wb from rfl, show (d.settled 0 i).wy = d.wy from rfl, show (d.settled 0 i).h.size = d.h.size from rfl] at hr
      rw [hsS, hdS]
      show w1.cell? ⟨d.wb, d.wy + i * 2, none⟩ = some (.int .i64 ((d.rewr i (d.tornB i)).ws i).1) ∧ w1.cell? ⟨d.wb, d.wy + i * 2 + 1, none⟩ = some (((d.rewr i (d.tornB i)).ws i).2.val d.h.size)
      rw [Dk.rewr_1, Dk.rewr_val]; exact hr)
    rw [show dS.b = d.b by rw [hdS], show dS.y = d.y by rw [hdS], hgS2, hmS] at hcall
    refine hcall.mono fun e w2 ⟨he, hm2, hc⟩ => ⟨_, he, ?_⟩
    have hR2 : ButAt (d.settled 0 i) i ((d.rewr i (d.tornB i)).settled 0 (i + 1)).g w2 := hRb.turn hc hm2
    refine Goes.turn (r := .tup []) Db (ButAt (d.settled 0 i) i ((d.rewr i (d.tornB i)).settled 0 (i + 1)).g) hN hS (hc.mono fun k o _ h => by show Db k o; rw [hDb]; exact .inl h) (fun k o h => hO k o (hDbD k o h)) (fun k o h => himD k o (hDbD k o h)) (fun g hg => by simp at hg; rcases hg with rfl | rfl | rfl | rfl <;> exact .inl rfl) (fun k o hk => ⟨.inl hk, ?_⟩) (by rw [hDb]; exact ButAt.loc) hR2 rfl rfl ?_
    · have : There w1 k o := hRb.there (by rw [hDb] at hk; exact hk)
      rcases this with h | h
      · exact .inl (some_of_chg hc o h)
      · by_cases ek : k = d.h.m
        · rw [ek]; exact .inr hm2.ob
        · exact .inr (by rw [objAt_chg hc h (fun _ h => ek h)]; exact h)
    show X (mkE Try.prog Try.f16 Q w d.D im Db (ButAt (d.settled 0 i) i ((d.rewr i (d.tornB i)).settled 0 (i + 1)).g) (N0 ++ [⟨uk, uy, size⟩]) B16) _ _
    clear hcall ha he hc hm2 hR2 hRb hS hN q0 hh1 hgS hgS2 hsS hmS hdS dS
    refine X.go T16_ok 400 _ rfl Try.results16 ?_
    conv => arg 2; cbv
    refine X.over T16_ok rfl (fun N w' v hN hS hv => ?_)
    cases hv
    rw [hQ]
    have q0 := hN 0 _ hget0
    have q2 := hN 2 _ hget
    have hRb : ButAt (d.settled 0 i) i ((d.rewr i (d.tornB i)).settled 0 (i + 1)).g w' := hS.res
    have hhd : HdAt d.b d.y d.h.backed w' := hd_back q0 hS (by rw [hbk, ← hsz, ← hct, ← hm, ← hfs]; rfl)
    have hhf : HdFree d.b d.y w' := fun j hj => (hS.room 0 _ _ rfl q0 rfl j hj).2
    have hby : ({ (d.ws i).2 with f := d.tornB i } : By).At d.h.size w' := by
      rw [← hx, ← hsz]
      refine ⟨hcap, fun j hj => ?_, fun j hj => (hS.room 2 _ _ rfl q2 rfl j hj).2⟩
      obtain ⟨v, k1, k2⟩ := hS.cell 2 _ _ rfl q2 j (.int .u8 (.v (d.tornB i j))) (by show cs4[j]? = _; rw [hcs4]; exact bytesL_at hj)
      cases k1
      exact k2
    exact ⟨rfl, ButAt.back hin hRb hby hhd hhf, Dk.backed_ok (Dk.settled_ok0 (Dk.rewr_ok0 ok.toOk0 i _) (by show 0 + (i + 1) ≤ d.h.n; omega)), hS.chg, fun k o h => by
      have h1 := Dk.settled_D (d := d.rewr i (d.tornB i)) (by show 0 + (i + 1) ≤ d.h.n; omega) (Dk.backed_D (d := (d.rewr i (d.tornB i)).settled 0 (i + 1)) h)
      rcases h1 with h1 | h1 | h1 | ⟨q, hq, h1⟩ | h1
      · exact .inl h1
      · exact .inr (.inl h1)
      · exact .inr (.inr (.inl h1))
      · exact .inr (.inr (.inr (.inl ⟨q, hq, by rw [Dk.rewr_D] at h1; exact h1⟩)))
      · exact .inr (.inr (.inr (.inr h1)))⟩
  · exfalso
    simp only [SB.F, SI.den] at hc
    omega
end Go.Proofs.Ytkjhpaeminegoaa

namespace Go.Proofs.Ytkjhpaeminegoaa
open Go.Eng
def tornL (size : Nat) (st : Int → Nat → Int) (l : Wl) (z : Nat) : Wl := l.take (z - 1) ++ (match l[z - 1]? with
  | some x => [(x.1, tornF size x.2 (foldW st (l.take (z - 1)) x.1))]
  | none => [])
def backSt (size : Nat) (st : Int → Nat → Int) (l : Wl) (z : Nat) (torn : Bool) : Int → Nat → Int := foldW st (bif torn && Nat.blt 0 z then tornL size st l z else l.take z)
theorem foldW_st {st st' : Int → Nat → Int} (h : ∀ i, st i = st' i) (l : Wl) (i : Int) : foldW st l i = foldW st' l i := by
  unfold foldW; rw [h i]
theorem keepN_le (keep : Int) (n : Nat) : keepN keep n ≤ n := Nat.min_le_right _ _
theorem Dk.log_at (d : Dk) {i n : Nat} (h : i < n) : (d.log n)[i]? = some ((d.ws i).1, (d.ws i).2.f) := by
  simp [Dk.log, List.getElem?_range h]
theorem Dk.log_rewr (d : Dk) (i : Nat) (f : Nat → Int) : (d.rewr i f).log (i + 1) = d.log i ++ [((d.ws i).1, f)] := by
  rw [Dk.log_succ]
  have e1 : (d.rewr i f).log i = d.log i := by
    unfold Dk.log
    exact List.map_congr_left fun q hq => by rw [show (d.rewr i f).ws q = d.ws q from updA_ne _ _ (by have := List.mem_range.1 hq; omega)]
  have e2 : (d.rewr i f).ws i = ((d.ws i).1, { (d.ws i).2 with f := f }) := updA_at _ _ _
  rw [e1, e2]
end Go.Proofs.Ytkjhpaeminegoaa

namespace Go.Eng
open Go
inductive GK where
  | yes | no
  | may (k : Nat) (w : Bool) (b : SB)
def gdOf (all : Array Oper) (f : Fr) (o : Oper) : Option GK :=
  match o.guard with
  | none => some .yes
  | some (gi, want) => match dstOf all gi with
    | none => none
    | some k => match look f k with
      | .val (.bool (.lit b)) => some (bif b == want then .yes else .no)
      | .val (.bool b) => some (.may k want b)
      | .val v => bif isU v then some .no else none
      | .opt _ _ (.bool b) => some (.may k want b)
      | _ => none
def GK.Ok (g : GK) (all : Array Oper) (o : Oper) (a : Act) : Prop := match g with
  | .yes => Region.wanted o (yielded all a.tmps) = true
  | .no => Region.wanted o (yielded all a.tmps) = false
  | .may k w b => (Region.wanted o (yielded all a.tmps) = true ↔ a.tmps[k]? = some (.bool w)) ∧ (a.tmps[k]? = some (.bool w) → b.den = w)
def GK.T : GK → Prop
  | .may _ w b => b.den = w
  | _ => True
theorem gdOf_sound {n : Nat} {N : Nums} {f : Fr} {a : Act} {all : Array Oper} {o : Oper} {g : GK} (hf : FrOk n N f a) (h : gdOf all f o = some g) : g.Ok all o a := by
  unfold gdOf at h
  cases hg : o.guard with
  | none =>
    simp only [hg, Option.some.injEq] at h; subst h
    simp [GK.Ok, Region.wanted, hg]
  | some gw =>
    obtain ⟨gi, want⟩ := gw
    simp only [hg] at h
    cases hd : dstOf all gi with
    | none => simp [hd] at h
    | some k =>
      simp only [hd] at h
      have hyk := yielded_at hd a.tmps
      have hwant : Region.wanted o (yielded all a.tmps) = (yielded all a.tmps gi == some want) := by simp [Region.wanted, hg]
      have hmay : (Region.wanted o (yielded all a.tmps) = true ↔ a.tmps[k]? = some (.bool want)) := by
        rw [hwant, hyk]
        cases ht : a.tmps[k]? with
        | none => simp
        | some u => cases u <;> simp
      have hok := hf.ok k
      split at h
      · rename_i b hl
        rw [hl] at hok
        obtain ⟨x, hx, hm⟩ := hok
        simp only [SV.den, SB.den, Option.some.injEq] at hx; subst hx
        simp only [Option.some.injEq] at h; subst h
        cases hbw : (b == want) with
        | true => show Region.wanted _ _ = true; rw [hwant, hyk, hm]; simpa using hbw
        | false => show Region.wanted _ _ = false; rw [hwant, hyk, hm]; simpa using hbw
      · rename_i b _ hl
        rw [hl] at hok
        obtain ⟨x, hx, hm⟩ := hok
        simp only [SV.den, Option.some.injEq] at hx; subst hx
        simp only [Option.some.injEq] at h; subst h
        exact ⟨hmay, fun e => by rw [hm] at e; simpa using e⟩
      · rename_i v _ _ hl
        rw [hl] at hok
        obtain ⟨x, hx, hm⟩ := hok
        cases hu : isU v with
        | false => rw [hu] at h; simp at h
        | true =>
          rw [hu] at h
          simp only [cond_true, Option.some.injEq] at h; subst h
          have : v = .tup [] := by unfold isU at hu; split at hu <;> first | rfl | simp at hu
          subst this
          simp only [SV.den, SV.denL, Option.some.injEq] at hx; subst hx
          show Region.wanted _ _ = false
          rw [hwant, hyk, hm]; rfl
      · rename_i j w' b hl
        rw [hl] at hok
        simp only [Option.some.injEq] at h; subst h
        refine ⟨hmay, fun e => ?_⟩
        by_cases hj : a.tmps[j]? = some (.bool w')
        · obtain ⟨x, hx, hm⟩ := hok.1 hj
          simp only [SV.den, Option.some.injEq] at hx; subst hx
          rw [hm] at e; simpa using e
        · rw [hok.2 hj] at e; cases e
      · cases h
def evK (f : Fr) : GK → Operand → Option SV
  | .may k w _ => evG f k w
  | _ => ev f
theorem evK_sound {n : Nat} {N : Nums} {f : Fr} {a : Act} {all : Array Oper} {o : Oper} {g : GK} (hf : FrOk n N f a) (h : g.Ok all o a) (hw : Region.wanted o (yielded all a.tmps) = true) {x : Operand} {s : SV} (he : evK f g x = some s) : s.den N = some (a.eval x) := by
  cases g with
  | yes => exact ev_sound hf he
  | no => exact ev_sound hf he
  | may k w b => exact evG_sound hf (h.1.1 hw) he
theorem GK.Ok.t {g : GK} {all : Array Oper} {o : Oper} {a : Act} (h : g.Ok all o a) (hw : Region.wanted o (yielded all a.tmps) = true) : g.T := by
  cases g with
  | yes => trivial
  | no => trivial
  | may k w b => exact h.2 (h.1.1 hw)
def putG (n : Nat) (f : Fr) (d : Option Nat) (g : GK) (r : SV) : Option Fr := match g with
  | .yes => putO n f d (.val r)
  | .no => putO n f d (.val (.tup []))
  | .may k w _ => match d with
    | some d => bif Nat.beq d k then none else putO n f (some d) (.opt k w r)
    | none => some f
theorem putG_sound {n : Nat} {N : Nums} {f f' : Fr} {a : Act} {all : Array Oper} {o : Oper} {g : GK} {d : Option Nat} {r : SV} (hf : FrOk n N f a) (h : g.Ok all o a) (hp : putG n f d g r = some f') :
    (Region.wanted o (yielded all a.tmps) = true → ∀ x, r.den N = some x → FrOk n N f' (a.put d x)) ∧ (Region.wanted o (yielded all a.tmps) = false → FrOk n N f' (a.put d undef)) := by
  cases g with
  | yes => exact ⟨fun _ x hx => putO_sound hf hx hp, fun hw => (by have h : Region.wanted _ _ = true := h; rw [hw] at h; cases h)⟩
  | no => exact ⟨fun hw => (by have h : Region.wanted _ _ = false := h; rw [hw] at h; cases h), fun _ => putO_sound hf (x := undef) rfl hp⟩
  | may k w b =>
    have h : Region.wanted o (yielded all a.tmps) = true ↔ a.tmps[k]? = some (.bool w) := h.1
    cases d with
    | none => simp only [putG, Option.some.injEq] at hp; subst hp; exact ⟨fun _ _ _ => hf, fun _ => hf⟩
    | some d =>
      simp only [putG] at hp
      cases hdk : Nat.beq d k with
      | true => rw [hdk] at hp; simp at hp
      | false =>
        rw [hdk] at hp
        simp only [cond_false, putO] at hp
        have hdk' : d ≠ k := fun e => by subst e; simp at hdk
        cases hb : Nat.blt d n with
        | false => rw [hb] at hp; simp at hp
        | true =>
          rw [hb] at hp
          simp only [cond_true, Option.some.injEq] at hp; subst hp
          have hdn : d < n := Nat.le_of_ble_eq_true hb
          refine ⟨fun hw x hx => ?_, fun hw => ?_⟩
          · have hk' := h.1 hw
            have e1 : (a.put (some d) x).tmps[k]? = a.tmps[k]? := by simp only [Act.put]; rw [Array.getElem?_setIfInBounds_ne hdk']
            exact hf.put hdn ⟨fun _ => ⟨x, hx, by simp [Act.put, hf.size, hdn]⟩, fun hn => absurd (by rw [e1]; exact hk') hn⟩
          · have hk' : ¬ a.tmps[k]? = some (.bool w) := fun e => by rw [h.2 e] at hw; cases hw
            have e1 : (a.put (some d) undef).tmps[k]? = a.tmps[k]? := by simp only [Act.put]; rw [Array.getElem?_setIfInBounds_ne hdk']
            exact hf.put hdn ⟨fun e => absurd (by rw [← e1]; exact e) hk', fun _ => by simp [Act.put, hf.size, hdn]⟩
inductive Owe where
  | call (rg : List Rg) (k : GK) (g : Nat) (l : List SV) (r : SV)
  | val (rg : List Rg) (f : Fr) (g : GK) (op : Op) (r : SV)
def CallOk (E : Env) (N0 : Nums) (rg : List Rg) (k : GK) (g : Nat) (l : List SV) (r : SV) : Prop :=
  k.T → (∀ args w, (callFunc g args).run E.P w = .ok (.enter g args) w) ∧ ∀ (N : Nums) (w : World) (args : List Value), N0.le N → Sat E N rg w → SV.denL N l = some args →
    Calls E.P g args.toArray w fun e w' => ∃ v, e = .returned v ∧ r.den N = some v ∧ Chg (fun _ _ => False) w w'
def VI (im : Nat → Nat → Option Value) (N : Nums) (rg : List Rg) (w : World) : Prop := Vis N rg w ∧ ∀ k o v, im k o = some v → w.cell? ⟨k, o, none⟩ = some v
theorem VI.mono {im : Nat → Nat → Option Value} {N N' : Nums} {rg : List Rg} {w : World} (h : VI im N rg w) (hN : N.le N') : VI im N' rg w := ⟨h.1.mono hN, h.2⟩
theorem Sat.vi {E : Env} {N : Nums} {rg : List Rg} {w : World} (h : Sat E N rg w) : VI E.im N rg w := ⟨h.vis, h.imm⟩
def ValOk (E : Env) (N0 : Nums) (rg : List Rg) (f : Fr) (g : GK) (op : Op) (r : SV) : Prop :=
  g.T → ∀ (N : Nums) (ρ : Operand → Value) (o : Oper) (w : World), N0.le N → o.op = op → (∀ x s, evK f g x = some s → s.den N = some (ρ x)) → VI E.im N rg w → ∃ v, r.den N = some v ∧ ∀ w', VI E.im N rg w' → (execOp ρ o).run E.P w' = .ok (.value v) w'
def Owe.Ok (E : Env) (N0 : Nums) : Owe → Prop
  | .call rg k g l r => CallOk E N0 rg k g l r
  | .val rg f g op r => ValOk E N0 rg f g op r
def lookN : List (Nat × SV) → Nat → Option SV
  | [], _ => none
  | (k, v) :: r, t => bif Nat.beq k t then some v else lookN r t
def isCall : Op → Bool
  | .call c => match c.callee with
    | .value _ => true
    | _ => false
  | _ => false
def qP (td : List (Nat × SV)) (T : Tab) (n : Nat) (all : Array Oper) (rg : List Rg) (i : Nat) (f : Fr) : Option (Fr × List Owe) :=
  match nth all.toList i with
  | none => none
  | some o => match (match isCall o.op, o.dst with | false, some d => lookN td d | _, _ => none) with
    | some r => match gdOf all f o with
      | some g => match putG n f o.dst g r with
        | some f' => some (f', match g with | .no => [] | g => [.val rg f g o.op r])
        | none => none
      | none => none
    | none => match opQ T n all rg i f with
      | some f' => some (f', [])
      | none => none
theorem qP_sound {E : Env} {T : Tab} (hT : TabOk E.P T) {td : List (Nat × SV)} {n : Nat} {N N0 : Nums} {rg : List Rg} {f f' : Fr} {a : Act} {all : Array Oper} {i : Nat} {o : Oper} {w0 : World} {os : List Owe} (ho : all[i]? = some o) (hq : qP td T n all rg i f = some (f', os)) (hos : ∀ q ∈ os, q.Ok E N0) (hN0 : N0.le N) (hf : FrOk n N f a) (h0 : VI E.im N rg w0) :
    ∃ v, ((Region.wanted o (yielded all a.tmps) = true ∧ ∀ w, VI E.im N rg w → (execOp a.eval o).run E.P w = .ok (.value v) w) ∨ (Region.wanted o (yielded all a.tmps) = false ∧ v = undef)) ∧ FrOk n N f' (a.put o.dst v) := by
  have ho' : nth all.toList i = some o := by rw [nth_eq]; simpa using ho
  unfold qP at hq
  simp only [ho'] at hq
  split at hq
  · rename_i r hr
    split at hq
    · rename_i g hg
      split at hq
      · rename_i f1 hp
        simp only [Option.some.injEq, Prod.mk.injEq] at hq
        obtain ⟨rfl, rfl⟩ := hq
        have hgk := gdOf_sound hf hg
        obtain ⟨p1, p2⟩ := putG_sound hf hgk hp
        cases hw : Region.wanted o (yielded all a.tmps) with
        | false => exact ⟨undef, .inr ⟨rfl, rfl⟩, p2 hw⟩
        | true =>
          have hgn : ∀ {P : Prop}, g = .no → P := fun e => by subst e; have h : Region.wanted _ _ = false := hgk; rw [hw] at h; cases h
          have hob : ValOk E N0 rg f g o.op r := by
            cases g with
            | no => exact hgn rfl
            | yes => exact hos _ (List.mem_singleton.2 rfl)
            | may k w b => exact hos _ (List.mem_singleton.2 rfl)
          obtain ⟨v, h1, h2⟩ := hob (hgk.t hw) N a.eval o w0 hN0 rfl (fun x s hx => evK_sound hf hgk hw hx) h0
          exact ⟨v, .inl ⟨rfl, h2⟩, p1 hw v h1⟩
      · cases hq
    · cases hq
  · split at hq
    · rename_i f1 hq1
      simp only [Option.some.injEq, Prod.mk.injEq] at hq
      obtain ⟨rfl, rfl⟩ := hq
      obtain ⟨v, h1, h2⟩ := opQ_sound hT ho hq1 hf h0.1
      exact ⟨v, h1.imp (fun h => ⟨h.1, fun w hw => h.2 w hw.1⟩) id, h2⟩
    · cases hq
def pcQ (ρ : Operand → Option SV) (op : Op) : Option (Nat × List SV) :=
  match op with
  | .call c => match c.callee with
    | .value x => match ρ x with
      | some v => match fnOf v with
        | some (g, cs) => match evL0 ρ c.args.toList with
          | some l => some (g, l ++ cs)
          | none => none
        | none => none
      | none => none
    | _ => none
  | _ => none
def pcall (td : List (Nat × SV)) (n : Nat) (all : Array Oper) (i : Nat) (f : Fr) : Option (Fr × GK × Nat × List SV × SV) :=
  match nth all.toList i with
  | none => none
  | some o => match (match o.dst with | some d => lookN td d | none => none) with
    | some r => match gdOf all f o with
      | some g => match pcQ (evK f g) o.op with
        | some (h, l) => match putG n f o.dst g r with
          | some f' => some (f', g, h, l, r)
          | none => none
        | none => none
      | none => none
    | none => none
theorem pcall_sound {E : Env} {td : List (Nat × SV)} {N N0 : Nums} {rg : List Rg} {f f' : Fr} {a : Act} {all : Array Oper} {i : Nat} {o : Oper} {w : World} {g : Nat} {k : GK} {l : List SV} {r : SV} (ho : all[i]? = some o) (hq : pcall td E.n all i f = some (f', k, g, l, r)) (hob : CallOk E N0 rg k g l r) (hN0 : N0.le N) (hf : FrOk E.n N f a) (hS : Sat E N rg w) :
    (Region.wanted o (yielded all a.tmps) = true ∧ ∀ (K : Act → World → Prop) (Q : Exit → Act → World → Prop), (∀ x w', FrOk E.n N f' (a.put o.dst x) → Sat E N rg w' → K (a.put o.dst x) w') → o.wp E.P a w K Q) ∨
    (Region.wanted o (yielded all a.tmps) = false ∧ FrOk E.n N f' (a.put o.dst undef)) := by
  have ho' : nth all.toList i = some o := by rw [nth_eq]; simpa using ho
  unfold pcall at hq
  simp only [ho'] at hq
  split at hq
  case h_2 => cases hq
  rename_i r0 _
  split at hq
  · rename_i gk hg
    split at hq
    · rename_i h0 l0 hpc
      split at hq
      · rename_i f1 hp
        simp only [Option.some.injEq, Prod.mk.injEq] at hq
        obtain ⟨rfl, rfl, rfl, rfl, rfl⟩ := hq
        have hgk := gdOf_sound hf hg
        obtain ⟨p1, p2⟩ := putG_sound hf hgk hp
        cases hw : Region.wanted o (yielded all a.tmps) with
        | false => exact .inr ⟨rfl, p2 hw⟩
        | true =>
          refine .inl ⟨rfl, fun K Q hK => ?_⟩
          unfold pcQ at hpc
          split at hpc
          · rename_i c hop
            split at hpc
            · rename_i x hcal
              split at hpc
              · rename_i v hv
                split at hpc
                · rename_i g' cs hfn
                  split at hpc
                  · rename_i l' hl
                    · simp only [Option.some.injEq, Prod.mk.injEq] at hpc
                      obtain ⟨rfl, rfl⟩ := hpc
                      have hρ : ∀ x s, evK f gk x = some s → s.den N = some (a.eval x) := fun x s hx => evK_sound hf hgk hw hx
                      have hargs0 := evL0_sound hρ _ hl
                      obtain ⟨cl, hcl, hcd⟩ := fnOf_sound (hρ _ _ hv) hfn
                      have hargs := SV.denL_append _ _ hargs0 hcd
                      have hexec : (execOp a.eval o).run E.P w = .ok (.enter g' (c.args.toList.map a.eval ++ cl).toArray) w := by
                        obtain ⟨callee, args, argTypes⟩ := c
                        simp only at hcal hl
                        subst hcal
                        simp only [execOp, hop, resolve, hcl, Deferred.ofValue, Sem.run_bind, Sem.run_pure, Result.andThen, invoke]
                        rw [(hob (hgk.t hw)).1]
                        congr 2
                        apply Array.ext'
                        simp
                      unfold Oper.wp
                      rw [hexec]
                      refine Calls.mono ((hob (hgk.t hw)).2 N w _ hN0 hS hargs) fun e w' ⟨v, he, hv, hc⟩ => ?_
                      subst he
                      exact hK v w' (p1 hw v hv) (hS.after0 hc)
                  · cases hpc
                · cases hpc
              · cases hpc
            · cases hpc
          · cases hpc
      · cases hq
    · cases hq
  · cases hq
def dryP (td : List (Nat × SV)) (T : Tab) (n : Nat) (all : Array Oper) : Sch → St → KW
  | [], _ => []
  | (i, _) :: r, s => match qP td T n all s.rg i s.fr with
    | some (f, _) => dryP td T n all r ⟨f, s.rg⟩
    | none => match opE T n all i s with
      | some s' => match stR s.fr all i with
        | some k => (i, [k]) :: dryP td T n all r s'
        | none => dryP td T n all r s'
      | none => match pcall td n all i s.fr with
        | some (f, _) => dryP td T n all r ⟨f, s.rg⟩
        | none => []
def anyP (td : List (Nat × SV)) (T : Tab) (n : Nat) (all : Array Oper) (K : KW) (rg : List Rg) : Sch → St → List Owe → Option (St × List Owe)
  | [], s, os => some (s, os)
  | (i, some blk) :: r, s, os => bif quietK K i then
      match qP td T n all (maskRg (flatK (memB blk) K) rg 0) i s.fr with
      | some (f, o) => anyP td T n all K rg r ⟨f, s.rg⟩ (o ++ os)
      | none => none
    else none
  | (i, none) :: r, s, os => match qP td T n all s.rg i s.fr with
    | some (f, o) => anyP td T n all K rg r ⟨f, s.rg⟩ (o ++ os)
    | none => match opE T n all i s with
      | some s' => bif (match stR s.fr all i with | some k => memN (lookK K i) k | none => true) then anyP td T n all K rg r s' os else none
      | none => match pcall td n all i s.fr with
        | some (f, gk, g, l, v) => anyP td T n all K rg r ⟨f, s.rg⟩ (.call s.rg gk g l v :: os)
        | none => none
theorem anyP_obs {td : List (Nat × SV)} {T : Tab} {n : Nat} {all : Array Oper} {K : KW} {rg : List Rg} : ∀ (sch : Sch) (s : St) (os : List Owe) {s' : St} {os' : List Owe}, anyP td T n all K rg sch s os = some (s', os') → ∀ q ∈ os, q ∈ os' := by
  intro sch
  induction sch with
  | nil => intro s os s' os' h q hq; simp only [anyP, Option.some.injEq, Prod.mk.injEq] at h; obtain ⟨rfl, rfl⟩ := h; exact hq
  | cons p r ih =>
    obtain ⟨i, b⟩ := p
    intro s os s' os' h q hq
    cases b with
    | some blk =>
      simp only [anyP] at h
      obtain ⟨_, h⟩ := bif_none h
      split at h
      · exact ih _ _ h q (List.mem_append_right _ hq)
      · cases h
    | none =>
      simp only [anyP] at h
      split at h
      · exact ih _ _ h q (List.mem_append_right _ hq)
      · split at h
        · obtain ⟨_, h⟩ := bif_none h
          exact ih _ _ h q hq
        · split at h
          · exact ih _ _ h q (List.mem_cons_of_mem _ hq)
          · cases h
theorem anyP_sound {E : Env} {T : Tab} (hT : TabOk E.P T) {td : List (Nat × SV)} {all : Array Oper} (hsel : Region.noSelect all = true) {Q : Exit → Act → World → Prop} (hQ : PanicOk Q) {N0 : Nums} {K : KW} {rg : List Rg} {s' : St} {os' : List Owe} (hos : ∀ q ∈ os', q.Ok E N0) {Nf : Nums} (wf : World) (hV : Vis Nf rg wf) : ∀ (sch : Sch) (listed : Array Bool) {s : St} {os : List Owe} {N : Nums} {a : Act} {w : World},
    schOk all sch listed = true → listed.size = all.size → anyP td T E.n all K rg sch s os = some (s', os') → Nf.le N → N0.le N → FrOk E.n N s.fr a → Sat E N s.rg w → Agree (wrL K listed) rg s.rg → rg.length ≤ s.rg.length →
    (∀ N' a' w', N.le N' → FrOk E.n N' s'.fr a' → Sat E N' s'.rg w' → Q .normal a' w') → wpF E.P all Q (fun L => VI E.im Nf (maskRg (wrL K L) rg 0)) sch.length listed a w := by
  have emp : ∀ {l : List Nat}, l.isEmpty = true → l = [] := by intro l h; cases l <;> simp at h ⊢
  have see : ∀ (L : Array Bool) {N : Nums} {rg' : List Rg} {w : World}, Nf.le N → Agree (wrL K L) rg rg' → Sat E N rg' w → VI E.im Nf (maskRg (wrL K L) rg 0) w := fun L _ _ _ hN ha hS => ⟨vis_of_agree (hV.mask _) hN ha hS, hS.imm⟩
  intro sch
  induction sch with
  | nil =>
    intro listed s os N a w hs hn hg hN hN0 hf hS ha hl hk
    simp only [anyP, Option.some.injEq, Prod.mk.injEq] at hg
    obtain ⟨rfl, rfl⟩ := hg
    exact wpF.done (emp hs) (hk N a w (Nums.le.refl N) hf hS)
  | cons p r ih =>
    obtain ⟨i, q⟩ := p
    intro listed s os N a w hs hn hg hN hN0 hf hS ha hl hk
    have hS0 := see listed hN ha hS
    cases q with
    | some blk =>
      simp only [schOk, Bool.and_eq_true] at hs
      obtain ⟨⟨⟨⟨hr, hfree⟩, hclosed⟩, hwithin⟩, hs⟩ := hs
      simp only [anyP] at hg
      obtain ⟨hqk, hg⟩ := bif_none hg
      have hqk := quietK_spec hqk
      have hrm : i ∈ Region.ready .any all listed := by simpa using hr
      have hi0 : listed.getD i false = false := by
        have h1 := (mem_ready.1 hrm).1
        rcases Nat.lt_or_ge i listed.size with h' | h'
        · simp [h'] at h1 ⊢; exact h1
        · rw [Array.getD_eq_getD_getElem?, Array.getElem?_eq_none h']; rfl
      have same : ∀ (L : Array Bool) (r : Nat), memN (wrL K (L.setIfInBounds i true)) r = true ↔ memN (wrL K L) r = true := fun L r => by
        simp only [wrL, memN_flat]
        constructor
        · rintro ⟨p, h1, h2, h3⟩
          exact ⟨p, h1, by rwa [getD_set_ne false (fun e => hqk p h1 e.symm)] at h2, h3⟩
        · rintro ⟨p, h1, h2, h3⟩
          exact ⟨p, h1, by rwa [getD_set_ne false (fun e => hqk p h1 e.symm)], h3⟩
      split at hg
      · rename_i f ob hq
        obtain ⟨_, o, ho, _⟩ := mem_ready.1 hrm
        -- whoever may have come up ahead of it is of blk
        have wide : ∀ {L' : Array Bool} {w' : World}, Up all i listed L' → VI E.im Nf (maskRg (wrL K L') rg 0) w' → VI E.im Nf (maskRg (flatK (memB blk) K) rg 0) w' := fun hup hv =>
          ⟨hv.1.more fun r hr => by
            obtain ⟨p, h1, h2, h3⟩ := memN_flat.1 hr
            exact memN_flat.2 ⟨p, h1, (hup.within hclosed hn hi0 hwithin).2.2 _ h2, h3⟩, hv.2⟩
        have hob : ∀ q ∈ ob, q.Ok E N0 := fun q hq => hos q (anyP_obs _ _ _ hg q (List.mem_append_left _ hq))
        obtain ⟨v, hv, hfr⟩ := qP_sound hT ho hq hob hN0 hf ((wide .here hS0).mono hN)
        refine wpF.take (S := fun L => VI E.im Nf (maskRg (wrL K L) rg 0)) ho hsel hfree hr (fun c a w h => hQ c a o.dst v w h) (fun L w => ⟨fun h => ⟨h.1.more fun r hr => (same L r).1 hr, h.2⟩, fun h => ⟨h.1.more fun r hr => (same L r).2 hr, h.2⟩⟩) ?_ hS0
          (ih _ hs (by simpa using hn) hg hN hN0 hfr hS (fun r g hg hm => ha r g hg (by
            cases hx : memN (wrL K listed) r with
            | true => rw [(same listed r).2 hx] at hm; cases hm
            | false => rfl)) hl hk)
        rcases hv with ⟨hw, hrun⟩ | ⟨hw, rfl⟩
        · exact .inl ⟨hw, fun w ⟨L', hup, hw⟩ => hrun w ((wide hup hw).mono hN)⟩
        · exact .inr ⟨hw, rfl⟩
      · cases hg
    | none =>
      simp only [schOk, Bool.and_eq_true] at hs
      obtain ⟨hr, hs⟩ := hs
      have hr := only_spec hr
      have hrm : i ∈ Region.ready .any all listed := by rw [hr]; simp
      have hlt : i < listed.size := by
        obtain ⟨_, o, ho, _⟩ := mem_ready.1 hrm
        rw [hn]; exact (Array.getElem?_eq_some_iff.1 ho).1
      have hset : (listed.setIfInBounds i true).getD i false = true := by simp [hlt]
      have grow : ∀ r, memN (wrL K listed) r = true → memN (wrL K (listed.setIfInBounds i true)) r = true := fun r h => by
        obtain ⟨p, h1, h2, h3⟩ := memN_flat.1 h
        refine memN_flat.2 ⟨p, h1, ?_, h3⟩
        by_cases e : i = p.1
        · rw [← e]; exact hset
        · rw [getD_set_ne false e]; exact h2
      have own : ∀ k, memN (lookK K i) k = true → memN (wrL K (listed.setIfInBounds i true)) k = true := fun k hk => by
        obtain ⟨p, h1, h2, h3⟩ := lookK_mem hk
        exact memN_flat.2 ⟨p, h1, by rw [h2]; exact hset, h3⟩
      have ha1 : Agree (wrL K (listed.setIfInBounds i true)) rg s.rg := ha.mono fun r hr => by
        cases hx : memN (wrL K listed) r with
        | true => rw [grow r hx] at hr; cases hr
        | false => rfl
      obtain ⟨_, o, ho, _⟩ := mem_ready.1 hrm
      simp only [anyP] at hg
      split at hg
      · rename_i f ob hq
        have hob : ∀ q ∈ ob, q.Ok E N0 := fun q hq => hos q (anyP_obs _ _ _ hg q (List.mem_append_left _ hq))
        obtain ⟨v, hv, hfr⟩ := qP_sound hT ho hq hob hN0 hf hS.vi
        refine wpF.all hr (by simp) fun j hj => ?_
        simp only [List.mem_singleton] at hj; subst hj
        unfold wpOp
        simp only [ho]
        have hnext := ih _ hs (by simpa using hn) hg hN hN0 hfr hS ha1 hl hk
        rcases hv with ⟨hw, hrun⟩ | ⟨hw, rfl⟩
        · rw [hw, if_pos rfl]
          exact .inl (wp_of_yields (.inl (hrun w hS.vi)) ⟨see _ hN ha1 hS, hnext⟩)
        · rw [hw]
          exact ⟨see _ hN ha1 hS, hnext⟩
      · split at hg
        · rename_i s1 he
          obtain ⟨hmk, hg2⟩ := bif_none hg
          obtain ⟨hw, N', x, w', hN', hy, hf', hS'⟩ := opE_sound hT (by simpa using ho) he hf hS
          have ha2 := stepE_agree (ks := wrL K (listed.setIfInBounds i true)) ha1 hl (by
            split
            · rename_i k hk'
              rw [hk'] at hmk
              exact own k hmk
            · rfl) he
          refine wpF.all hr (by simp) fun j hj => ?_
          simp only [List.mem_singleton] at hj; subst hj
          unfold wpOp
          simp only [ho]
          rw [hw, if_pos rfl]
          exact .inl (wp_of_yields hy ⟨see _ (hN.trans hN') ha2.1 hS', ih _ hs (by simpa using hn) hg2 (hN.trans hN') (hN0.trans hN') hf' hS' ha2.1 ha2.2 (fun N2 a2 w2 h1 h2 h3 => hk N2 a2 w2 (hN'.trans h1) h2 h3)⟩)
        · split at hg
          · rename_i f gk g l v hpc
            have hob : CallOk E N0 s.rg gk g l v := hos _ (anyP_obs _ _ _ hg _ List.mem_cons_self)
            refine wpF.all hr (by simp) fun j hj => ?_
            simp only [List.mem_singleton] at hj; subst hj
            unfold wpOp
            simp only [ho]
            rcases pcall_sound ho hpc hob hN0 hf hS with ⟨hw, hx⟩ | ⟨hw, hf'⟩
            · rw [hw, if_pos rfl]
              exact .inl (hx _ _ fun x w' hf' hS' => ⟨see _ hN ha1 hS', ih _ hs (by simpa using hn) hg hN hN0 hf' hS' ha1 hl hk⟩)
            · rw [hw]
              exact ⟨see _ hN ha1 hS, ih _ hs (by simpa using hn) hg hN hN0 hf' hS ha1 hl hk⟩
          · cases hg
def runP (td : List (Nat × SV)) : Nat → Tab → SchT → Nat → List ResultVar → List It → St → List Owe → List It × St × List Owe
  | 0, _, _, _, _, t, s, os => (t, s, os)
  | m + 1, T, B, n, rs, t, s, os =>
    match t with
    | .ops all (i :: rest) :: k => match qP td T n all s.rg i s.fr with
      | some (f, o) => runP td m T B n rs (.ops all rest :: k) ⟨f, s.rg⟩ (o ++ os)
      | none => match opE T n all i s with
        | some s' => runP td m T B n rs (.ops all rest :: k) s' os
        | none => match pcall td n all i s.fr with
          | some (f, gk, g, l, v) => runP td m T B n rs (.ops all rest :: k) ⟨f, s.rg⟩ (.call s.rg gk g l v :: os)
          | none => (t, s, os)
    | _ => match adv T n rs t s with
      | some (t', s') => runP td m T B n rs t' s' os
      | none => match t with
        | .code c :: k => match c with
          | .region id ops d => match d with
            | true => match lookS B id with
              | some sch => match anyP td T n ops (dryP td T n ops sch s) s.rg sch s os with
                | some (s', os') => runP td m T B n rs k s' os'
                | none => (t, s, os)
              | none => (t, s, os)
            | false => (t, s, os)
          | _ => (t, s, os)
        | _ => (t, s, os)
theorem runP_sound {td : List (Nat × SV)} : ∀ (m : Nat) (T : Tab) (B : SchT) (n : Nat) (rs : List ResultVar) (t : List It) (s : St) (os : List Owe) (t' : List It) (s' : St) (os' : List Owe), runP td m T B n rs t s os = (t', s', os') →
    (∀ q ∈ os, q ∈ os') ∧ ∀ (E : Ctx), E.n = n → E.B = B → TabOk E.P T → PanicOk E.Q → (∀ q ∈ os', q.Ok E.toEnv E.N0) → X E t' s' → X E t s := by
  intro m
  induction m with
  | zero =>
    intro T B n rs t s os t' s' os' h
    simp only [runP, Prod.mk.injEq] at h
    obtain ⟨rfl, rfl, rfl⟩ := h
    exact ⟨fun _ h => h, fun E _ _ _ _ _ h => h⟩
  | succ m ih =>
    intro T B n rs t s os t' s' os' h
    have same : (t, s, os) = (t', s', os') → (∀ q ∈ os, q ∈ os') ∧ ∀ (E : Ctx), E.n = n → E.B = B → TabOk E.P T → PanicOk E.Q → (∀ q ∈ os', q.Ok E.toEnv E.N0) → X E t' s' → X E t s := by
      intro h
      simp only [Prod.mk.injEq] at h
      obtain ⟨rfl, rfl, rfl⟩ := h
      exact ⟨fun _ h => h, fun E _ _ _ _ _ h => h⟩
    simp only [runP] at h
    split at h
    · rename_i all i rest k
      split at h
      · rename_i f o hq
        obtain ⟨h1, h2⟩ := ih _ _ _ _ _ _ _ _ _ _ h
        refine ⟨fun q hq' => h1 q (List.mem_append_right _ hq'), fun E e1 e2 e3 e4 e5 e6 => ?_⟩
        have hx := h2 E e1 e2 e3 e4 e5 e6
        subst e1
        intro N a w hN hf hS
        show wpOps _ _ _ _ _ _
        obtain ⟨op, hop⟩ : ∃ op, all[i]? = some op := by
          unfold qP at hq
          split at hq
          · cases hq
          · rename_i op hop; rw [nth_eq] at hop; exact ⟨op, by simpa using hop⟩
        obtain ⟨v, hv, hfr⟩ := qP_sound e3 hop hq (fun q hq' => e5 q (h1 q (List.mem_append_left _ hq'))) hN hf hS.vi
        rw [wpOps_cons]
        unfold wpOp
        simp only [hop]
        rcases hv with ⟨hw, hrun⟩ | ⟨hw, rfl⟩
        · rw [hw, if_pos rfl]
          exact .inl (wp_of_yields (.inl (hrun w hS.vi)) (hx N _ w hN hfr hS))
        · rw [hw]
          exact hx N _ w hN hfr hS
      · split at h
        · rename_i s1 he
          obtain ⟨h1, h2⟩ := ih _ _ _ _ _ _ _ _ _ _ h
          refine ⟨h1, fun E e1 e2 e3 e4 e5 e6 => ?_⟩
          have hx := h2 E e1 e2 e3 e4 e5 e6
          subst e1
          exact X.opEq e3 ⟨he⟩ hx
        · split at h
          · rename_i f gk g l v hpc
            obtain ⟨h1, h2⟩ := ih _ _ _ _ _ _ _ _ _ _ h
            refine ⟨fun q hq' => h1 q (List.mem_cons_of_mem _ hq'), fun E e1 e2 e3 e4 e5 e6 => ?_⟩
            have hx := h2 E e1 e2 e3 e4 e5 e6
            subst e1
            intro N a w hN hf hS
            show wpOps _ _ _ _ _ _
            obtain ⟨op, hop⟩ : ∃ op, all[i]? = some op := by
              unfold pcall at hpc
              split at hpc
              · cases hpc
              · rename_i op hop; rw [nth_eq] at hop; exact ⟨op, by simpa using hop⟩
            rw [wpOps_cons]
            unfold wpOp
            simp only [hop]
            rcases pcall_sound hop hpc (e5 _ (h1 _ List.mem_cons_self)) hN hf hS with ⟨hw, hy⟩ | ⟨hw, hf'⟩
            · rw [hw, if_pos rfl]
              exact .inl (hy _ _ fun x w' hf' hS' => hx N _ w' hN hf' hS')
            · rw [hw]
              exact hx N _ w hN hf' hS
          · exact same h
    · split at h
      · rename_i t1 s1 ha
        obtain ⟨h1, h2⟩ := ih _ _ _ _ _ _ _ _ _ _ h
        refine ⟨h1, fun E e1 e2 e3 e4 e5 e6 => ?_⟩
        subst e1
        exact adv_sound e3 ha (h2 E rfl e2 e3 e4 e5 e6)
      · split at h
        · rename_i c k _
          split at h
          · rename_i id ops d _
            split at h
            · split at h
              · rename_i sch hsch
                split at h
                · rename_i s1 os1 hd
                  obtain ⟨h1, h2⟩ := ih _ _ _ _ _ _ _ _ _ _ h
                  refine ⟨fun q hq' => h1 q (anyP_obs _ _ _ hd q hq'), fun E e1 e2 e3 e4 e5 e6 => ?_⟩
                  have hx := h2 E e1 e2 e3 e4 e5 e6
                  subst e1; subst e2
                  intro N a w hN hf hS
                  show _ → Code.wp _ _ _ _ _
                  intro hreg
                  simp only [regsB, hsch] at hreg
                  have hS' : Sat E.toEnv N s.rg { w with drawn := w.drawn + 1 } := hS.drew
                  simp only [anyOk, Bool.and_eq_true] at hreg
                  obtain ⟨⟨hn, hlen⟩, hsch'⟩ := hreg
                  have hlen := Nat.eq_of_beq_eq_true hlen
                  have := anyP_sound e3 hn (e4.sem _) (fun q hq' => e5 q (h1 q hq')) _ hS'.vis sch _ hsch' (by simp) hd (Nums.le.refl N) hN hf hS' (fun r g hg _ => hg) (Nat.le_refl _) (fun N' a' w' hN' hf' hS' => hx N' a' w' (hN.trans hN') hf' hS')
                  rw [hlen] at this
                  exact wp_region_any e3.mixed this.any
                · exact same h
              · exact same h
            · exact same h
          · exact same h
        · exact same h
def XO.conj (pr : Owe → Prop) (fin : List It → St → Prop) (p : List It × St × List Owe) : List Owe → Prop
  | [] => fin p.1 p.2.1
  | q :: r => pr q ∧ XO.conj pr fin p r
def XO (pr : Owe → Prop) (fin : List It → St → Prop) (p : List It × St × List Owe) : Prop := XO.conj pr fin p p.2.2
theorem XO.split {pr : Owe → Prop} {fin : List It → St → Prop} {p : List It × St × List Owe} : ∀ {os : List Owe}, XO.conj pr fin p os → (∀ q ∈ os, pr q) ∧ fin p.1 p.2.1
  | [], h => ⟨fun _ h => by simp at h, h⟩
  | q :: r, h => by
    obtain ⟨h1, h2⟩ := XO.split (os := r) h.2
    exact ⟨fun q' hq => by
      rcases List.mem_cons.1 hq with e | e
      · rw [e]; exact h.1
      · exact h1 q' e, h2⟩
theorem X.goP {P : Program} {fn : Func} {R : Ending → World → Prop} {W : World} {O : Nat → Nat → Prop} {im : Nat → Nat → Option Value} {D : Nat → Nat → Prop} {Rr : World → Prop} {N : Nums} {B : SchT} {T : Tab} (td : List (Nat × SV)) (hT : TabOk P T) (m n : Nat) (hn : fn.ntmps = n) {t : List It} {s : St} {rs : Array ResultVar} (_hrs : fn.results = rs)
    (h : ∀ (pr : Owe → Prop) (fin : List It → St → Prop), (∀ q, q.Ok (mkE P fn R W O im D Rr N B).toEnv N → pr q) → (∀ t s, X (mkE P fn R W O im D Rr N B) t s → fin t s) → XO pr fin (runP td m T B n rs.toList t s [])) : X (mkE P fn R W O im D Rr N B) t s := by
  subst hn
  have := h (fun q => q.Ok (mkE P fn R W O im D Rr N B).toEnv N) (fun t s => X (mkE P fn R W O im D Rr N B) t s) (fun _ h => h) (fun _ _ h => h)
  obtain ⟨h1, h2⟩ := XO.split this
  obtain ⟨⟨t', s', os'⟩, hr⟩ : ∃ p, runP td m T B fn.ntmps rs.toList t s [] = p := ⟨_, rfl⟩
  rw [hr] at h1 h2
  exact (runP_sound m T B _ _ _ _ _ _ _ _ hr).2 (mkE P fn R W O im D Rr N B) rfl rfl hT (fun _ _ d _ _ h => by cases d <;> exact h) h1 h2
theorem CallOk.of {E : Env} {N0 : Nums} {rg : List Rg} {k : GK} {g : Nat} {l : List SV} {r : SV} (hc : ∀ args w, (callFunc g args).run E.P w = .ok (.enter g args) w) (vs : List Value) (v : Value) (hl : ∀ N, SV.denL N l = some vs) (hr : ∀ N, r.den N = some v)
    (h : k.T → ∀ w, (∀ k o v, E.im k o = some v → w.cell? ⟨k, o, none⟩ = some v) → Calls E.P g vs.toArray w fun e w' => e = .returned v ∧ Chg (fun _ _ => False) w w') : CallOk E N0 rg k g l r := fun hk =>
  ⟨hc, fun N w args _ hS ha => by
    rw [hl N] at ha
    cases ha
    exact (h hk w hS.imm).mono fun e w' ⟨h1, h2⟩ => ⟨v, h1, hr N, h2⟩⟩
theorem ValOk.row {E : Env} {N0 : Nums} {rg : List Rg} {f : Fr} {g : GK} {t e : TypeId} {x ix : Operand} {p : Option Addr} {n c z q b y r : Nat} {kd : IntKind} {s : SI} {np : Num} (hx : evK f g x = some (.slv p n c)) (hix : evK f g ix = some (.int kd s)) (hz : g.T → s.den = (z : Int)) (hu : E.P.underlying t = some (.slice e)) (hq : ∀ w, (sizeOf e).run E.P w = .ok q w) (hlt : z < n)
    (hp : p = some ⟨b, y, none⟩) (hN : N0[r]? = some np) (hb : np.b = b) (ho : np.o = y + z * q) : ValOk E N0 rg f g (.indexAddr t x ix) (.own r 0) := by
  intro ht N ρ o w hN0 hop hρ hV
  have h1 := hρ _ _ hx
  have h2 := hρ _ _ hix
  simp only [SV.den, hz ht, Option.some.injEq] at h1 h2
  have hr := hN0 r np hN
  subst hb
  refine ⟨.pointer (some ⟨np.b, np.o + 0, none⟩), by simp only [SV.den, hr], fun w' _ => ?_⟩
  simp only [execOp, hop, ← h1, ← h2, Sem.run_bind, Result.andThen, Sem.run_pure]
  subst hp
  simp [Instr.indexAt, asIntOf, run_underlying hu, Result.andThen, hlt, hq, addr_add, ho]
end Go.Eng
namespace Go.Eng
open Go
inductive Dt where
  | int (k : IntKind) (z : Int)
  | bool (b : Bool)
  | str (s : ByteArray)
  | list (rows : List (List Dt))
mutual
def RepC (M : Mem) : Dt → Value → Prop
  | .int k z, v => v = .int k z
  | .bool b, v => v = .bool b
  | .str s, v => v = .string s
  | .list rows, v => ∃ p c, v = .slice p rows.length c ∧ (rows.length ≤ c ∧ rows.length ≤ maxLen) ∧ (rows = [] ∨ ∃ b y, p = some ⟨b, y, none⟩ ∧ RepR M b y rows)
def RepL (M : Mem) : List Dt → List Value → Prop
  | [], vs => vs = []
  | d :: ds, vs => ∃ v r, vs = v :: r ∧ RepC M d v ∧ RepL M ds r
def RepR (M : Mem) (b : Nat) (y : Nat) : List (List Dt) → Prop
  | [] => True
  | d :: rows => (∃ vs, RepL M d vs ∧ ∀ (j : Nat) (v : Value), vs[j]? = some v → M b (y + j) = some v) ∧ RepR M b (y + d.length) rows
end
mutual
theorem RepC.mono {M M' : Mem} (h : ∀ k o v, M k o = some v → M' k o = some v) : ∀ (d : Dt) {v : Value}, RepC M d v → RepC M' d v
  | .int k z, v, hd => by simpa [RepC] using hd
  | .bool b, v, hd => by simpa [RepC] using hd
  | .str s, v, hd => by simpa [RepC] using hd
  | .list rows, v, hd => by
    simp only [RepC] at hd ⊢
    obtain ⟨p, c, h1, h2, h3⟩ := hd
    exact ⟨p, c, h1, h2, h3.imp id fun ⟨b, y, h4, h5⟩ => ⟨b, y, h4, RepR.mono h rows h5⟩⟩
theorem RepL.mono {M M' : Mem} (h : ∀ k o v, M k o = some v → M' k o = some v) : ∀ (ds : List Dt) {vs : List Value}, RepL M ds vs → RepL M' ds vs
  | [], vs, hd => by simpa [RepL] using hd
  | d :: ds, vs, hd => by
    simp only [RepL] at hd ⊢
    obtain ⟨v, r, h1, h2, h3⟩ := hd
    exact ⟨v, r, h1, RepC.mono h d h2, RepL.mono h ds h3⟩
theorem RepR.mono {M M' : Mem} (h : ∀ k o v, M k o = some v → M' k o = some v) {b : Nat} : ∀ (rows : List (List Dt)) {y : Nat}, RepR M b y rows → RepR M' b y rows
  | [], y, _ => by simp [RepR]
  | d :: rows, y, hd => by
    simp only [RepR] at hd ⊢
    obtain ⟨⟨vs, h1, h2⟩, h3⟩ := hd
    exact ⟨⟨vs, RepL.mono h d h1, fun j v hj => h _ _ _ (h2 j v hj)⟩, RepR.mono h rows h3⟩
end
theorem RepL.len {M : Mem} : ∀ {ds : List Dt} {vs : List Value}, RepL M ds vs → vs.length = ds.length
  | [], vs, h => by simp only [RepL] at h; rw [h]; rfl
  | d :: ds, vs, h => by
    simp only [RepL] at h
    obtain ⟨v, r, rfl, _, h3⟩ := h
    simp [RepL.len h3]
theorem RepL.append {M : Mem} : ∀ {ds es : List Dt} {vs us : List Value}, RepL M ds vs → RepL M es us → RepL M (ds ++ es) (vs ++ us)
  | [], es, vs, us, h, k => by simp only [RepL] at h; subst h; exact k
  | d :: ds, es, vs, us, h, k => by
    simp only [RepL] at h
    obtain ⟨v, r, rfl, h2, h3⟩ := h
    simp only [List.cons_append, RepL]
    exact ⟨v, r ++ us, rfl, h2, RepL.append h3 k⟩
theorem RepL.split {M : Mem} : ∀ {ds es : List Dt} {vs : List Value}, RepL M (ds ++ es) vs → ∃ us ws, vs = us ++ ws ∧ RepL M ds us ∧ RepL M es ws
  | [], es, vs, h => ⟨[], vs, rfl, by simp [RepL], h⟩
  | d :: ds, es, vs, h => by
    simp only [List.cons_append, RepL] at h
    obtain ⟨v, r, rfl, h2, h3⟩ := h
    obtain ⟨us, ws, rfl, h4, h5⟩ := RepL.split h3
    exact ⟨v :: us, ws, rfl, by simp only [RepL]; exact ⟨v, us, rfl, h2, h4⟩, h5⟩
theorem RepR.get {M : Mem} {b q : Nat} : ∀ {rows : List (List Dt)} {y : Nat}, RepR M b y rows → (∀ d ∈ rows, d.length = q) → ∀ {i : Nat} {d : List Dt}, rows[i]? = some d → ∃ vs, RepL M d vs ∧ ∀ (j : Nat) (v : Value), vs[j]? = some v → M b (y + i * q + j) = some v
  | [], _, _, _, i, d, hi => by simp at hi
  | r :: rows, y, h, hq, i, d, hi => by
    simp only [RepR] at h
    obtain ⟨⟨vs, h1, h2⟩, h3⟩ := h
    cases i with
    | zero =>
      simp only [List.getElem?_cons_zero, Option.some.injEq] at hi; subst hi
      exact ⟨vs, h1, fun j v hj => by rw [Nat.zero_mul, Nat.add_zero]; exact h2 j v hj⟩
    | succ i =>
      simp only [List.getElem?_cons_succ] at hi
      obtain ⟨us, h4, h5⟩ := RepR.get h3 (fun d hd => hq d (List.mem_cons_of_mem _ hd)) hi
      refine ⟨us, h4, fun j v hj => ?_⟩
      have := h5 j v hj
      rw [hq r List.mem_cons_self] at this
      rw [show y + (i + 1) * q + j = y + q + i * q + j by rw [Nat.add_mul]; omega]
      exact this
theorem RepR.of {M : Mem} {b q : Nat} : ∀ {rows : List (List Dt)} {y : Nat}, (∀ d ∈ rows, d.length = q) → (∀ (i : Nat) (d : List Dt), rows[i]? = some d → ∃ vs, RepL M d vs ∧ ∀ (j : Nat) (v : Value), vs[j]? = some v → M b (y + i * q + j) = some v) → RepR M b y rows
  | [], _, _, _ => by simp [RepR]
  | r :: rows, y, hq, h => by
    simp only [RepR]
    obtain ⟨vs, h1, h2⟩ := h 0 r rfl
    refine ⟨⟨vs, h1, fun j v hj => by have := h2 j v hj; rwa [Nat.zero_mul, Nat.add_zero] at this⟩, RepR.of (fun d hd => hq d (List.mem_cons_of_mem _ hd)) fun i d hi => ?_⟩
    obtain ⟨us, h3, h4⟩ := h (i + 1) d (by simpa using hi)
    refine ⟨us, h3, fun j v hj => ?_⟩
    have := h4 j v hj
    rw [hq r List.mem_cons_self]
    rw [show y + (i + 1) * q + j = y + q + i * q + j by rw [Nat.add_mul]; omega] at this
    exact this
def wm (w : World) : Mem := fun k o => w.cell? ⟨k, o, none⟩
def SlR (M : Mem) (p : Option Addr) (c q : Nat) (rows : List (List Dt)) : Prop := (rows.length ≤ c ∧ rows.length ≤ maxLen) ∧ (rows = [] ∨ ∃ b y, p = some ⟨b, y, none⟩ ∧ ∀ (i : Nat) (d : List Dt), rows[i]? = some d → ∃ vs, RepL M d vs ∧ ∀ (j : Nat) (v : Value), vs[j]? = some v → M b (y + i * q + j) = some v)
theorem RepC.list {M : Mem} {rows : List (List Dt)} {v : Value} (h : RepC M (.list rows) v) {q : Nat} (hq : ∀ d ∈ rows, d.length = q) : ∃ p c, v = .slice p rows.length c ∧ SlR M p c q rows := by
  simp only [RepC] at h
  obtain ⟨p, c, h1, h2, h3⟩ := h
  exact ⟨p, c, h1, h2, h3.imp id fun ⟨b, y, h4, h5⟩ => ⟨b, y, h4, fun i d hi => RepR.get h5 hq hi⟩⟩
theorem RepC.mk {M : Mem} {rows : List (List Dt)} {p : Option Addr} {n c q : Nat} (hn : n = rows.length) (hq : ∀ d ∈ rows, d.length = q) (h : SlR M p c q rows) : RepC M (.list rows) (.slice p n c) := by
  simp only [RepC]
  exact ⟨p, c, by rw [hn], h.1, h.2.imp id fun ⟨b, y, h4, h5⟩ => ⟨b, y, h4, RepR.of hq h5⟩⟩
theorem SlR.mono {M M' : Mem} (h : ∀ k o v, M k o = some v → M' k o = some v) {p : Option Addr} {c q : Nat} {rows : List (List Dt)} (hs : SlR M p c q rows) : SlR M' p c q rows :=
  ⟨hs.1, hs.2.imp id fun ⟨b, y, h4, h5⟩ => ⟨b, y, h4, fun i d hi => by
    obtain ⟨vs, h6, h7⟩ := h5 i d hi
    exact ⟨vs, RepL.mono h d h6, fun j v hj => h _ _ _ (h7 j v hj)⟩⟩⟩
theorem SlR.row {M : Mem} {p : Option Addr} {c q : Nat} {rows : List (List Dt)} (hs : SlR M p c q rows) {i : Nat} {d : List Dt} (hi : rows[i]? = some d) : ∃ b y vs, p = some ⟨b, y, none⟩ ∧ RepL M d vs ∧ ∀ (j : Nat) (v : Value), vs[j]? = some v → M b (y + i * q + j) = some v := by
  rcases hs.2 with rfl | ⟨b, y, h4, h5⟩
  · simp at hi
  · obtain ⟨vs, h6, h7⟩ := h5 i d hi
    exact ⟨b, y, vs, h4, h6, h7⟩
theorem SlR.len {α : Type} {f : α → List Dt} {l : List α} {M : Mem} {p : Option Addr} {c q : Nat} (hs : SlR M p c q (l.map f)) : l.length ≤ maxLen := by
  have := hs.1.2; rwa [List.length_map] at this
theorem maxLen_le : maxLen = 9223372036854775807 := by decide
theorem SlR.elem {M : Mem} {α : Type} {f : α → List Dt} {l : List α} {p : Option Addr} {c q : Nat} (hs : SlR M p c q (l.map f)) {i : Nat} {x : α} (hi : l[i]? = some x) : ∃ b y vs, p = some ⟨b, y, none⟩ ∧ RepL M (f x) vs ∧ ∀ (j : Nat) (v : Value), vs[j]? = some v → M b (y + i * q + j) = some v :=
  hs.row (by rw [List.getElem?_map, hi]; rfl)
theorem his {w : World} {k o : Nat} {v : Value} (h : wm w k o = some v) : elsewhere [] [] w k o = some v := by rw [elsewhere_not inR_nil]; exact h
theorem SlR.his {α : Type} {f : α → List Dt} {l : List α} {w : World} {p : Option Addr} {c q : Nat} (hs : SlR (wm w) p c q (l.map f)) {i : Nat} {x : α} (hi : l[i]? = some x) : ∃ b y vs, p = some ⟨b, y, none⟩ ∧ RepL (wm w) (f x) vs ∧ ∀ (j : Nat) (v : Value), vs[j]? = some v → elsewhere [] [] w b (y + i * q + j) = some v := by
  obtain ⟨b, y, vs, h1, h2, h3⟩ := hs.elem hi
  exact ⟨b, y, vs, h1, h2, fun j v hj => Eng.his (h3 j v hj)⟩
theorem wrapU (i : Nat) (h : i < 9223372036854775807) : IntKind.i64.wrap ((i : Int) + 1) = ((i + 1 : Nat) : Int) := by
  simp [IntKind.wrap, IntKind.bits, IntKind.signed]; omega
theorem wrapN (z : Int) (h : -9223372036854775808 ≤ z) (h2 : z < 9223372036854775808) : IntKind.i64.wrap z = z := by
  simp [IntKind.wrap, IntKind.bits, IntKind.signed]; omega
theorem wrapD (i : Nat) (h : 1 ≤ i) (h2 : i < 9223372036854775807) : IntKind.i64.wrap ((i : Int) - 1) = ((i - 1 : Nat) : Int) := by
  simp [IntKind.wrap, IntKind.bits, IntKind.signed]; omega
theorem num_last {N : Nums} {p : Num} {n : Nat} (h : N.length = n) : (N ++ [p])[n]? = some p := by subst h; simp
theorem num_old {N : Nums} {p q : Num} {i : Nat} (h : N[i]? = some q) : (N ++ [p])[i]? = some q := by
  rw [List.getElem?_append_left (List.getElem?_eq_some_iff.1 h).1]; exact h
theorem one_see {im : Mem} {b o : Nat} {v : Value} {s : SV} (h : im b (o + 0) = some v) (hs : s.den [] = some v := by rfl) : ∀ (j : Nat) (c : SV), [s][j]? = some c → ∃ v, c.den [] = some v ∧ im b (o + j) = some v := fun j c hj => by
  match j, hj with
  | 0, hj => simp only [List.getElem?_cons_zero, Option.some.injEq] at hj; subst hj; exact ⟨v, hs, h⟩
  | j + 1, hj => simp at hj
theorem see_of {im : Mem} {b o : Nat} {vs : List Value} {ss : List SV} (h : ∀ (j : Nat) (v : Value), vs[j]? = some v → im b (o + j) = some v) (hs : SV.denL [] ss = some vs) : ∀ (j : Nat) (c : SV), ss[j]? = some c → ∃ v, c.den [] = some v ∧ im b (o + j) = some v := fun j c hj => by
  obtain ⟨v, h1, h2⟩ := (SV.denL_get ss hs).2 j c hj
  exact ⟨v, h1, h j v h2⟩
noncomputable def B (p : Prop) : Bool := @decide p (Classical.propDecidable p)
theorem At.again {P : Program} {fn : Func} {R : Ending → World → Prop} {W : World} {O : Nat → Nat → Prop} {im : Mem} {D : Nat → Nat → Prop} {Rr : World → Prop} {N0 N : Nums} {B : SchT} {s s' : St} {a : Act} {w : World}
    (hf : FrOk fn.ntmps N s.fr a) (hS : Sat (mkE P fn R W O im D Rr N0 B).toEnv N s.rg w) (h1 : SubFr N (N.take s'.rg.length) s'.rg.length s.fr s'.fr) (h2 : SubRg N (N.take s'.rg.length) s'.rg.length s.rg s'.rg) :
    At (mkE P fn R W O im D Rr [] B) s' a w := by
  have hS' : Sat (mkE P fn R W O im D Rr [] B).toEnv N s.rg w := hS.env rfl rfl rfl rfl rfl
  exact At.mk (N0 := []) (nil_le N) hf hS' (Nat.zero_le _) h1 h2 (fun _ _ _ h => h) hS'.loc hS'.res
mutual
def FitC (P : Program) : Nat → CK → Dt → Prop
  | _, .int k, d => ∃ z, d = .int k z ∧ (Lit.int k z).wf = true
  | _, .bool, d => ∃ b, d = .bool b
  | _, .str, d => ∃ s, d = .str s ∧ s.size ≤ maxLen
  | 0, .slice _, _ => False
  | m + 1, .slice e, d => ∃ rows, d = .list rows ∧ rows.length ≤ maxLen ∧ ∀ r ∈ rows, ∃ ks, kindsOf P 8 e = some ks ∧ FitL P m ks r
  | _, .ptr _, _ => False
def FitL (P : Program) : Nat → List CK → List Dt → Prop
  | _, [], ds => ds = []
  | m, k :: ks, ds => ∃ d r, ds = d :: r ∧ FitC P m k d ∧ FitL P m ks r
end
def deepC (P : Program) : Nat → CK → Bool
  | 0, .slice _ => false
  | m + 1, .slice e => bif Nat.beq (P.cellsOf e) 0 then false else match kindsOf P 8 e with
    | some ks => Nat.beq (P.cellsOf e) ks.length && ks.all (deepC P m)
    | none => false
  | _, .ptr _ => false
  | _, _ => true
theorem FitL.len {P : Program} {m : Nat} : ∀ {ks : List CK} {ds : List Dt}, FitL P m ks ds → ds.length = ks.length
  | [], ds, h => by simp only [FitL] at h; rw [h]; rfl
  | k :: ks, ds, h => by
    simp only [FitL] at h
    obtain ⟨d, r, rfl, _, h3⟩ := h
    simp [FitL.len h3]
theorem fitL_of {P : Program} {w : World} {m : Nat} (ih : ∀ (k : CK) (v : Value), deepC P m k = true → CellOk P w 0 k v → ∃ d, FitC P m k d ∧ RepC (wm w) d v) :
    ∀ (ks : List CK) (cs : List Value), ks.all (deepC P m) = true → CellsOk P w 0 ks cs → ∃ ds, FitL P m ks ds ∧ RepL (wm w) ds cs
  | [], cs, _, h => ⟨[], by simp [FitL], by have := CellsOk.nil h; subst this; simp [RepL]⟩
  | k :: ks, cs, hd, h => by
    simp only [List.all_cons, Bool.and_eq_true] at hd
    obtain ⟨v, vs, rfl, h1, h2⟩ := CellsOk.cons h
    obtain ⟨d, k1, k2⟩ := ih k v hd.1 h1
    obtain ⟨ds, k3, k4⟩ := fitL_of ih ks vs hd.2 h2
    exact ⟨d :: ds, by simp only [FitL]; exact ⟨d, ds, rfl, k1, k3⟩, by simp only [RepL]; exact ⟨v, vs, rfl, k2, k4⟩⟩
theorem pick_list {α : Type} {n : Nat} {p : Nat → α → Prop} (h : ∀ i, i < n → ∃ x, p i x) : ∃ l : List α, l.length = n ∧ ∀ i x, l[i]? = some x → p i x := by
  induction n with
  | zero => exact ⟨[], rfl, fun i x h => by simp at h⟩
  | succ n ih =>
    obtain ⟨l, h1, h2⟩ := ih fun i hi => h i (by omega)
    obtain ⟨x, hx⟩ := h n (by omega)
    refine ⟨l ++ [x], by simp [h1], fun i y hy => ?_⟩
    by_cases hi : i < n
    · rw [List.getElem?_append_left (by omega)] at hy; exact h2 i y hy
    · rw [List.getElem?_append_right (by omega)] at hy
      have : i - l.length = 0 := by
        have := (List.getElem?_eq_some_iff.1 hy).1
        simp at this; omega
      rw [this] at hy
      simp only [List.getElem?_cons_zero, Option.some.injEq] at hy; subst hy
      have : i = n := by omega
      subst this; exact hx
theorem fit_of {P : Program} {w : World} : ∀ (m : Nat) (k : CK) (v : Value), deepC P m k = true → CellOk P w 0 k v → ∃ d, FitC P m k d ∧ RepC (wm w) d v
  | m, .int k, v, _, h => by
    obtain ⟨z, rfl, hz⟩ := h
    exact ⟨.int k z, by unfold FitC; exact ⟨z, rfl, hz⟩, by simp [RepC]⟩
  | m, .bool, v, _, h => by
    obtain ⟨b, rfl⟩ := h
    exact ⟨.bool b, by unfold FitC; exact ⟨b, rfl⟩, by simp [RepC]⟩
  | m, .str, v, _, h => by
    obtain ⟨s, rfl, hs⟩ := h
    exact ⟨.str s, by unfold FitC; exact ⟨s, rfl, hs⟩, by simp [RepC]⟩
  | m, .ptr e, v, hd, _ => by cases m <;> simp [deepC] at hd
  | 0, .slice e, v, hd, _ => by simp [deepC] at hd
  | m + 1, .slice e, v, hd, h => by
    obtain ⟨p, n, c, rfl, hnc, hcm, hr⟩ := h
    simp only [deepC] at hd
    cases h0 : Nat.beq (P.cellsOf e) 0 with
    | true => rw [h0] at hd; simp at hd
    | false =>
      rw [h0] at hd
      simp only [cond_false] at hd
      have hpos : 0 < P.cellsOf e := by
        rcases Nat.eq_zero_or_pos (P.cellsOf e) with h | h
        · rw [h] at h0; cases h0
        · exact h
      split at hd
      · rename_i ks hks
        simp only [Bool.and_eq_true] at hd
        have hq := Nat.eq_of_beq_eq_true hd.1
        have rows := pick_list (n := n) (p := fun i (d : List Dt) => FitL P m ks d ∧ ∃ b x vs, p = some ⟨b, x, none⟩ ∧ RepL (wm w) d vs ∧ ∀ (j : Nat) (v : Value), vs[j]? = some v → wm w b (x + i * P.cellsOf e + j) = some v) fun i hi => by
          obtain ⟨b, x, hp, hx⟩ := hr hpos (by omega)
          obtain ⟨_, cs, hl, hc, hrd⟩ := hx i hi
          obtain ⟨ds, k1, k2⟩ := fitL_of (fit_of m) ks cs hd.2 (kindsOf_sound 8 e ks cs hks hrd)
          exact ⟨ds, k1, b, x, cs, hp, k2, hc⟩
        obtain ⟨rows, hl, hrow⟩ := rows
        refine ⟨.list rows, ?_, RepC.mk (q := P.cellsOf e) hl.symm (fun d hd' => ?_) ⟨⟨by omega, by omega⟩, ?_⟩⟩
        · unfold FitC
          refine ⟨rows, rfl, by omega, fun r hr' => ?_⟩
          obtain ⟨i, hi⟩ := List.mem_iff_getElem?.1 hr'
          exact ⟨ks, hks, (hrow i r hi).1⟩
        · obtain ⟨i, hi⟩ := List.mem_iff_getElem?.1 hd'
          rw [(hrow i d hi).1.len, hq]
        · cases rows with
          | nil => exact .inl rfl
          | cons r rs =>
            obtain ⟨_, b, x, _, hp, _, _⟩ := hrow 0 r rfl
            refine .inr ⟨b, x, hp, fun i d hi => ?_⟩
            obtain ⟨_, b', x', vs, hp', k2, k3⟩ := hrow i d hi
            rw [hp] at hp'
            cases hp'
            exact ⟨vs, k2, k3⟩
      · cases hd
theorem ArgOk.rep {P : Program} {W : World} {t : Nat} {v : Value} (h : ArgOk P W t v) {ks : List CK} (hk : kindsOf P 8 t = some ks) {m : Nat} (hd : ks.all (deepC P m) = true) : ∃ ds, FitL P m ks ds ∧ RepL (wm W) ds v.cells.toList :=
  fitL_of (fit_of m) ks _ hd (kindsOf_sound 8 t ks _ hk h.2)
end Go.Eng
namespace Go.Eng
open Go
def imNew (im : Mem) (w w' : World) : Mem := fun k o => match im k o with
  | some u => some u
  | none => if w.heap.size ≤ k then w'.cell? ⟨k, o, none⟩ else none
theorem imNew_old {im : Mem} {w w' : World} {k o : Nat} {u : Value} (h : im k o = some u) : imNew im w w' k o = some u := by simp [imNew, h]
theorem imNew_new {im : Mem} {w w' : World} {k o : Nat} {u : Value} (hi : ∀ k o v, im k o = some v → w'.cell? ⟨k, o, none⟩ = some v) (hk : w.heap.size ≤ k) (h : w'.cell? ⟨k, o, none⟩ = some u) : imNew im w w' k o = some u := by
  unfold imNew
  cases hv : im k o with
  | some v =>
    have := hi k o v hv
    rw [h] at this
    exact this.symm
  | none =>
    simp only
    rw [if_pos hk]; exact h
theorem Sat.newMem {E : Env} {N : Nums} {rg : List Rg} {w w' : World} (h0 : Sat E N rg w) (h : Sat E N rg w') : Sat { E with im := imNew E.im w w' } N rg w' :=
  { h with
    imm := fun k o v hv => by
      have hv : imNew E.im w w' k o = some v := hv
      unfold imNew at hv
      cases hu : E.im k o with
      | some u =>
        rw [hu] at hv
        cases hv
        exact h.imm k o _ hu
      | none =>
        rw [hu] at hv
        simp only at hv
        by_cases hk : w.heap.size ≤ k
        · rw [if_pos hk] at hv; exact hv
        · rw [if_neg hk] at hv; cases hv
    imd := fun r g p hg hp ho j hj => by
      have h1 := h.imd r g p hg hp ho j hj
      have h2 := h0.lt r p hp
      show imNew E.im w w' p.b (p.o + j) = none
      unfold imNew
      rw [h1]
      simp only
      rw [if_neg (by omega)] }
theorem Goes.newMem {E : Ctx} {N : Nums} {k : List It} {s : St} {d : Option Nat} {v : Value} {w w' : World} (hN : E.N0.le N) (h : Sat E.toEnv N s.rg w) (hc : Chg (fun _ _ => False) w w') {r : SV} (hr : r.den N = some v) {f' : Fr} (hp : putO E.n s.fr d (.val r) = some f')
    (hx : (∀ k o u, E.im k o = some u → imNew E.im w w' k o = some u) → (∀ k o u, w.heap.size ≤ k → w'.cell? ⟨k, o, none⟩ = some u → imNew E.im w w' k o = some u) → X { E with im := imNew E.im w w' } k ⟨f', s.rg⟩) : Goes E N k s.fr d v w' := by
  have h' := h.after0 hc
  refine ⟨{ E with im := imNew E.im w w' }, N, r, s.rg, f', rfl, rfl, rfl, rfl, fun _ _ h => h, hN, Sat.newMem h h', hr, hp, ?_⟩
  exact hx (fun k o u hu => imNew_old hu) (fun k o u hk hu => imNew_new h'.imm hk hu)
end Go.Eng
namespace Go.Eng
open Go
theorem ValOk.at {E : Env} {N0 : Nums} {rg : List Rg} {f : Fr} {g : GK} {t e : TypeId} {x ix : Operand} {p : Option Addr} {n c z q b y : Nat} {kd : IntKind} {s : SI} (hx : evK f g x = some (.slv p n c)) (hix : evK f g ix = some (.int kd s)) (hz : g.T → s.den = (z : Int)) (hu : E.P.underlying t = some (.slice e)) (hq : ∀ w, (sizeOf e).run E.P w = .ok q w) (hlt : g.T → z < n)
    (hp : p = some ⟨b, y, none⟩) {o : Nat} (ho : o = y + z * q) : ValOk E N0 rg f g (.indexAddr t x ix) (.ext b o 0) := by
  intro ht N ρ o' w hN0 hop hρ hV
  have h1 := hρ _ _ hx
  have h2 := hρ _ _ hix
  simp only [SV.den, hz ht, Option.some.injEq] at h1 h2
  refine ⟨.pointer (some ⟨b, o + 0, none⟩), by simp only [SV.den], fun w' _ => ?_⟩
  simp only [execOp, hop, ← h1, ← h2, Sem.run_bind, Result.andThen, Sem.run_pure]
  subst hp
  have hlt := hlt ht
  simp [Instr.indexAt, asIntOf, run_underlying hu, Result.andThen, hlt, hq, addr_add, ho]
theorem ValOk.im1 {E : Env} {N0 : Nums} {rg : List Rg} {f : Fr} {g : GK} {t : TypeId} {x : Operand} {b y c : Nat} {r : SV} {v : Value} (hx : evK f g x = some (.ext b y c)) (ha : ∀ w, (isAgg t).run E.P w = .ok false w) (hr : ∀ N, r.den N = some v) (him : g.T → E.im b (y + c) = some v) : ValOk E N0 rg f g (.load t x) r := by
  intro ht N ρ o w hN0 hop hρ hV
  have h1 := hρ _ _ hx
  simp only [SV.den, Option.some.injEq] at h1
  refine ⟨v, hr N, fun w' hV' => ?_⟩
  have hc := hV'.2 _ _ _ (him ht)
  simp only [execOp, hop, ← h1, Instr.loadAt, Instr.sureAddr, loadVar, Sem.run_bind, Sem.run_pure, Result.andThen, ha, Bool.false_eq_true, if_false]
  simp [hc]
end Go.Eng

namespace Go.Proofs.Ytkjhpaeminegoaa
open Go Go.Eng
structure DC where
  (size count : Int) (kp : Option Addr) (kn kc : Nat) (wp : Option Addr) (wn wc : Nat) (off : Bool) (falls fuse : Int)
def DC.vals (d : DC) : List Value := [.int .i64 d.size, .int .i64 d.count, .slice d.kp d.kn d.kc, .slice d.wp d.wn d.wc, .bool d.off, .int .u64 d.falls, .int .i64 d.fuse]
def DC.svs (d : DC) : List SV := [.int .i64 (.v d.size), .int .i64 (.v d.count), .slv d.kp d.kn d.kc, .slv d.wp d.wn d.wc, .bool (.v d.off), .int .u64 (.v d.falls), .int .i64 (.v d.fuse)]
def DC.fall (d : DC) : DC := { d with off := true, falls := bif d.off then d.falls else IntKind.u64.wrap (d.falls + 1) }
def DC.burn (d : DC) : Bool × DC := if d.fuse < 0 then (false, d) else if d.fuse = 0 then (true, d.fall) else (false, { d with fuse := IntKind.i64.wrap (d.fuse - 1) })
def strD (s : ByteArray) : List Dt := [.str s]
def wD (x : Int × ByteArray) : List Dt := [.int .i64 x.1, .str x.2]
theorem strD.open {M : Mem} {s : ByteArray} {vs : List Value} (h : RepL M (strD s) vs) : vs = [.string s] := by
  simp only [strD, RepL, RepC] at h
  obtain ⟨_, _, rfl, rfl, rfl⟩ := h
  rfl
theorem wD.open {M : Mem} {x : Int × ByteArray} {vs : List Value} (h : RepL M (wD x) vs) : vs = [.int .i64 x.1, .string x.2] := by
  simp only [wD, RepL, RepC] at h
  obtain ⟨_, _, rfl, rfl, _, _, rfl, rfl, rfl⟩ := h
  rfl
theorem fin_aggR {cs : List SV} {N : Nums} {v : Value} {vs : List Value} (hv : (resV [.agg cs]).den N = some v) (h : SV.denL N cs = some vs) : Ending.returned v = .returned (.agg vs.toArray) := by
  simp only [resV, SV.den, h, Option.some.injEq] at hv
  rw [← hv]
theorem fin_tup2 {a : SV} {cs : List SV} {N : Nums} {v va : Value} {vs : List Value} (hv : (resV [a, .agg cs]).den N = some v) (h : SV.denL N [a, .agg cs] = some [va, .agg vs.toArray]) : Ending.returned v = .returned (.tuple #[va, .agg vs.toArray]) := by
  simp only [resV, SV.den, h, Option.some.injEq] at hv
  rw [← hv]
set_option maxHeartbeats 4000000 in
set_option maxRecDepth 100000 in
set_option cbv.maxSteps 100000000 in
theorem rfalls_ok (d : DC) (w : World) : Calls Try.prog 49 #[.agg d.vals.toArray] w fun e w' => e = .returned (.agg d.fall.vals.toArray) ∧ Chg (fun _ _ => False) w w' := by
  obtain ⟨d1, d2, d3, d4, d5, d6, d7, d8, d9, d10, d11⟩ := d
  refine X.begin (rg := []) (N := []) (ss := [.agg (DC.svs ⟨d1, d2, d3, d4, d5, d6, d7, d8, d9, d10, d11⟩)]) Try.func49 rfl B49_ok rfl rfl Sat.std0 ?_
  refine X.go T49_ok 400 _ rfl Try.results49 ?_
  conv => arg 2; cbv
  refine X.cond rfl (fun h => ?_) (fun h => ?_)
  · simp only [SB.T, SB.F] at h
    subst h
    refine X.go T49_ok 400 _ rfl Try.results49 ?_
    conv => arg 2; cbv
    refine X.done T49_ok rfl (fun N w' v hN hS hv => ⟨?_, hS.chg.mono fun k o _ h => inR_nil h⟩)
    exact fin_aggR hv rfl
  · simp only [SB.T, SB.F] at h
    subst h
    refine X.go T49_ok 400 _ rfl Try.results49 ?_
    conv => arg 2; cbv
    refine X.done T49_ok rfl (fun N w' v hN hS hv => ⟨?_, hS.chg.mono fun k o _ h => inR_nil h⟩)
    exact fin_aggR hv rfl
set_option maxHeartbeats 4000000 in
set_option maxRecDepth 100000 in
set_option cbv.maxSteps 100000000 in
theorem rburns_ok (d : DC) (w : World) : Calls Try.prog 66 #[.agg d.vals.toArray] w fun e w' => e = .returned (.tuple #[.bool d.burn.1, .agg d.burn.2.vals.toArray]) ∧ Chg (fun _ _ => False) w w' := by
  have e1 := fun (w1 : World) => rfalls_ok d w1
  obtain ⟨b, hb⟩ : ∃ b, b = d.burn := ⟨_, rfl⟩
  rw [← hb]
  obtain ⟨t, ht⟩ : ∃ t, t = d.fall := ⟨_, rfl⟩
  rw [← ht] at e1
  obtain ⟨d1, d2, d3, d4, d5, d6, d7, d8, d9, d10, d11⟩ := d
  refine X.begin (rg := []) (N := []) (ss := [.agg (DC.svs ⟨d1, d2, d3, d4, d5, d6, d7, d8, d9, d10, d11⟩)]) Try.func66 rfl B66_ok rfl rfl Sat.std0 ?_
  refine X.go T66_ok 400 _ rfl Try.results66 ?_
  conv => arg 2; cbv
  refine X.cond rfl (fun h => ?_) (fun h => ?_)
  · refine X.go T66_ok 400 _ rfl Try.results66 ?_
    conv => arg 2; cbv
    refine X.done T66_ok rfl (fun N w' v hN hS hv => ⟨?_, hS.chg.mono fun k o _ h => inR_nil h⟩)
    simp only [SB.T, SI.den] at h
    rw [hb, DC.burn, if_pos h]
    exact fin_tup2 hv rfl
  simp only [SB.F, SI.den] at h
  refine X.go T66_ok 400 _ rfl Try.results66 ?_
  conv => arg 2; cbv
  refine X.cond rfl (fun h2 => ?_) (fun h2 => ?_)
  · refine X.goP ([(12, .agg (DC.svs t))]) T66_ok 400 _ rfl Try.results66 (fun pr fin hpr hfin => ?_)
    conv => cbv
    refine ⟨hpr _ (.of Try.call49 [.agg _] (.agg t.vals.toArray) (fun _ => rfl) (fun _ => rfl) fun _ w1 _ => e1 w1), hfin _ _ ?_⟩
    refine X.done T66_ok rfl (fun N w' v hN hS hv => ⟨?_, hS.chg.mono fun k o _ h => inR_nil h⟩)
    simp only [SB.T, SI.den] at h2
    rw [hb, DC.burn, if_neg (by simp only; omega), if_pos h2, ← ht]
    exact fin_tup2 hv rfl
  simp only [SB.F, SI.den] at h2
  refine X.go T66_ok 400 _ rfl Try.results66 ?_
  conv => arg 2; cbv
  refine X.done T66_ok rfl (fun N w' v hN hS hv => ⟨?_, hS.chg.mono fun k o _ h => inR_nil h⟩)
  rw [hb, DC.burn, if_neg (by simp only; omega), if_neg h2]
  exact fin_tup2 hv rfl
end Go.Proofs.Ytkjhpaeminegoaa

namespace Go.Proofs.Ytkjhpaeminegoaa
open Go Go.Eng
def lastW (ws : List (Int × ByteArray)) (i : Int) (s : ByteArray) : Nat → ByteArray
  | 0 => s
  | n + 1 => match ws[n]? with
    | some x => if x.1 = i then x.2 else lastW ws i s n
    | none => lastW ws i s n
def readR (d : DC) (kept : List ByteArray) (ws : List (Int × ByteArray)) (i : Int) : ByteArray × Int :=
  if d.off = true then (ByteArray.empty, 8) else if i < 0 ∨ d.count ≤ i then (ByteArray.empty, 6) else (lastW ws i (kept[i.toNat]?.getD ByteArray.empty) ws.length, 0)
theorem fin_tupSI {N : Nums} {v : Value} {s : ByteArray} {z : Int} {a b : SV} (hv : (resV [a, b]).den N = some v) (h : SV.denL N [a, b] = some [.string s, .int .i64 z]) : Ending.returned v = .returned (.tuple #[.string s, .int .i64 z]) := by
  simp only [resV, SV.den, h, Option.some.injEq] at hv
  rw [← hv]
theorem At.eqS {E : Ctx} {s s' : St} {a : Act} {w : World} (h : s = s') (h2 : At E s' a w) : At E s a w := h ▸ h2
set_option maxHeartbeats 4000000 in
set_option maxRecDepth 100000 in
set_option cbv.maxSteps 100000000 in
theorem rread_ok (d : DC) (kept : List ByteArray) (ws : List (Int × ByteArray)) (i : Int) (w : World) (hk : SlR (wm w) d.kp d.kc 1 (kept.map strD)) (hkn : d.kn = kept.length) (hw : SlR (wm w) d.wp d.wc 2 (ws.map wD)) (hwn : d.wn = ws.length) (hct : d.count = kept.length) :
    Calls Try.prog 45 #[.agg d.vals.toArray, .int .i64 i] w fun e w' => e = .returned (.tuple #[.string (readR d kept ws i).1, .int .i64 (readR d kept ws i).2]) ∧ Chg (fun _ _ => False) w w' := by
  obtain ⟨q, hq⟩ : ∃ q, q = readR d kept ws i := ⟨_, rfl⟩
  rw [← hq]
  obtain ⟨d1, d2, d3, kn, d5, d6, n, d8, d9, d10, d11⟩ := d
  simp only at hk hkn hw hwn hct
  have hm := maxLen_le
  have hl : n ≤ maxLen := by rw [hwn]; exact hw.len
  refine X.begin (rg := []) (N := []) (ss := [.agg (DC.svs ⟨d1, d2, d3, kn, d5, d6, n, d8, d9, d10, d11⟩), .int .i64 (.v i)]) Try.func45 rfl B45_ok rfl rfl Sat.std0 ?_
  obtain ⟨im, hime⟩ : ∃ im, im = elsewhere [] [] w := ⟨_, rfl⟩
  show X (mkE Try.prog Try.f45 _ w (InR [] []) (elsewhere [] [] w) (fun _ _ => False) (fun _ => True) [] B45) _ _
  rw [← hime]
  refine X.go T45_ok 400 _ rfl Try.results45 ?_
  conv => arg 2; cbv
  refine X.cond rfl (fun h0 => ?_) (fun h0 => ?_)
  · refine X.go T45_ok 400 _ rfl Try.results45 ?_
    conv => arg 2; cbv
    refine X.done T45_ok rfl (fun N w' v hN hS hv => ⟨?_, hS.chg.mono fun k o _ h => inR_nil h⟩)
    simp only [SB.T] at h0
    rw [hq, readR, if_pos h0]
    exact fin_tupSI hv rfl
  simp only [SB.F] at h0
  refine X.go T45_ok 400 _ rfl Try.results45 ?_
  conv => arg 2; cbv
  refine X.cond rfl (fun h1 => ?_) (fun h1 => ?_)
  · refine X.go T45_ok 400 _ rfl Try.results45 ?_
    conv => arg 2; cbv
    refine X.done T45_ok rfl (fun N w' v hN hS hv => ⟨?_, hS.chg.mono fun k o _ h => inR_nil h⟩)
    simp only [SB.T, SI.den] at h1
    rw [hq, readR, if_neg (by simp [h0]), if_pos h1]
    exact fin_tupSI hv rfl
  simp only [SB.F, SI.den] at h1
  obtain ⟨z, hz⟩ : ∃ z : Nat, i = z := ⟨i.toNat, by omega⟩
  have hzk : z < kn := by omega
  obtain ⟨s0, hs0⟩ : ∃ s, kept[z]? = some s := ⟨_, List.getElem?_eq_getElem (by omega)⟩
  obtain ⟨b0, y0, _, hp0, hr0, hm0⟩ := hk.his hs0
  rw [strD.open hr0, ← hime] at hm0
  refine X.see b0 (y0 + z * 1) [.raw (.string s0)] (one_see (hm0 0 _ rfl)) Nat.zero_lt_one (fun N0 hN0 hNl0 => ?_)
  have hg0 : (N0 ++ [(⟨b0, y0 + z * 1, 0⟩ : Num)])[1]? = some ⟨b0, y0 + z * 1, 0⟩ := num_last hNl0
  refine X.goP ([(21, .own 1 0)]) T45_ok 400 _ rfl Try.results45 (fun pr fin hpr hfin => ?_)
  conv => cbv
  refine ⟨hpr _ (ValOk.row rfl rfl (fun _ => by simp only [SI.den]; exact hz) Try.underlying40 Try.sizeOf9 hzk hp0 hg0 rfl rfl), hfin _ _ ?_⟩
  obtain ⟨t, ht⟩ : ∃ t, t = lastW ws i s0 := ⟨_, rfl⟩
  have ht0 : t 0 = s0 := by rw [ht]; rfl
  have ht1 : ∀ j x, ws[j]? = some x → t (j + 1) = if x.1 = i then x.2 else t j := fun j x hx => by
    rw [ht]
    show (match ws[j]? with | some x => _ | none => _) = _
    rw [hx]
  refine X.loop1 (fun j : {j : Nat // j ≤ n} => ⟨[(1, .val (.int .i64 (.v i))), (2, .val (.own 0 0)), (6, .val (.raw (.string (t j.1)))), (25, .val (.int .i64 (.nat n))), (26, .val (.int .i64 (.nat j.1)))], [⟨true, DC.svs ⟨d1, d2, d3, kn, d5, d6, n, d8, d9, d10, d11⟩, none⟩, ⟨false, [.raw (.string s0)], none⟩]⟩) (fun j => n - j.1) (fun N a w' hN hf hS => ⟨⟨0, Nat.zero_le _⟩, ?_⟩) (fun j q' hq' => ?_)
  · exact At.eqS (by simp only [ht0]) (At.same (s' := ⟨[(1, .val (.int .i64 (.v i))), (2, .val (.own 0 0)), (6, .val (.raw (.string s0))), (25, .val (.int .i64 (.nat n))), (26, .val (.int .i64 (.nat 0)))], [⟨true, DC.svs ⟨d1, d2, d3, kn, d5, d6, n, d8, d9, d10, d11⟩, none⟩, ⟨false, [.raw (.string s0)], none⟩]⟩) hN hf hS (by simp [hNl0]) (by repeat first | exact trivial | refine ⟨⟨_, rfl, .inl ⟨rfl, rfl⟩⟩, ?_⟩ | refine ⟨⟨_, rfl, .inr ⟨_, rfl, rfl⟩⟩, ?_⟩ | refine ⟨⟨_, rfl, .inr ⟨_, rfl, by simp (disch := omega) [SV.den, SI.den, wrapU, wrapD] <;> omega⟩⟩, ?_⟩) (by repeat first | exact trivial | refine ⟨fun h => h, SubC.refl rfl, rfl, ?_⟩))
  obtain ⟨j, hj⟩ := j
  obtain ⟨u, hu⟩ : ∃ u, u = t j := ⟨_, rfl⟩
  show X _ _ ⟨[(1, .val (.int .i64 (.v i))), (2, .val (.own 0 0)), (6, .val (.raw (.string (t j)))), (25, .val (.int .i64 (.nat n))), (26, .val (.int .i64 (.nat j)))], _⟩
  rw [← hu]
  refine X.go T45_ok 400 _ rfl Try.results45 ?_
  conv => arg 2; cbv
  refine X.cond rfl (fun hlt => ?_) (fun hge => ?_)
  · simp only [SB.T, SI.den] at hlt
    have hlt : j < n := by omega
    obtain ⟨x, hx⟩ : ∃ x, ws[j]? = some x := ⟨_, List.getElem?_eq_getElem (by omega)⟩
    obtain ⟨b1, y1, _, hp1, hr1, hm1⟩ := hw.his hx
    rw [wD.open hr1, ← hime] at hm1
    obtain ⟨xi, xs⟩ := x
    refine X.see b1 (y1 + j * 2) [.int .i64 (.v xi), .raw (.string xs)] (see_of hm1 rfl) (by simp) (fun N1 hN0' hNl1 => ?_)
    have hg1 : (N1 ++ [(⟨b1, y1 + j * 2, 0⟩ : Num)])[2]? = some ⟨b1, y1 + j * 2, 0⟩ := num_last hNl1
    refine X.goP ([(32, .own 2 0)]) T45_ok 400 _ rfl Try.results45 (fun pr fin hpr hfin => ?_)
    conv => cbv
    refine ⟨hpr _ (ValOk.row rfl rfl (fun _ => rfl) Try.underlying41 Try.sizeOf103 hlt hp1 hg1 rfl rfl), hfin _ _ ?_⟩
    refine X.cond rfl (fun heq => ?_) (fun hne => ?_)
    · simp only [SB.T, SI.den] at heq
      refine X.goP ([(40, .own 2 0)]) T45_ok 400 _ rfl Try.results45 (fun pr fin hpr hfin => ?_)
      conv => cbv
      refine ⟨hpr _ (ValOk.row rfl rfl (fun _ => rfl) Try.underlying41 Try.sizeOf103 hlt hp1 hg1 rfl rfl), hfin _ _ ?_⟩
      refine X.back (fun N a w' hN hf hS => hq' ⟨j + 1, by omega⟩ a w' (by simp only; omega) ?_)
      have h2 := ht1 j _ hx
      rw [if_pos heq] at h2
      exact At.eqS (by simp only [h2]) (At.same (s' := ⟨[(1, .val (.int .i64 (.v i))), (2, .val (.own 0 0)), (6, .val (.raw (.string xs))), (25, .val (.int .i64 (.nat n))), (26, .val (.int .i64 (.nat (j + 1))))], [⟨true, DC.svs ⟨d1, d2, d3, kn, d5, d6, n, d8, d9, d10, d11⟩, none⟩, ⟨false, [.raw (.string s0)], none⟩]⟩) ((hN0'.trans (Nums.le_append _ _)).trans hN) hf hS (by simp [hNl0]) (by repeat first | exact trivial | refine ⟨⟨_, rfl, .inl ⟨rfl, rfl⟩⟩, ?_⟩ | refine ⟨⟨_, rfl, .inr ⟨_, rfl, rfl⟩⟩, ?_⟩ | refine ⟨⟨_, rfl, .inr ⟨_, rfl, by simp (disch := omega) [SV.den, SI.den, wrapU, wrapD] <;> omega⟩⟩, ?_⟩) (by repeat first | exact trivial | refine ⟨fun h => h, SubC.refl rfl, rfl, ?_⟩))
    · simp only [SB.F, SI.den] at hne
      refine X.go T45_ok 400 _ rfl Try.results45 ?_
      conv => arg 2; cbv
      refine X.back (fun N a w' hN hf hS => hq' ⟨j + 1, by omega⟩ a w' (by simp only; omega) ?_)
      have h2 := ht1 j _ hx
      rw [if_neg hne, ← hu] at h2
      exact At.eqS (by simp only [h2]) (At.same (s' := ⟨[(1, .val (.int .i64 (.v i))), (2, .val (.own 0 0)), (6, .val (.raw (.string u))), (25, .val (.int .i64 (.nat n))), (26, .val (.int .i64 (.nat (j + 1))))], [⟨true, DC.svs ⟨d1, d2, d3, kn, d5, d6, n, d8, d9, d10, d11⟩, none⟩, ⟨false, [.raw (.string s0)], none⟩]⟩) ((hN0'.trans (Nums.le_append _ _)).trans hN) hf hS (by simp [hNl0]) (by repeat first | exact trivial | refine ⟨⟨_, rfl, .inl ⟨rfl, rfl⟩⟩, ?_⟩ | refine ⟨⟨_, rfl, .inr ⟨_, rfl, rfl⟩⟩, ?_⟩ | refine ⟨⟨_, rfl, .inr ⟨_, rfl, by simp (disch := omega) [SV.den, SI.den, wrapU, wrapD] <;> omega⟩⟩, ?_⟩) (by repeat first | exact trivial | refine ⟨fun h => h, SubC.refl rfl, rfl, ?_⟩))
  simp only [SB.F, SI.den] at hge
  obtain rfl : j = n := by omega
  refine X.go T45_ok 400 _ rfl Try.results45 ?_
  conv => arg 2; cbv
  refine X.done T45_ok rfl (fun N w' v hN hS hv => ⟨?_, hS.chg.mono fun k o _ h => inR_nil h⟩)
  rw [hq, readR, if_neg (by simp [h0]), if_neg (by simp only; omega)]
  simp only [hz, Int.toNat_natCast, hs0, Option.getD_some]
  rw [← hz, ← hwn, ← ht, ← hu]
  exact fin_tupSI hv rfl
end Go.Proofs.Ytkjhpaeminegoaa
