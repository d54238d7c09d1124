import Derived.Test.YtkjhpaeminegoaaRsd
import Derived.Test.YtkjhpaeminegoaaSe18
import Derived.Test.YtkjhpaeminegoaaSe2

namespace Go.Proofs.Ytkjhpaeminegoaa
open Go Go.Eng
def Sec.does (s : Sec) (e : SStep) : Sec :=
  if e.kd = 1 then (s.write e.i e.bn e.g).2 else if e.kd = 2 then s.sync.2 else if e.kd = 3 then s.lit e.i else if e.kd = 4 then s.fall else
    if e.kd = 5 then s.back e.i e.torn else if e.kd = 6 then (s.spoil e.i e.at' e.by').2 else s
def DoesRet (B : Nat) (Mo : Mem) (s' : Sec) (d : Dk) (w : World) (e : Ending) (w' : World) : Prop :=
  ∃ (dc : DC) (d' : Dk) (Mo' : Mem), e = .returned (.tuple #[.bool true, .agg dc.vals.toArray]) ∧ ToG B s' d d' w w' ∧ RDC Mo' s'.rd dc ∧ (∀ k o v, Mo k o = some v → Mo' k o = some v) ∧ (∀ k o v, Mo' k o = some v → w'.cell? ⟨k, o, none⟩ = some v) ∧ (∀ k o, d'.D k o → Mo' k o = none) ∧ ∀ k o v, Mo' k o = some v → Mo k o = some v ∨ w.heap.size ≤ k
structure DoesAt (B : Nat) (Mo : Mem) (s : Sec) (d : Dk) (dc : DC) (w : World) : Prop where
  p : PlG B s d
  ok : s.Ok
  at' : DiskAt d w
  mo : ∀ k o v, Mo k o = some v → w.cell? ⟨k, o, none⟩ = some v
  md : ∀ k o, d.D k o → Mo k o = none
  b : B ≤ w.heap.size
  r : RDC Mo s.rd dc
  len : s.l.length < 1000
  ct : 1 ≤ s.count ∧ s.count ≤ 40
  sz : 64 ≤ s.size ∧ s.size ≤ 512
theorem DoesAt.md2 {B : Nat} {Mo : Mem} {s s' : Sec} {d d' : Dk} {dc : DC} {w w1 w2 : World} (h : DoesAt B Mo s d dc w) (hw : w.heap.size ≤ w1.heap.size) (ht : ToG B s' d d' w1 w2) (k o : Nat) (hk : d'.D k o) : Mo k o = none := by
  rcases ht.inD k o hk with h1 | h1
  · exact h.md k o h1
  · cases hm : Mo k o with
    | none => rfl
    | some v =>
      have := World.block_lt_of_cell? _ _ (h.mo k o v hm)
      simp only at this
      omega
theorem imNew_none {im : Mem} {w w' : World} {k o : Nat} (h : im k o = none) (hk : k < w.heap.size) : imNew im w w' k o = none := by
  unfold imNew
  rw [h]
  simp only
  rw [if_neg (by omega)]
theorem imNew_or {im : Mem} {w w' : World} {k o : Nat} {v : Value} (h : imNew im w w' k o = some v) : im k o = some v ∨ w.heap.size ≤ k := by
  cases hm : im k o with
  | some u => rw [imNew_old hm] at h; exact .inl h
  | none =>
    unfold imNew at h
    rw [hm] at h
    simp only at h
    split at h
    · exact .inr (by assumption)
    · cases h
theorem imNew_le {Mo im : Mem} {w w' : World} (h : ∀ k o v, Mo k o = some v → im k o = some v) (hi : ∀ k o v, im k o = some v → w'.cell? ⟨k, o, none⟩ = some v) (k o : Nat) (v : Value) (hv : imNew Mo w w' k o = some v) : imNew im w w' k o = some v := by
  cases hm : Mo k o with
  | some u =>
    have e : imNew Mo w w' k o = some u := imNew_old hm
    rw [e] at hv; cases hv
    exact imNew_old (h _ _ _ hm)
  | none =>
    unfold imNew at hv
    rw [hm] at hv
    simp only at hv
    split at hv
    · exact imNew_new hi (by assumption) hv
    · cases hv
theorem rd_kept_len (s : Sec) : s.rd.kept.length = s.count := keptS_len _ _ _
theorem rd_ws_len (s : Sec) : s.rd.ws.length = s.l.length := wsS_len _ _
set_option maxHeartbeats 8000000 in
set_option maxRecDepth 100000 in
set_option cbv.maxSteps 100000000 in
theorem does2_ok {B : Nat} {Mo : Mem} {s : Sec} {d : Dk} {dc : DC} {w : World} (h : DoesAt B Mo s d dc w) (e : SStep) (hk : e.kd = 2) :
    Calls Try.prog 20 #[.pointer (some ⟨d.b, d.y, none⟩), .agg dc.vals.toArray, .agg e.vals.toArray] w (DoesRet B Mo (s.sync.2) d w) := by
  obtain ⟨Q, hQ⟩ : ∃ Q : Ending → World → Prop, Q = DoesRet B Mo (s.sync.2) d w := ⟨_, rfl⟩
  rw [← hQ]
  obtain ⟨kd, ei, eat, bp, bn, bc, torn, eby, eg⟩ := e
  simp only at hk
  subst hk
  try simp only at hQ
  obtain ⟨d1, d2, kp, kn, kc, wp, wn, wc, off, fl, fu⟩ := dc
  refine X.beginR d.D (DiskAt d) (ss := [.ext d.b d.y 0, .agg (DC.svs ⟨d1, d2, kp, kn, kc, wp, wn, wc, off, fl, fu⟩), .agg [.int .i64 (.lit 2), .int .i64 (.v ei), .int .i64 (.v eat), .slv bp bn bc, .bool (.v torn), .int .u8 (.v eby)]]) Try.func20 rfl B20_ok rfl rfl (fun k o h1 => h.at'.there h1) DiskAt.loc h.at' ?_
  obtain ⟨im, hime⟩ : ∃ im, im = outside d.D w := ⟨_, rfl⟩
  have him : ∀ k o, d.D k o → im k o = none := fun k o h1 => by rw [hime]; exact outside_in h1
  have hMi : ∀ k o v, Mo k o = some v → im k o = some v := fun k o v h1 => by
    rw [hime, outside_out (fun h2 => by rw [h.md k o h2] at h1; cases h1)]; exact h.mo k o v h1
  have hwi : ∀ k o v, ¬ d.D k o → w.cell? ⟨k, o, none⟩ = some v → im k o = some v := fun k o v h1 h2 => by rw [hime, outside_out h1]; exact h2
  show X (mkE Try.prog Try.f20 Q w d.D (outside d.D w) d.D (DiskAt d) [] B20) _ _
  rw [← hime]
  clear hime
  refine X.go T20_ok 400 _ rfl Try.results20 ?_
  conv => arg 2; cbv
  refine X.call rfl rfl rfl rfl Try.call14 (fun N w1 args hN hS ha => ?_)
  obtain rfl := args_eq (vs := [.pointer (some ⟨d.b, d.y, none⟩)]) rfl ha
  refine (g_sync h.p w1 hS.res).mono fun e w2 ⟨he, d', hto⟩ => ⟨_, he, ?_⟩
  have hws : w.heap.size ≤ w1.heap.size := hS.chg.size
  have hmd' := h.md2 hws hto
  have hin : ∀ k o, d'.D k o → d.D k o ∨ w.heap.size ≤ k := fun k o hk => (hto.inD k o hk).imp id fun h1 => by omega
  refine Goes.turn (r := .int .i64 (.v s.sync.1)) d'.D (DiskAt d') hN hS hto.chg (fun k o h1 => .inr h1) him (fun g hg => by simp at hg; rcases hg with rfl | rfl | rfl <;> exact .inl rfl) (fun k o hk => ⟨hto.inD k o hk, hto.at'.there hk⟩) DiskAt.loc hto.at' rfl rfl ?_
  show X (mkE Try.prog Try.f20 Q w d.D im d'.D (DiskAt d') [] B20) _ _
  obtain ⟨c, hc⟩ : ∃ c, c = s.sync.1 := ⟨_, rfl⟩
  rw [← hc]
  have hb := hto.b
  have hy := hto.y
  have hp := hto.p
  clear ha he hS hN hto
  refine X.go T20_ok 400 _ rfl Try.results20 ?_
  conv => arg 2; cbv
  obtain ⟨e1, e2, e3, e4, e5, e6, e7⟩ := h.r.e
  have hcl := h.ct
  have hll := h.len
  have hsz := h.sz
  have hrd := rd_sync h.ok
  refine X.call rfl rfl rfl rfl Try.call47 (fun N w1 args hN hS ha => ?_)
  obtain rfl : args = [.agg (DC.vals ⟨d1, d2, kp, kn, kc, wp, wn, wc, off, fl, fu⟩).toArray] := (Option.some.inj ha).symm
  refine (rsync_ok s.rd ⟨d1, d2, kp, kn, kc, wp, wn, wc, off, fl, fu⟩ Mo w1 (fun k o v h1 => hS.imm _ _ _ (hMi _ _ _ h1)) h.r (by rw [rd_ws_len]; omega) (by rw [rd_kept_len]; omega) (by rw [rd_kept_len]; omega) (fun x hx => ?_)).mono fun e w2 hR => ?_
  · rw [rd_kept_len]
    obtain ⟨x0, hx0, rfl⟩ := List.mem_map.1 hx
    exact h.ok.wi x0 hx0
  rw [hrd, ← hc] at hR
  obtain ⟨⟨⟨s1, s2, skp, skn, skc, swp, swn, swc, soff, sfl, sfu⟩, he, hmem⟩, hch⟩ := hR
  refine ⟨_, he, Goes.newMem hN hS hch (r := .tup [.int .i64 (.v c), .agg (DC.svs ⟨s1, s2, skp, skn, skc, swp, swn, swc, soff, sfl, sfu⟩)]) rfl rfl (fun hold hnew => ?_)⟩
  obtain ⟨Mo', hMo'⟩ : ∃ M, M = imNew Mo w1 w2 := ⟨_, rfl⟩
  have hm2 : ∀ k o v, im k o = some v → w2.cell? ⟨k, o, none⟩ = some v := (hS.after0 hch).imm
  have hm1 : ∀ k o v, Mo k o = some v → Mo' k o = some v := fun k o v h1 => by rw [hMo']; exact imNew_old h1
  have hrc : RDC Mo' (s.sync.2).rd ⟨s1, s2, skp, skn, skc, swp, swn, swc, soff, sfl, sfu⟩ := hmem Mo' hm1 fun k o v hk h1 => by rw [hMo']; exact imNew_new (fun k o v h1 => hm2 _ _ _ (hMi _ _ _ h1)) hk h1
  have hmd2 : ∀ k o, d'.D k o → Mo' k o = none := fun k o hk => by rw [hMo']; exact imNew_none (hmd' k o hk) (hS.res.there hk).lt
  have hmi2 : ∀ k o v, Mo' k o = some v → imNew im w1 w2 k o = some v := fun k o v h1 => by rw [hMo'] at h1; exact imNew_le hMi hm2 k o v h1
  have hlo : ∀ k o v, Mo' k o = some v → Mo k o = some v ∨ w.heap.size ≤ k := fun k o v h1 => by rw [hMo'] at h1; exact (imNew_or h1).imp id fun h2 => Nat.le_trans hS.chg.size h2
  obtain ⟨im2, him2⟩ : ∃ im2, im2 = imNew im w1 w2 := ⟨_, rfl⟩
  show X (mkE Try.prog Try.f20 Q w d.D (imNew im w1 w2) d'.D (DiskAt d') [] B20) _ _
  rw [← him2] at hmi2 ⊢
  clear him2 hold hnew hch he ha hS hN hmem hMo' hm2
  refine X.go T20_ok 400 _ rfl Try.results20 ?_
  conv => arg 2; cbv
  refine X.done T20_ok rfl (fun N w' v hN hS hv => ?_)
  simp only [resV, SV.den, SV.denL, SI.den, SB.den, Option.some.injEq] at hv
  rw [hQ]
  refine ⟨⟨s1, s2, skp, skn, skc, swp, swn, swc, soff, sfl, sfu⟩, d', Mo', ?_, ⟨hb, hy, hp, hS.res, hS.chg, hin⟩, hrc, hm1, fun k o v h1 => hS.imm _ _ _ (hmi2 _ _ _ h1), hmd2, hlo⟩
  rw [← hv]
  simp [DC.vals]
set_option maxHeartbeats 8000000 in
set_option maxRecDepth 100000 in
set_option cbv.maxSteps 100000000 in
theorem does5_ok {B : Nat} {Mo : Mem} {s : Sec} {d : Dk} {dc : DC} {w : World} (h : DoesAt B Mo s d dc w) (e : SStep) (hk : e.kd = 5) :
    Calls Try.prog 20 #[.pointer (some ⟨d.b, d.y, none⟩), .agg dc.vals.toArray, .agg e.vals.toArray] w (DoesRet B Mo (s.back e.i e.torn) d w) := by
  obtain ⟨Q, hQ⟩ : ∃ Q : Ending → World → Prop, Q = DoesRet B Mo (s.back e.i e.torn) d w := ⟨_, rfl⟩
  rw [← hQ]
  obtain ⟨kd, ei, eat, bp, bn, bc, torn, eby, eg⟩ := e
  simp only at hk
  subst hk
  try simp only at hQ
  obtain ⟨d1, d2, kp, kn, kc, wp, wn, wc, off, fl, fu⟩ := dc
  refine X.beginR d.D (DiskAt d) (ss := [.ext d.b d.y 0, .agg (DC.svs ⟨d1, d2, kp, kn, kc, wp, wn, wc, off, fl, fu⟩), .agg [.int .i64 (.lit 5), .int .i64 (.v ei), .int .i64 (.v eat), .slv bp bn bc, .bool (.v torn), .int .u8 (.v eby)]]) Try.func20 rfl B20_ok rfl rfl (fun k o h1 => h.at'.there h1) DiskAt.loc h.at' ?_
  obtain ⟨im, hime⟩ : ∃ im, im = outside d.D w := ⟨_, rfl⟩
  have him : ∀ k o, d.D k o → im k o = none := fun k o h1 => by rw [hime]; exact outside_in h1
  have hMi : ∀ k o v, Mo k o = some v → im k o = some v := fun k o v h1 => by
    rw [hime, outside_out (fun h2 => by rw [h.md k o h2] at h1; cases h1)]; exact h.mo k o v h1
  have hwi : ∀ k o v, ¬ d.D k o → w.cell? ⟨k, o, none⟩ = some v → im k o = some v := fun k o v h1 h2 => by rw [hime, outside_out h1]; exact h2
  show X (mkE Try.prog Try.f20 Q w d.D (outside d.D w) d.D (DiskAt d) [] B20) _ _
  rw [← hime]
  clear hime
  refine X.go T20_ok 400 _ rfl Try.results20 ?_
  conv => arg 2; cbv
  refine X.call rfl rfl rfl rfl Try.call16 (fun N w1 args hN hS ha => ?_)
  obtain rfl := args_eq (vs := [.pointer (some ⟨d.b, d.y, none⟩), .int .i64 ei, .bool torn]) rfl ha
  refine (g_back h.p ei torn w1 hS.res).mono fun e w2 ⟨he, d', hto⟩ => ⟨_, he, ?_⟩
  have hws : w.heap.size ≤ w1.heap.size := hS.chg.size
  have hmd' := h.md2 hws hto
  have hin : ∀ k o, d'.D k o → d.D k o ∨ w.heap.size ≤ k := fun k o hk => (hto.inD k o hk).imp id fun h1 => by omega
  refine Goes.turn (r := .tup []) d'.D (DiskAt d') hN hS hto.chg (fun k o h1 => .inr h1) him (fun g hg => by simp at hg; rcases hg with rfl | rfl | rfl <;> exact .inl rfl) (fun k o hk => ⟨hto.inD k o hk, hto.at'.there hk⟩) DiskAt.loc hto.at' rfl rfl ?_
  show X (mkE Try.prog Try.f20 Q w d.D im d'.D (DiskAt d') [] B20) _ _
  have hb := hto.b
  have hy := hto.y
  have hp := hto.p
  clear ha he hS hN hto
  refine X.go T20_ok 400 _ rfl Try.results20 ?_
  conv => arg 2; cbv
  obtain ⟨e1, e2, e3, e4, e5, e6, e7⟩ := h.r.e
  have hcl := h.ct
  have hll := h.len
  have hsz := h.sz
  have hrd := rd_back h.ok ei torn
  refine X.call rfl rfl rfl rfl Try.call24 (fun N w1 args hN hS ha => ?_)
  obtain rfl : args = [.agg (DC.vals ⟨d1, d2, kp, kn, kc, wp, wn, wc, off, fl, fu⟩).toArray, .int .i64 ei, .bool torn] := (Option.some.inj ha).symm
  refine (rback_ok s.rd ⟨d1, d2, kp, kn, kc, wp, wn, wc, off, fl, fu⟩ ei torn Mo w1 (fun k o v h1 => hS.imm _ _ _ (hMi _ _ _ h1)) h.r (by rw [rd_ws_len]; omega) (by rw [rd_kept_len]; omega) (by rw [rd_kept_len]; omega) (fun x hx => ?_) (fun x hx => ?_) (fun x hx => ?_) (by show 0 < s.size ∧ s.size ≤ 1000; omega)).mono fun e w2 hR => ?_
  · rw [rd_kept_len]
    obtain ⟨x0, hx0, rfl⟩ := List.mem_map.1 hx
    exact h.ok.wi x0 hx0
  · obtain ⟨j, _, rfl⟩ := List.mem_map.1 hx
    exact strG_size _ _
  · obtain ⟨x0, hx0, rfl⟩ := List.mem_map.1 hx
    exact strG_size _ _
  rw [hrd] at hR
  obtain ⟨⟨⟨s1, s2, skp, skn, skc, swp, swn, swc, soff, sfl, sfu⟩, he, hmem⟩, hch⟩ := hR
  refine ⟨_, he, Goes.newMem hN hS hch (r := .agg (DC.svs ⟨s1, s2, skp, skn, skc, swp, swn, swc, soff, sfl, sfu⟩)) rfl rfl (fun hold hnew => ?_)⟩
  obtain ⟨Mo', hMo'⟩ : ∃ M, M = imNew Mo w1 w2 := ⟨_, rfl⟩
  have hm2 : ∀ k o v, im k o = some v → w2.cell? ⟨k, o, none⟩ = some v := (hS.after0 hch).imm
  have hm1 : ∀ k o v, Mo k o = some v → Mo' k o = some v := fun k o v h1 => by rw [hMo']; exact imNew_old h1
  have hrc : RDC Mo' (s.back ei torn).rd ⟨s1, s2, skp, skn, skc, swp, swn, swc, soff, sfl, sfu⟩ := hmem Mo' hm1 fun k o v hk h1 => by rw [hMo']; exact imNew_new (fun k o v h1 => hm2 _ _ _ (hMi _ _ _ h1)) hk h1
  have hmd2 : ∀ k o, d'.D k o → Mo' k o = none := fun k o hk => by rw [hMo']; exact imNew_none (hmd' k o hk) (hS.res.there hk).lt
  have hmi2 : ∀ k o v, Mo' k o = some v → imNew im w1 w2 k o = some v := fun k o v h1 => by rw [hMo'] at h1; exact imNew_le hMi hm2 k o v h1
  have hlo : ∀ k o v, Mo' k o = some v → Mo k o = some v ∨ w.heap.size ≤ k := fun k o v h1 => by rw [hMo'] at h1; exact (imNew_or h1).imp id fun h2 => Nat.le_trans hS.chg.size h2
  obtain ⟨im2, him2⟩ : ∃ im2, im2 = imNew im w1 w2 := ⟨_, rfl⟩
  show X (mkE Try.prog Try.f20 Q w d.D (imNew im w1 w2) d'.D (DiskAt d') [] B20) _ _
  rw [← him2] at hmi2 ⊢
  clear him2 hold hnew hch he ha hS hN hmem hMo' hm2
  refine X.go T20_ok 400 _ rfl Try.results20 ?_
  conv => arg 2; cbv
  refine X.done T20_ok rfl (fun N w' v hN hS hv => ?_)
  simp only [resV, SV.den, SV.denL, SI.den, SB.den, Option.some.injEq] at hv
  rw [hQ]
  refine ⟨⟨s1, s2, skp, skn, skc, swp, swn, swc, soff, sfl, sfu⟩, d', Mo', ?_, ⟨hb, hy, hp, hS.res, hS.chg, hin⟩, hrc, hm1, fun k o v h1 => hS.imm _ _ _ (hmi2 _ _ _ h1), hmd2, hlo⟩
  rw [← hv]
  simp [DC.vals]
set_option maxHeartbeats 8000000 in
set_option maxRecDepth 100000 in
set_option cbv.maxSteps 100000000 in
theorem does6_ok {B : Nat} {Mo : Mem} {s : Sec} {d : Dk} {dc : DC} {w : World} (h : DoesAt B Mo s d dc w) (e : SStep) (hk : e.kd = 6) :
    Calls Try.prog 20 #[.pointer (some ⟨d.b, d.y, none⟩), .agg dc.vals.toArray, .agg e.vals.toArray] w (DoesRet B Mo ((s.spoil e.i e.at' e.by').2) d w) := by
  obtain ⟨Q, hQ⟩ : ∃ Q : Ending → World → Prop, Q = DoesRet B Mo ((s.spoil e.i e.at' e.by').2) d w := ⟨_, rfl⟩
  rw [← hQ]
  obtain ⟨kd, ei, eat, bp, bn, bc, torn, eby, eg⟩ := e
  simp only at hk
  subst hk
  try simp only at hQ
  obtain ⟨d1, d2, kp, kn, kc, wp, wn, wc, off, fl, fu⟩ := dc
  refine X.beginR d.D (DiskAt d) (ss := [.ext d.b d.y 0, .agg (DC.svs ⟨d1, d2, kp, kn, kc, wp, wn, wc, off, fl, fu⟩), .agg [.int .i64 (.lit 6), .int .i64 (.v ei), .int .i64 (.v eat), .slv bp bn bc, .bool (.v torn), .int .u8 (.v eby)]]) Try.func20 rfl B20_ok rfl rfl (fun k o h1 => h.at'.there h1) DiskAt.loc h.at' ?_
  obtain ⟨im, hime⟩ : ∃ im, im = outside d.D w := ⟨_, rfl⟩
  have him : ∀ k o, d.D k o → im k o = none := fun k o h1 => by rw [hime]; exact outside_in h1
  have hMi : ∀ k o v, Mo k o = some v → im k o = some v := fun k o v h1 => by
    rw [hime, outside_out (fun h2 => by rw [h.md k o h2] at h1; cases h1)]; exact h.mo k o v h1
  have hwi : ∀ k o v, ¬ d.D k o → w.cell? ⟨k, o, none⟩ = some v → im k o = some v := fun k o v h1 h2 => by rw [hime, outside_out h1]; exact h2
  show X (mkE Try.prog Try.f20 Q w d.D (outside d.D w) d.D (DiskAt d) [] B20) _ _
  rw [← hime]
  clear hime
  refine X.go T20_ok 400 _ rfl Try.results20 ?_
  conv => arg 2; cbv
  refine X.call rfl rfl rfl rfl Try.call27 (fun N w1 args hN hS ha => ?_)
  obtain rfl := args_eq (vs := [.pointer (some ⟨d.b, d.y, none⟩), .int .i64 ei, .int .i64 eat, .int .u8 eby]) rfl ha
  refine (g_spoil h.p ei eat eby w1 (Nat.le_trans h.b hS.chg.size) hS.res).mono fun e w2 ⟨he, d', hto⟩ => ⟨_, he, ?_⟩
  have hws : w.heap.size ≤ w1.heap.size := hS.chg.size
  have hmd' := h.md2 hws hto
  have hin : ∀ k o, d'.D k o → d.D k o ∨ w.heap.size ≤ k := fun k o hk => (hto.inD k o hk).imp id fun h1 => by omega
  refine Goes.turn (r := .int .i64 (.v (s.spoil ei eat eby).1)) d'.D (DiskAt d') hN hS hto.chg (fun k o h1 => .inr h1) him (fun g hg => by simp at hg; rcases hg with rfl | rfl | rfl <;> exact .inl rfl) (fun k o hk => ⟨hto.inD k o hk, hto.at'.there hk⟩) DiskAt.loc hto.at' rfl rfl ?_
  show X (mkE Try.prog Try.f20 Q w d.D im d'.D (DiskAt d') [] B20) _ _
  obtain ⟨c, hc⟩ : ∃ c, c = (s.spoil ei eat eby).1 := ⟨_, rfl⟩
  rw [← hc]
  have hb := hto.b
  have hy := hto.y
  have hp := hto.p
  clear ha he hS hN hto
  refine X.go T20_ok 400 _ rfl Try.results20 ?_
  conv => arg 2; cbv
  obtain ⟨e1, e2, e3, e4, e5, e6, e7⟩ := h.r.e
  have hcl := h.ct
  have hll := h.len
  have hsz := h.sz
  have hrd := rd_spoil h.ok ei eat eby
  refine X.call rfl rfl rfl rfl Try.call48 (fun N w1 args hN hS ha => ?_)
  obtain rfl : args = [.agg (DC.vals ⟨d1, d2, kp, kn, kc, wp, wn, wc, off, fl, fu⟩).toArray, .int .i64 ei, .int .i64 eat, .int .u8 eby] := (Option.some.inj ha).symm
  refine (rspoil_ok s.rd ⟨d1, d2, kp, kn, kc, wp, wn, wc, off, fl, fu⟩ ei eat eby Mo w1 (fun k o v h1 => hS.imm _ _ _ (hMi _ _ _ h1)) h.r (by rw [rd_kept_len]; omega) (by rw [rd_kept_len]; omega) (by rw [rd_kept_len]; rfl) (fun x hx => ?_) (by show 0 < s.size ∧ s.size ≤ 1000; omega)).mono fun e w2 hR => ?_
  · obtain ⟨j, _, rfl⟩ := List.mem_map.1 hx
    exact strG_size _ _
  rw [hrd, ← hc] at hR
  obtain ⟨⟨⟨s1, s2, skp, skn, skc, swp, swn, swc, soff, sfl, sfu⟩, he, hmem⟩, hch⟩ := hR
  refine ⟨_, he, Goes.newMem hN hS hch (r := .tup [.int .i64 (.v c), .agg (DC.svs ⟨s1, s2, skp, skn, skc, swp, swn, swc, soff, sfl, sfu⟩)]) rfl rfl (fun hold hnew => ?_)⟩
  obtain ⟨Mo', hMo'⟩ : ∃ M, M = imNew Mo w1 w2 := ⟨_, rfl⟩
  have hm2 : ∀ k o v, im k o = some v → w2.cell? ⟨k, o, none⟩ = some v := (hS.after0 hch).imm
  have hm1 : ∀ k o v, Mo k o = some v → Mo' k o = some v := fun k o v h1 => by rw [hMo']; exact imNew_old h1
  have hrc : RDC Mo' ((s.spoil ei eat eby).2).rd ⟨s1, s2, skp, skn, skc, swp, swn, swc, soff, sfl, sfu⟩ := hmem Mo' hm1 fun k o v hk h1 => by rw [hMo']; exact imNew_new (fun k o v h1 => hm2 _ _ _ (hMi _ _ _ h1)) hk h1
  have hmd2 : ∀ k o, d'.D k o → Mo' k o = none := fun k o hk => by rw [hMo']; exact imNew_none (hmd' k o hk) (hS.res.there hk).lt
  have hmi2 : ∀ k o v, Mo' k o = some v → imNew im w1 w2 k o = some v := fun k o v h1 => by rw [hMo'] at h1; exact imNew_le hMi hm2 k o v h1
  have hlo : ∀ k o v, Mo' k o = some v → Mo k o = some v ∨ w.heap.size ≤ k := fun k o v h1 => by rw [hMo'] at h1; exact (imNew_or h1).imp id fun h2 => Nat.le_trans hS.chg.size h2
  obtain ⟨im2, him2⟩ : ∃ im2, im2 = imNew im w1 w2 := ⟨_, rfl⟩
  show X (mkE Try.prog Try.f20 Q w d.D (imNew im w1 w2) d'.D (DiskAt d') [] B20) _ _
  rw [← him2] at hmi2 ⊢
  clear him2 hold hnew hch he ha hS hN hmem hMo' hm2
  refine X.go T20_ok 400 _ rfl Try.results20 ?_
  conv => arg 2; cbv
  refine X.done T20_ok rfl (fun N w' v hN hS hv => ?_)
  simp only [resV, SV.den, SV.denL, SI.den, SB.den, Option.some.injEq] at hv
  rw [hQ]
  refine ⟨⟨s1, s2, skp, skn, skc, swp, swn, swc, soff, sfl, sfu⟩, d', Mo', ?_, ⟨hb, hy, hp, hS.res, hS.chg, hin⟩, hrc, hm1, fun k o v h1 => hS.imm _ _ _ (hmi2 _ _ _ h1), hmd2, hlo⟩
  rw [← hv]
  simp [DC.vals]
set_option maxHeartbeats 8000000 in
set_option maxRecDepth 100000 in
set_option cbv.maxSteps 100000000 in
theorem does3_ok {B : Nat} {Mo : Mem} {s : Sec} {d : Dk} {dc : DC} {w : World} (h : DoesAt B Mo s d dc w) (e : SStep) (hk : e.kd = 3) :
    Calls Try.prog 20 #[.pointer (some ⟨d.b, d.y, none⟩), .agg dc.vals.toArray, .agg e.vals.toArray] w (DoesRet B Mo (s.lit e.i) d w) := by
  obtain ⟨Q, hQ⟩ : ∃ Q : Ending → World → Prop, Q = DoesRet B Mo (s.lit e.i) d w := ⟨_, rfl⟩
  rw [← hQ]
  obtain ⟨kd, ei, eat, bp, bn, bc, torn, eby, eg⟩ := e
  simp only at hk
  subst hk
  try simp only at hQ
  obtain ⟨d1, d2, kp, kn, kc, wp, wn, wc, off, fl, fu⟩ := dc
  refine X.beginR d.D (DiskAt d) (ss := [.ext d.b d.y 0, .agg (DC.svs ⟨d1, d2, kp, kn, kc, wp, wn, wc, off, fl, fu⟩), .agg [.int .i64 (.lit 3), .int .i64 (.v ei), .int .i64 (.v eat), .slv bp bn bc, .bool (.v torn), .int .u8 (.v eby)]]) Try.func20 rfl B20_ok rfl rfl (fun k o h1 => h.at'.there h1) DiskAt.loc h.at' ?_
  obtain ⟨im, hime⟩ : ∃ im, im = outside d.D w := ⟨_, rfl⟩
  have him : ∀ k o, d.D k o → im k o = none := fun k o h1 => by rw [hime]; exact outside_in h1
  have hMi : ∀ k o v, Mo k o = some v → im k o = some v := fun k o v h1 => by
    rw [hime, outside_out (fun h2 => by rw [h.md k o h2] at h1; cases h1)]; exact h.mo k o v h1
  have hwi : ∀ k o v, ¬ d.D k o → w.cell? ⟨k, o, none⟩ = some v → im k o = some v := fun k o v h1 h2 => by rw [hime, outside_out h1]; exact h2
  show X (mkE Try.prog Try.f20 Q w d.D (outside d.D w) d.D (DiskAt d) [] B20) _ _
  rw [← hime]
  clear hime
  refine X.go T20_ok 400 _ rfl Try.results20 ?_
  conv => arg 2; cbv
  refine X.call rfl rfl rfl rfl Try.call25 (fun N w1 args hN hS ha => ?_)
  obtain rfl := args_eq (vs := [.pointer (some ⟨d.b, d.y, none⟩), .int .i64 ei]) rfl ha
  refine (g_fuse h.p ei w1 hS.res).mono fun e w2 ⟨he, d', hto⟩ => ⟨_, he, ?_⟩
  have hws : w.heap.size ≤ w1.heap.size := hS.chg.size
  have hmd' := h.md2 hws hto
  have hin : ∀ k o, d'.D k o → d.D k o ∨ w.heap.size ≤ k := fun k o hk => (hto.inD k o hk).imp id fun h1 => by omega
  refine Goes.turn (r := .tup []) d'.D (DiskAt d') hN hS hto.chg (fun k o h1 => .inr h1) him (fun g hg => by simp at hg; rcases hg with rfl | rfl | rfl <;> exact .inl rfl) (fun k o hk => ⟨hto.inD k o hk, hto.at'.there hk⟩) DiskAt.loc hto.at' rfl rfl ?_
  show X (mkE Try.prog Try.f20 Q w d.D im d'.D (DiskAt d') [] B20) _ _
  have hb := hto.b
  have hy := hto.y
  have hp := hto.p
  clear ha he hS hN hto
  obtain ⟨e1, e2, e3, e4, e5, e6, e7⟩ := h.r.e
  refine X.go T20_ok 400 _ rfl Try.results20 ?_
  conv => arg 2; cbv
  refine X.done T20_ok rfl (fun N w' v hN hS hv => ?_)
  simp only [resV, SV.den, SV.denL, SI.den, SB.den, Option.some.injEq] at hv
  rw [hQ]
  refine ⟨⟨d1, d2, kp, kn, kc, wp, wn, wc, off, fl, ((SI.v ei).mx (SI.lit 0)).den⟩, d', Mo, ?_, ⟨hb, hy, hp, hS.res, hS.chg, hin⟩, ⟨⟨e1, e2, e3, e4, e5, e6, ?_⟩, h.r.kp, h.r.wp⟩, fun _ _ _ h1 => h1, fun k o v h1 => hS.imm _ _ _ (hMi _ _ _ h1), hmd', fun _ _ _ h1 => .inl h1⟩
  · rw [← hv]
    simp [DC.vals, SI.den]
  · show ((SI.v ei).mx (SI.lit 0)).den = if ei < 0 then 0 else ei
    simp only [SI.den]
    by_cases hn : ei < 0 <;> simp [hn]
set_option maxHeartbeats 8000000 in
set_option maxRecDepth 100000 in
set_option cbv.maxSteps 100000000 in
theorem does4_ok {B : Nat} {Mo : Mem} {s : Sec} {d : Dk} {dc : DC} {w : World} (h : DoesAt B Mo s d dc w) (e : SStep) (hk : e.kd = 4) :
    Calls Try.prog 20 #[.pointer (some ⟨d.b, d.y, none⟩), .agg dc.vals.toArray, .agg e.vals.toArray] w (DoesRet B Mo (s.fall) d w) := by
  obtain ⟨Q, hQ⟩ : ∃ Q : Ending → World → Prop, Q = DoesRet B Mo (s.fall) d w := ⟨_, rfl⟩
  rw [← hQ]
  obtain ⟨kd, ei, eat, bp, bn, bc, torn, eby, eg⟩ := e
  simp only at hk
  subst hk
  try simp only at hQ
  obtain ⟨d1, d2, kp, kn, kc, wp, wn, wc, off, fl, fu⟩ := dc
  refine X.beginR d.D (DiskAt d) (ss := [.ext d.b d.y 0, .agg (DC.svs ⟨d1, d2, kp, kn, kc, wp, wn, wc, off, fl, fu⟩), .agg [.int .i64 (.lit 4), .int .i64 (.v ei), .int .i64 (.v eat), .slv bp bn bc, .bool (.v torn), .int .u8 (.v eby)]]) Try.func20 rfl B20_ok rfl rfl (fun k o h1 => h.at'.there h1) DiskAt.loc h.at' ?_
  obtain ⟨im, hime⟩ : ∃ im, im = outside d.D w := ⟨_, rfl⟩
  have him : ∀ k o, d.D k o → im k o = none := fun k o h1 => by rw [hime]; exact outside_in h1
  have hMi : ∀ k o v, Mo k o = some v → im k o = some v := fun k o v h1 => by
    rw [hime, outside_out (fun h2 => by rw [h.md k o h2] at h1; cases h1)]; exact h.mo k o v h1
  have hwi : ∀ k o v, ¬ d.D k o → w.cell? ⟨k, o, none⟩ = some v → im k o = some v := fun k o v h1 h2 => by rw [hime, outside_out h1]; exact h2
  show X (mkE Try.prog Try.f20 Q w d.D (outside d.D w) d.D (DiskAt d) [] B20) _ _
  rw [← hime]
  clear hime
  refine X.go T20_ok 400 _ rfl Try.results20 ?_
  conv => arg 2; cbv
  refine X.call rfl rfl rfl rfl Try.call26 (fun N w1 args hN hS ha => ?_)
  obtain rfl := args_eq (vs := [.pointer (some ⟨d.b, d.y, none⟩)]) rfl ha
  refine (g_fall h.p w1 hS.res).mono fun e w2 ⟨he, d', hto⟩ => ⟨_, he, ?_⟩
  have hws : w.heap.size ≤ w1.heap.size := hS.chg.size
  have hmd' := h.md2 hws hto
  have hin : ∀ k o, d'.D k o → d.D k o ∨ w.heap.size ≤ k := fun k o hk => (hto.inD k o hk).imp id fun h1 => by omega
  refine Goes.turn (r := .tup []) d'.D (DiskAt d') hN hS hto.chg (fun k o h1 => .inr h1) him (fun g hg => by simp at hg; rcases hg with rfl | rfl | rfl <;> exact .inl rfl) (fun k o hk => ⟨hto.inD k o hk, hto.at'.there hk⟩) DiskAt.loc hto.at' rfl rfl ?_
  show X (mkE Try.prog Try.f20 Q w d.D im d'.D (DiskAt d') [] B20) _ _
  have hb := hto.b
  have hy := hto.y
  have hp := hto.p
  clear ha he hS hN hto
  have hr : RDC Mo s.fall.rd _ := h.r.fall
  refine X.go T20_ok 400 _ rfl Try.results20 ?_
  conv => arg 2; cbv
  refine X.cond rfl (fun h1 => ?_) (fun h1 => ?_)
  · have h1 : off = false := by simpa [SB.T, SB.F] using h1
    subst h1
    refine X.go T20_ok 400 _ rfl Try.results20 ?_
    conv => arg 2; cbv
    refine X.done T20_ok rfl (fun N w' v hN hS hv => ?_)
    simp only [resV, SV.den, SV.denL, SI.den, SB.den, Option.some.injEq] at hv
    rw [hQ]
    refine ⟨⟨d1, d2, kp, kn, kc, wp, wn, wc, true, IntKind.u64.wrap (fl + 1), fu⟩, d', Mo, ?_, ⟨hb, hy, hp, hS.res, hS.chg, hin⟩, hr, fun _ _ _ h1 => h1, fun k o v h1 => hS.imm _ _ _ (hMi _ _ _ h1), hmd', fun _ _ _ h1 => .inl h1⟩
    rw [← hv]
    simp [DC.vals]
  · have h1 : off = true := by simpa [SB.T, SB.F] using h1
    subst h1
    refine X.go T20_ok 400 _ rfl Try.results20 ?_
    conv => arg 2; cbv
    refine X.done T20_ok rfl (fun N w' v hN hS hv => ?_)
    simp only [resV, SV.den, SV.denL, SI.den, SB.den, Option.some.injEq] at hv
    rw [hQ]
    refine ⟨⟨d1, d2, kp, kn, kc, wp, wn, wc, true, fl, fu⟩, d', Mo, ?_, ⟨hb, hy, hp, hS.res, hS.chg, hin⟩, hr, fun _ _ _ h1 => h1, fun k o v h1 => hS.imm _ _ _ (hMi _ _ _ h1), hmd', fun _ _ _ h1 => .inl h1⟩
    rw [← hv]
    simp [DC.vals]
end Go.Proofs.Ytkjhpaeminegoaa

namespace Go.Eng
open Go
theorem vk_strSlv {E : Env} {N0 : Nums} {rg : List Rg} {f : Fr} {g : GK} {src e dst : TypeId} {x : Operand} {n cp : Nat} {p : Option Addr} {G : Nat → Int} {u : ByteArray} (hu : u = Go.Proofs.Ytkjhpaeminegoaa.strG G n) (hx : evK f g x = some (.slv p n cp)) (hp : 0 < n → ∃ b y, p = some ⟨b, y, none⟩ ∧ ∀ j, j < n → E.im b (y + j) = some (.int .u8 (G j)))
    (hs : E.P.underlying src = some (.slice e)) (he : E.P.underlying e = some (.int .u8)) (hd : E.P.underlying dst = some .string) : ValOk E N0 rg f g (.convert src dst x) (.raw (.string u)) := by
  subst hu
  intro ht N ρ o w hN0 hop hρ hV
  have h1 := hρ _ _ hx
  simp only [SV.den, Option.some.injEq] at h1
  refine ⟨.string (Go.Proofs.Ytkjhpaeminegoaa.strG G n), by simp [SV.den, one?], fun w' hV' => ?_⟩
  have hrun : (convert src dst (.slice p n cp)).run E.P w' = .ok (.string (Go.Proofs.Ytkjhpaeminegoaa.strG G n)) w' := by
    by_cases h0 : n = 0
    · subst h0
      rw [run_convert_bytes_string w' src dst e _ 0 cp hs he hd]
      cases p <;> simp [Conv.bytesToString, loadCells] <;> rfl
    · obtain ⟨b, y, rfl, hc⟩ := hp (by omega)
      exact run_convert_bytes_arg (P := E.P) (w := w') src e hs he b y n cp ((List.range n).map G) (by simp) (fun j hj => by
        rw [hV'.2 _ _ _ (hc j hj)]
        simp [List.getD, List.getElem?_map, List.getElem?_range hj]) dst hd
  simp only [execOp, hop, ← h1, hrun, Sem.run_bind, Result.andThen, Sem.run_pure]
theorem vk_strNil {E : Env} {N0 : Nums} {rg : List Rg} {f : Fr} {g : GK} {src e dst : TypeId} {x : Operand} {u : ByteArray} (hu : u = ByteArray.empty) (hx : evK f g x = some (.raw (.slice none 0 0)))
    (hs : E.P.underlying src = some (.slice e)) (he : E.P.underlying e = some (.int .u8)) (hd : E.P.underlying dst = some .string) : ValOk E N0 rg f g (.convert src dst x) (.raw (.string u)) := by
  intro ht N ρ o w hN0 hop hρ hV
  have h1 := hρ _ _ hx
  simp only [SV.den, one?, if_true, Option.some.injEq] at h1
  refine ⟨.string u, by simp [SV.den, one?], fun w' _ => ?_⟩
  have hrun := run_convert_bytes_nil (P := E.P) w' src e hs he 0 0 dst hd
  rw [← hu] at hrun
  simp only [execOp, hop, ← h1, hrun, Sem.run_bind, Result.andThen, Sem.run_pure]
theorem vk_eqs {E : Env} {N0 : Nums} {rg : List Rg} {f : Fr} {g : GK} {t : TypeId} {x y : Operand} {u v : ByteArray} (hx : evK f g x = some (.raw (.string u))) (hy : evK f g y = some (.raw (.string v))) (hb : u = v) :
    ValOk E N0 rg f g (.binOp .eql t x y t) (.bool (.lit true)) := by
  intro ht N ρ o w0 hN0 hop hρ hV
  have h1 := hρ _ _ hx
  have h2 := hρ _ _ hy
  simp only [SV.den, one?, if_true, Option.some.injEq] at h1 h2
  subst hb
  refine ⟨_, rfl, fun w' _ => ?_⟩
  have hb' : ∀ w', (binOp .eql t (.string u) (.string u)).run E.P w' = .ok (.bool true) w' := fun w' => by
    simp [binOp, Op.stringOp]
  simp [execOp, hop, ← h1, ← h2, Result.andThen, eqGuard_none, hb', SB.den]
theorem vk_app0 {E : Env} {N0 : Nums} {T : Tab} (hT : TabOk E.P T) {rg : List Rg} {f : Fr} {gk : GK} {x y : Operand} {ts tx e e' r c kk : Nat} {te : TI} {p : Option Addr} {g : Rg} (hx : evK f gk x = some (.osl r 0 0 te.size (some kk))) (hy : evK f gk y = some (.slv p 0 c)) (hr : rg[r]? = some g)
    (hu : E.P.underlying ts = some (.slice e)) (hu2 : E.P.underlying tx = some (.slice e')) (hte : lookT T e = some te) :
    ValOk E N0 rg f gk (.call { callee := .builtin .append, args := #[x, y], argTypes := #[ts, tx] }) (.osl r 0 0 te.size (some kk)) := by
  intro _ N ρ o w hN hop hρ hV
  have h1 := hρ _ _ hx
  have h2 := hρ _ _ hy
  obtain ⟨q, hq⟩ : ∃ q, N[r]? = some q := ⟨_, List.getElem?_eq_getElem (Nat.lt_of_lt_of_le (List.getElem?_eq_some_iff.1 hr).1 hV.1.len)⟩
  obtain ⟨i, hi, hib⟩ := (hT.ok e te hte).info
  simp only [SV.den, hq, Num.cap, Option.some.injEq] at h1 h2
  refine ⟨.slice (some ⟨q.b, q.o + 0, none⟩) 0 kk, by simp only [SV.den, hq, Num.cap], fun w' _ => ?_⟩
  cases p with
  | none => simp [execOp, hop, resolve, invoke, builtin, ← h1, ← h2, Builtin.append_, run_underlying hu, run_underlying hu2, sizeOf, typeInfo, hi, Builtin.lenOf, Builtin.firstCells, loadCells, loadCellsFrom, storeCells, Result.andThen]
  | some a => simp [execOp, hop, resolve, invoke, builtin, ← h1, ← h2, Builtin.append_, run_underlying hu, run_underlying hu2, sizeOf, typeInfo, hi, Builtin.lenOf, Builtin.firstCells, loadCells, loadCellsFrom, storeCells, Result.andThen]
end Go.Eng
namespace Go.Proofs.Ytkjhpaeminegoaa
open Go Go.Eng
theorem rd_read {M : Mem} {s : Sec} {dc : DC} (h : RDC M s.rd dc) (i : Int) : readR dc s.rd.kept s.rd.ws i = if s.off = true then (ByteArray.empty, 8) else if ¬ s.has i then (ByteArray.empty, 6) else (strG (foldW s.st s.l i) s.size, 0) := by
  obtain ⟨e1, e2, e3, e4, e5, e6, e7⟩ := h.e
  have e2 : dc.count = s.count := e2
  unfold readR
  rw [e5, e2]
  have e5 : s.rd.off = s.off := rfl
  rw [e5]
  split
  · rfl
  · have hh : (i < 0 ∨ (s.count : Int) ≤ i) ↔ ¬ s.has i := by unfold Sec.has; omega
    by_cases hi : s.has i
    · rw [if_neg (by rw [hh]; exact fun h => h hi), if_neg (by exact fun h => h hi)]
      have hi2 := hi
      unfold Sec.has at hi2
      have hk : s.rd.kept[i.toNat]? = some (strG (s.st i) s.size) := by
        show (keptS s.size s.count s.st)[i.toNat]? = _
        rw [keptS_get (by omega), show ((i.toNat : Nat) : Int) = i by omega]
      rw [hk, rd_ws_len]
      have := lastW_fold (size := s.size) s.st s.l i s.l.length (Nat.le_refl _)
      rw [List.take_length] at this
      show (lastW (wsS s.size s.l) i (strG (s.st i) s.size) s.l.length, (0 : Int)) = _
      rw [this]
    · rw [if_pos (hh.2 hi), if_pos hi]
set_option maxHeartbeats 8000000 in
set_option maxRecDepth 100000 in
set_option cbv.maxSteps 100000000 in
theorem does0_ok {B : Nat} {Mo : Mem} {s : Sec} {d : Dk} {dc : DC} {w : World} (h : DoesAt B Mo s d dc w) (e : SStep) (hk : e.kd = 0) :
    Calls Try.prog 20 #[.pointer (some ⟨d.b, d.y, none⟩), .agg dc.vals.toArray, .agg e.vals.toArray] w (DoesRet B Mo (s) d w) := by
  obtain ⟨Q, hQ⟩ : ∃ Q : Ending → World → Prop, Q = DoesRet B Mo (s) d w := ⟨_, rfl⟩
  rw [← hQ]
  obtain ⟨kd, ei, eat, bp, bn, bc, torn, eby, eg⟩ := e
  simp only at hk
  subst hk
  try simp only at hQ
  obtain ⟨d1, d2, kp, kn, kc, wp, wn, wc, off, fl, fu⟩ := dc
  refine X.beginR d.D (DiskAt d) (ss := [.ext d.b d.y 0, .agg (DC.svs ⟨d1, d2, kp, kn, kc, wp, wn, wc, off, fl, fu⟩), .agg [.int .i64 (.lit 0), .int .i64 (.v ei), .int .i64 (.v eat), .slv bp bn bc, .bool (.v torn), .int .u8 (.v eby)]]) Try.func20 rfl B20_ok rfl rfl (fun k o h1 => h.at'.there h1) DiskAt.loc h.at' ?_
  obtain ⟨im, hime⟩ : ∃ im, im = outside d.D w := ⟨_, rfl⟩
  have him : ∀ k o, d.D k o → im k o = none := fun k o h1 => by rw [hime]; exact outside_in h1
  have hMi : ∀ k o v, Mo k o = some v → im k o = some v := fun k o v h1 => by
    rw [hime, outside_out (fun h2 => by rw [h.md k o h2] at h1; cases h1)]; exact h.mo k o v h1
  have hwi : ∀ k o v, ¬ d.D k o → w.cell? ⟨k, o, none⟩ = some v → im k o = some v := fun k o v h1 h2 => by rw [hime, outside_out h1]; exact h2
  show X (mkE Try.prog Try.f20 Q w d.D (outside d.D w) d.D (DiskAt d) [] B20) _ _
  rw [← hime]
  clear hime
  obtain ⟨e1, e2, e3, e4, e5, e6, e7⟩ := h.r.e
  have hcl := h.ct
  have hll := h.len
  have hsz := h.sz
  have hdo : d.h.off = s.off := by rw [← h.p.e]; rfl
  have hdz : d.h.size = s.size := by rw [← h.p.e]; rfl
  have hrr := rd_read h.r ei
  have hread : ∀ w1 : World, (∀ k o v, im k o = some v → w1.cell? ⟨k, o, none⟩ = some v) → Calls Try.prog 45 #[.agg (DC.vals ⟨d1, d2, kp, kn, kc, wp, wn, wc, off, fl, fu⟩).toArray, .int .i64 ei] w1 fun e w' => e = .returned (.tuple #[.string (if s.off = true then (ByteArray.empty, (8 : Int)) else if ¬ s.has ei then (ByteArray.empty, 6) else (strG (foldW s.st s.l ei) s.size, 0)).1, .int .i64 (if s.off = true then (ByteArray.empty, (8 : Int)) else if ¬ s.has ei then (ByteArray.empty, 6) else (strG (foldW s.st s.l ei) s.size, 0)).2]) ∧ Chg (fun _ _ => False) w1 w' := fun w1 h1 => by
    have hm := h.r.mono (M' := wm w1) fun k o v hk => h1 _ _ _ (hMi _ _ _ hk)
    have := rread_ok ⟨d1, d2, kp, kn, kc, wp, wn, wc, off, fl, fu⟩ s.rd.kept s.rd.ws ei w1 hm.kp e3 hm.wp e4 (by rw [rd_kept_len]; exact e2)
    rw [hrr] at this
    exact this
  refine X.go T20_ok 400 _ rfl Try.results20 ?_
  conv => arg 2; cbv
  refine X.call rfl rfl rfl rfl Try.call15 (fun N w1 args hN hS ha => ?_)
  obtain rfl := args_eq (vs := [.pointer (some ⟨d.b, d.y, none⟩), .int .i64 ei]) rfl ha
  by_cases hg : s.off = false ∧ s.has ei
  · obtain ⟨h1, h2⟩ := hg
    rw [if_neg (by rw [h1]; simp), if_neg (by exact fun h => h h2)] at hread
    simp only at hread
    have hrd := read_ok d ei w1 hS.res h.p.ok.toOk0 (by rw [hdo, h1]) ((h.p.has ei).2 h2)
    rw [h.p.rd, hdz] at hrd
    refine hrd.mono fun e w2 hr => Goes.read (by omega) hN hS hr rfl ?_
    clear hr hrd ha hS hN
    show X (mkE Try.prog Try.f20 Q w d.D im d.D (DiskAt d) [] B20) _ _
    obtain ⟨n, hn⟩ : ∃ n, n = s.size := ⟨_, rfl⟩
    obtain ⟨u, hu⟩ : ∃ u, u = strG (foldW s.st s.l ei) s.size := ⟨_, rfl⟩
    obtain ⟨bs, hbs⟩ : ∃ u, u = bytesL (foldW s.st s.l ei) s.size := ⟨_, rfl⟩
    rw [← hu] at hread
    rw [← hbs, ← hn]
    refine X.goX ([(38, .tup [.raw (.string u), .int .i64 (.lit 0)]), (42, .raw (.string u)), (44, .bool (.lit true))]) ([]) T20_ok 400 _ rfl Try.results20 (fun pr pe fin hpr hpe hfin => ?_)
    conv => cbv
    refine ⟨hpr _ (.of Try.call45 [.agg _, .int .i64 ei] (.tuple #[.string u, .int .i64 0]) (fun _ => rfl) (fun _ => rfl) fun _ w1 h1 => hread w1 h1), hpr _ (vk_strO (G := foldW s.st s.l ei) (n := n) (by rw [hn]; exact hu) rfl rfl (by rw [hn]; exact hbs) Try.underlying30 Try.underlying5 Try.underlying9), hpr _ (vk_eqs rfl rfl rfl), rfl, hfin _ _ ?_⟩
    clear hpr hpe hfin
    refine X.done T20_ok rfl (fun N w' v hN hS hv => ?_)
    simp only [resV, SV.den, SV.denL, SI.den, SB.den, Option.some.injEq] at hv
    rw [hQ]
    refine ⟨⟨d1, d2, kp, kn, kc, wp, wn, wc, off, fl, fu⟩, d, Mo, ?_, ⟨rfl, rfl, h.p, hS.res, hS.chg, fun _ _ h => .inl h⟩, h.r, fun _ _ _ h1 => h1, fun k o v h1 => hS.imm _ _ _ (hMi _ _ _ h1), h.md, fun _ _ _ h1 => .inl h1⟩
    rw [← hv]
    simp [DC.vals]
  · obtain ⟨c, hc⟩ : ∃ c : Int, c = if s.off = true then 8 else 6 := ⟨_, rfl⟩
    obtain ⟨u, hu⟩ : ∃ u, u = ByteArray.empty := ⟨_, rfl⟩
    have hread : ∀ w1 : World, (∀ k o v, im k o = some v → w1.cell? ⟨k, o, none⟩ = some v) → Calls Try.prog 45 #[.agg (DC.vals ⟨d1, d2, kp, kn, kc, wp, wn, wc, off, fl, fu⟩).toArray, .int .i64 ei] w1 fun e w' => e = .returned (.tuple #[.string u, .int .i64 c]) ∧ Chg (fun _ _ => False) w1 w' := fun w1 h1 => by
      have := hread w1 h1
      by_cases ho : s.off = true
      · simp only [if_pos ho] at this hc
        rw [hu, hc]; exact this
      · have hn : ¬ s.has ei := fun h2 => hg ⟨by simpa using ho, h2⟩
        simp only [if_neg ho, if_pos hn] at this hc
        rw [hu, hc]; exact this
    have hrd := read_err d.b d.y d.h ei w1 hS.res.hd (by
      rw [hdo, h.p.has]
      by_cases ho : s.off = true
      · exact .inl ho
      · exact .inr fun h2 => hg ⟨by simpa using ho, h2⟩)
    rw [hdo, ← hc] at hrd
    refine hrd.mono fun e w2 ⟨he, hch⟩ => ⟨_, he, Goes.same (r := .tup [.raw (.slice none 0 0), .int .i64 (.v c)]) hN hS hch rfl rfl ?_⟩
    clear hch he hrd ha hS hN
    show X (mkE Try.prog Try.f20 Q w d.D im d.D (DiskAt d) [] B20) _ _
    refine X.goX ([(38, .tup [.raw (.string u), .int .i64 (.v c)]), (42, .raw (.string u)), (44, .bool (.lit true))]) ([]) T20_ok 400 _ rfl Try.results20 (fun pr pe fin hpr hpe hfin => ?_)
    conv => cbv
    refine ⟨hpr _ (.of Try.call45 [.agg _, .int .i64 ei] (.tuple #[.string u, .int .i64 c]) (fun _ => rfl) (fun _ => rfl) fun _ w1 h1 => hread w1 h1), hpr _ (vk_strNil hu rfl Try.underlying30 Try.underlying5 Try.underlying9), hpr _ (vk_eqs rfl rfl rfl), rfl, hfin _ _ ?_⟩
    clear hpr hpe hfin
    refine X.done T20_ok rfl (fun N w' v hN hS hv => ?_)
    simp only [resV, SV.den, SV.denL, SI.den, SB.den, Option.some.injEq] at hv
    rw [hQ]
    refine ⟨⟨d1, d2, kp, kn, kc, wp, wn, wc, off, fl, fu⟩, d, Mo, ?_, ⟨rfl, rfl, h.p, hS.res, hS.chg, fun _ _ h => .inl h⟩, h.r, fun _ _ _ h1 => h1, fun k o v h1 => hS.imm _ _ _ (hMi _ _ _ h1), h.md, fun _ _ _ h1 => .inl h1⟩
    rw [← hv]
    simp [DC.vals]
set_option maxHeartbeats 8000000 in
set_option maxRecDepth 100000 in
set_option cbv.maxSteps 100000000 in
theorem does1_nil {B : Nat} {Mo : Mem} {s : Sec} {d : Dk} {dc : DC} {w : World} (h : DoesAt B Mo s d dc w) (e : SStep) (hk : e.kd = 1) (hb6 : e.bn ≤ 600) (hby : BytesIn e.bp e.bn e.g w) (hfar : 0 < e.bn → ∀ b y, e.bp = some ⟨b, y, none⟩ → b < B) (hgb : ∀ j, 0 ≤ e.g j ∧ e.g j < 256) (hz : e.bn = 0) :
    Calls Try.prog 20 #[.pointer (some ⟨d.b, d.y, none⟩), .agg dc.vals.toArray, .agg e.vals.toArray] w (DoesRet B Mo ((s.write e.i e.bn e.g).2) d w) := by
  obtain ⟨Q, hQ⟩ : ∃ Q : Ending → World → Prop, Q = DoesRet B Mo ((s.write e.i e.bn e.g).2) d w := ⟨_, rfl⟩
  rw [← hQ]
  obtain ⟨kd, ei, eat, bp, bn, bc, torn, eby, eg⟩ := e
  simp only at hk hb6 hby hfar hz hgb
  subst hk
  try simp only at hQ
  obtain ⟨d1, d2, kp, kn, kc, wp, wn, wc, off, fl, fu⟩ := dc
  refine X.beginR d.D (DiskAt d) (ss := [.ext d.b d.y 0, .agg (DC.svs ⟨d1, d2, kp, kn, kc, wp, wn, wc, off, fl, fu⟩), .agg [.int .i64 (.lit 1), .int .i64 (.v ei), .int .i64 (.v eat), .slv bp bn bc, .bool (.v torn), .int .u8 (.v eby)]]) Try.func20 rfl B20_ok rfl rfl (fun k o h1 => h.at'.there h1) DiskAt.loc h.at' ?_
  obtain ⟨im, hime⟩ : ∃ im, im = outside d.D w := ⟨_, rfl⟩
  have him : ∀ k o, d.D k o → im k o = none := fun k o h1 => by rw [hime]; exact outside_in h1
  have hMi : ∀ k o v, Mo k o = some v → im k o = some v := fun k o v h1 => by
    rw [hime, outside_out (fun h2 => by rw [h.md k o h2] at h1; cases h1)]; exact h.mo k o v h1
  have hwi : ∀ k o v, ¬ d.D k o → w.cell? ⟨k, o, none⟩ = some v → im k o = some v := fun k o v h1 h2 => by rw [hime, outside_out h1]; exact h2
  show X (mkE Try.prog Try.f20 Q w d.D (outside d.D w) d.D (DiskAt d) [] B20) _ _
  rw [← hime]
  clear hime
  subst hz
  refine X.goX ([(56, .osl 3 0 0 1 (some 0))]) ([]) T20_ok 400 _ rfl Try.results20 (fun pr pe fin hpr hpe hfin => ?_)
  conv => cbv
  refine ⟨hpr _ (vk_app0 (te := ti5) (g := ⟨true, [], none⟩) T20_ok rfl rfl rfl Try.underlying30 Try.underlying30 rfl), hfin _ _ ?_⟩
  clear hpr hpe hfin
  refine X.call rfl rfl rfl rfl Try.call13 (fun N w1 args hN hS ha => ?_)
  obtain ⟨q, hq⟩ : ∃ p, N[3]? = some p := ⟨_, List.getElem?_eq_getElem (by rw [hS.len]; show 3 < 4; omega)⟩
  obtain ⟨cp, hcp⟩ : ∃ c, c = 0 := ⟨_, rfl⟩
  have ha : args = [.pointer (some ⟨d.b, d.y, none⟩), .int .i64 ei, .slice (some ⟨q.b, q.o, none⟩) 0 cp] := by
    simp only [SV.denL, SV.den, SI.den, hq, Num.cap, Nat.add_zero, Nat.sub_zero, Nat.div_one, Option.some.injEq] at ha
    rw [hcp]
    exact ha.symm
  rw [ha]
  refine (g_write h.p ei (some ⟨q.b, q.o, none⟩) 0 cp eg w1 hS.res h.len (Nat.le_trans h.b hS.chg.size) (fun h0 => absurd h0 (Nat.lt_irrefl 0)) (fun h0 => absurd h0 (Nat.lt_irrefl 0))).mono fun e w2 ⟨he, d', hto⟩ => ⟨_, he, ?_⟩
  have hws : w.heap.size ≤ w1.heap.size := hS.chg.size
  have hmd' := h.md2 hws hto
  have hin : ∀ k o, d'.D k o → d.D k o ∨ w.heap.size ≤ k := fun k o hk => (hto.inD k o hk).imp id fun h1 => by omega
  refine Goes.turn (r := .int .i64 (.v (s.write ei 0 eg).1)) d'.D (DiskAt d') hN hS hto.chg (fun k o h1 => .inr h1) him (fun g hg => by simp at hg; rcases hg with rfl | rfl | rfl | rfl <;> exact .inl rfl) (fun k o hk => ⟨hto.inD k o hk, hto.at'.there hk⟩) DiskAt.loc hto.at' rfl rfl ?_
  show X (mkE Try.prog Try.f20 Q w d.D im d'.D (DiskAt d') [] B20) _ _
  obtain ⟨c, hc⟩ : ∃ c, c = (s.write ei 0 eg).1 := ⟨_, rfl⟩
  rw [← hc]
  have hb := hto.b
  have hy := hto.y
  have hp := hto.p
  clear ha he hS hN hto
  obtain ⟨u, hu⟩ : ∃ u, u = strG eg 0 := ⟨_, rfl⟩
  refine X.goX ([(68, .raw (.string u))]) ([]) T20_ok 400 _ rfl Try.results20 (fun pr pe fin hpr hpe hfin => ?_)
  conv => cbv
  refine ⟨hpr _ (vk_strSlv hu rfl (fun h0 => absurd h0 (Nat.lt_irrefl 0)) Try.underlying30 Try.underlying5 Try.underlying9), hfin _ _ ?_⟩
  clear hpr hpe hfin
  obtain ⟨e1, e2, e3, e4, e5, e6, e7⟩ := h.r.e
  have hcl := h.ct
  have hll := h.len
  have hsz := h.sz
  have hrd := rd_write h.ok (i := ei) (n := 0) hgb
  refine X.call rfl rfl rfl rfl Try.call46 (fun N w1 args hN hS ha => ?_)
  obtain rfl : args = [.agg (DC.vals ⟨d1, d2, kp, kn, kc, wp, wn, wc, off, fl, fu⟩).toArray, .int .i64 ei, .string u] := (Option.some.inj ha).symm
  refine (rwrite_ok s.rd ⟨d1, d2, kp, kn, kc, wp, wn, wc, off, fl, fu⟩ ei u Mo w1 (fun k o v h1 => hS.imm _ _ _ (hMi _ _ _ h1)) h.r (by rw [rd_ws_len]; omega)).mono fun e w2 hR => ?_
  rw [hu] at hR
  rw [hrd, ← hc] at hR
  obtain ⟨⟨⟨s1, s2, skp, skn, skc, swp, swn, swc, soff, sfl, sfu⟩, he, hmem⟩, hch⟩ := hR
  refine ⟨_, he, Goes.newMem hN hS hch (r := .tup [.int .i64 (.v c), .agg (DC.svs ⟨s1, s2, skp, skn, skc, swp, swn, swc, soff, sfl, sfu⟩)]) rfl rfl (fun hold hnew => ?_)⟩
  obtain ⟨Mo', hMo'⟩ : ∃ M, M = imNew Mo w1 w2 := ⟨_, rfl⟩
  have hm2 : ∀ k o v, im k o = some v → w2.cell? ⟨k, o, none⟩ = some v := (hS.after0 hch).imm
  have hm1 : ∀ k o v, Mo k o = some v → Mo' k o = some v := fun k o v h1 => by rw [hMo']; exact imNew_old h1
  have hrc : RDC Mo' ((s.write ei 0 eg).2).rd ⟨s1, s2, skp, skn, skc, swp, swn, swc, soff, sfl, sfu⟩ := hmem Mo' hm1 fun k o v hk h1 => by rw [hMo']; exact imNew_new (fun k o v h1 => hm2 _ _ _ (hMi _ _ _ h1)) hk h1
  have hmd2 : ∀ k o, d'.D k o → Mo' k o = none := fun k o hk => by rw [hMo']; exact imNew_none (hmd' k o hk) (hS.res.there hk).lt
  have hmi2 : ∀ k o v, Mo' k o = some v → imNew im w1 w2 k o = some v := fun k o v h1 => by rw [hMo'] at h1; exact imNew_le hMi hm2 k o v h1
  have hlo : ∀ k o v, Mo' k o = some v → Mo k o = some v ∨ w.heap.size ≤ k := fun k o v h1 => by rw [hMo'] at h1; exact (imNew_or h1).imp id fun h2 => Nat.le_trans hS.chg.size h2
  obtain ⟨im2, him2⟩ : ∃ im2, im2 = imNew im w1 w2 := ⟨_, rfl⟩
  show X (mkE Try.prog Try.f20 Q w d.D (imNew im w1 w2) d'.D (DiskAt d') [] B20) _ _
  rw [← him2] at hmi2 ⊢
  clear him2 hold hnew hch he ha hS hN hmem hMo' hm2
  refine X.goC .nil true T20_ok 400 _ rfl Try.results20 ?_
  conv => arg 2; cbv
  refine X.done T20_ok rfl (fun N w' v hN hS hv => ?_)
  simp only [resV, SV.den, SV.denL, SI.den, SB.den, Option.some.injEq] at hv
  rw [hQ]
  refine ⟨⟨s1, s2, skp, skn, skc, swp, swn, swc, soff, sfl, sfu⟩, d', Mo', ?_, ⟨hb, hy, hp, hS.res, hS.chg, hin⟩, hrc, hm1, fun k o v h1 => hS.imm _ _ _ (hmi2 _ _ _ h1), hmd2, hlo⟩
  rw [← hv]
  simp [DC.vals]
set_option maxHeartbeats 8000000 in
set_option maxRecDepth 100000 in
set_option cbv.maxSteps 100000000 in
theorem does1_some {B : Nat} {Mo : Mem} {s : Sec} {d : Dk} {dc : DC} {w : World} (h : DoesAt B Mo s d dc w) (e : SStep) (hk : e.kd = 1) (hb6 : e.bn ≤ 600) (hby : BytesIn e.bp e.bn e.g w) (hfar : 0 < e.bn → ∀ b y, e.bp = some ⟨b, y, none⟩ → b < B) (hgb : ∀ j, 0 ≤ e.g j ∧ e.g j < 256) (hz : 0 < e.bn) :
    Calls Try.prog 20 #[.pointer (some ⟨d.b, d.y, none⟩), .agg dc.vals.toArray, .agg e.vals.toArray] w (DoesRet B Mo ((s.write e.i e.bn e.g).2) d w) := by
  obtain ⟨Q, hQ⟩ : ∃ Q : Ending → World → Prop, Q = DoesRet B Mo ((s.write e.i e.bn e.g).2) d w := ⟨_, rfl⟩
  rw [← hQ]
  obtain ⟨kd, ei, eat, bp, bn, bc, torn, eby, eg⟩ := e
  simp only at hk hb6 hby hfar hz hgb
  subst hk
  try simp only at hQ
  obtain ⟨d1, d2, kp, kn, kc, wp, wn, wc, off, fl, fu⟩ := dc
  refine X.beginR d.D (DiskAt d) (ss := [.ext d.b d.y 0, .agg (DC.svs ⟨d1, d2, kp, kn, kc, wp, wn, wc, off, fl, fu⟩), .agg [.int .i64 (.lit 1), .int .i64 (.v ei), .int .i64 (.v eat), .slv bp bn bc, .bool (.v torn), .int .u8 (.v eby)]]) Try.func20 rfl B20_ok rfl rfl (fun k o h1 => h.at'.there h1) DiskAt.loc h.at' ?_
  obtain ⟨im, hime⟩ : ∃ im, im = outside d.D w := ⟨_, rfl⟩
  have him : ∀ k o, d.D k o → im k o = none := fun k o h1 => by rw [hime]; exact outside_in h1
  have hMi : ∀ k o v, Mo k o = some v → im k o = some v := fun k o v h1 => by
    rw [hime, outside_out (fun h2 => by rw [h.md k o h2] at h1; cases h1)]; exact h.mo k o v h1
  have hwi : ∀ k o v, ¬ d.D k o → w.cell? ⟨k, o, none⟩ = some v → im k o = some v := fun k o v h1 h2 => by rw [hime, outside_out h1]; exact h2
  show X (mkE Try.prog Try.f20 Q w d.D (outside d.D w) d.D (DiskAt d) [] B20) _ _
  rw [← hime]
  clear hime
  obtain ⟨b0, y0, hbp, hb0⟩ := hby hz
  have hnd : ∀ o, ¬ d.D b0 o := fun o ho => by
    have h1 := h.p.far _ _ ho
    have h2 := hfar hz b0 y0 hbp
    omega
  obtain ⟨bs, hbs⟩ : ∃ b, b = bytesL eg bn := ⟨_, rfl⟩
  have hbl : bs.length = bn := by rw [hbs, bytesL_len]
  refine X.see b0 y0 bs (fun j c hj => ?_) (by omega) (fun N1 hN1 hNl1 => ?_)
  · rw [hbs] at hj
    obtain ⟨hjl, rfl⟩ := bytesL_get _ _ _ _ hj
    exact ⟨.int .u8 (eg j), rfl, hwi _ _ _ (hnd _) (hb0 j hjl)⟩
  obtain rfl : N1 = [] := List.eq_nil_of_length_eq_zero hNl1
  show X (mkE Try.prog Try.f20 Q w d.D im d.D (DiskAt d) [⟨b0, y0, 0⟩] B20) _ _
  refine X.goX ([(55, .osl 0 0 bn 1 (some bc))]) ([(56, ⟨fun rg => .osl rg.length 0 bn 1 none, [], [⟨true, bs, none⟩]⟩)]) T20_ok 400 _ rfl Try.results20 (fun pr pe fin hpr hpe hfin => ?_)
  conv => cbv
  refine ⟨hpr _ ((vk_load1 (gg := ⟨true, [.int .i64 (.lit 1), .int .i64 (.v ei), .int .i64 (.v eat), .slv bp bn bc, .bool (.v torn), .int .u8 (.v eby)], none⟩) rfl Try.isAgg30 rfl rfl).convN fun N hN v h1 => ?_), hpe _ _ _ _ _ ?_, hfin _ _ ?_⟩
  · have := hN 0 _ rfl
    simp only [SV.den, Option.some.injEq] at h1
    simp [SV.den, this, Num.cap, ← h1, hbp]
  · refine EffOk.step T20_ok (stepE_append (te := ti5) (new := bs) (m := bn) rfl rfl rfl rfl rfl (appSrc_row (g := ⟨false, bs, none⟩) rfl rfl rfl (by show bs.length = bn * 1; omega)) (appV_new (te := ti5) rfl (by omega) (appOk_ok (by decide) rfl (by show bs.length = bn * 1; omega) (by rw [hbs]; exact bytesL_one _ _) (by show (2 * (0 + bn) + 256) * 1 ≤ _; omega) (by omega))))
  clear hpr hpe hfin
  refine X.drop 0 (by simp) ?_
  refine X.noNames ?_
  show X (mkE Try.prog Try.f20 Q w d.D im d.D (DiskAt d) [] B20) _ _
  refine X.call rfl rfl rfl rfl Try.call13 (fun N w1 args hN hS ha => ?_)
  obtain ⟨q, hq⟩ : ∃ p, N[5]? = some p := ⟨_, List.getElem?_eq_getElem (by rw [hS.len]; show 5 < 6; omega)⟩
  obtain ⟨cp, hcp⟩ : ∃ c, c = q.x := ⟨_, rfl⟩
  have ha : args = [.pointer (some ⟨d.b, d.y, none⟩), .int .i64 ei, .slice (some ⟨q.b, q.o, none⟩) bn cp] := by
    simp only [SV.denL, SV.den, SI.den, hq, Num.cap, Nat.add_zero, Nat.sub_zero, Nat.div_one, Option.some.injEq] at ha
    rw [hcp]
    exact ha.symm
  rw [ha]
  have hsrc : BytesIn (some ⟨q.b, q.o, none⟩) bn eg w1 := fun _ => ⟨q.b, q.o, rfl, fun j hj => by
    obtain ⟨v, k1, k2⟩ := hS.cell 5 _ q rfl hq j (.int .u8 (.v (eg j))) (by rw [hbs]; exact bytesL_at hj)
    rw [k2, ← k1]; rfl⟩
  have hqx : bs.length ≤ q.x := hS.ext 5 ⟨true, bs, none⟩ q rfl hq rfl
  have hqb : w.heap.size ≤ q.b := by
    rcases hS.foot 5 ⟨true, bs, none⟩ q rfl hq rfl with h1 | h1
    · exact h1
    · exact absurd (h1 0 (by omega)) (hS.dd 5 ⟨true, bs, none⟩ q rfl hq rfl 0 (by omega))
  have hfr : 0 < bn → ∀ b y, (some ⟨q.b, q.o, none⟩ : Option Addr) = some ⟨b, y, none⟩ → ∀ o, ¬ d.D b o := fun _ b y h1 o h2 => by
    cases h1
    have := (h.at'.there h2).lt
    omega
  refine (g_write h.p ei (some ⟨q.b, q.o, none⟩) bn cp eg w1 hS.res h.len (Nat.le_trans h.b hS.chg.size) hsrc hfr).mono fun e w2 ⟨he, d', hto⟩ => ⟨_, he, ?_⟩
  have hws : w.heap.size ≤ w1.heap.size := hS.chg.size
  have hmd' := h.md2 hws hto
  have hin : ∀ k o, d'.D k o → d.D k o ∨ w.heap.size ≤ k := fun k o hk => (hto.inD k o hk).imp id fun h1 => by omega
  refine Goes.turn (r := .int .i64 (.v (s.write ei bn eg).1)) d'.D (DiskAt d') hN hS hto.chg (fun k o h1 => .inr h1) him (fun g hg => by simp at hg; rcases hg with rfl | rfl | rfl | rfl | rfl | rfl <;> first | exact .inl rfl | exact .inr rfl) (fun k o hk => ⟨hto.inD k o hk, hto.at'.there hk⟩) DiskAt.loc hto.at' rfl rfl ?_
  show X (mkE Try.prog Try.f20 Q w d.D im d'.D (DiskAt d') [] B20) _ _
  obtain ⟨c, hc⟩ : ∃ c, c = (s.write ei bn eg).1 := ⟨_, rfl⟩
  rw [← hc]
  have hb := hto.b
  have hy := hto.y
  have hp := hto.p
  clear ha he hS hN hto
  obtain ⟨u, hu⟩ : ∃ u, u = strG eg bn := ⟨_, rfl⟩
  refine X.goX ([(68, .raw (.string u))]) ([]) T20_ok 400 _ rfl Try.results20 (fun pr pe fin hpr hpe hfin => ?_)
  conv => cbv
  refine ⟨hpr _ (vk_strSlv hu rfl (fun _ => ⟨b0, y0, hbp, fun j hj => hwi _ _ _ (hnd _) (hb0 j hj)⟩) Try.underlying30 Try.underlying5 Try.underlying9), hfin _ _ ?_⟩
  clear hpr hpe hfin
  obtain ⟨e1, e2, e3, e4, e5, e6, e7⟩ := h.r.e
  have hcl := h.ct
  have hll := h.len
  have hsz := h.sz
  have hrd := rd_write h.ok (i := ei) (n := bn) hgb
  refine X.call rfl rfl rfl rfl Try.call46 (fun N w1 args hN hS ha => ?_)
  obtain rfl : args = [.agg (DC.vals ⟨d1, d2, kp, kn, kc, wp, wn, wc, off, fl, fu⟩).toArray, .int .i64 ei, .string u] := (Option.some.inj ha).symm
  refine (rwrite_ok s.rd ⟨d1, d2, kp, kn, kc, wp, wn, wc, off, fl, fu⟩ ei u Mo w1 (fun k o v h1 => hS.imm _ _ _ (hMi _ _ _ h1)) h.r (by rw [rd_ws_len]; omega)).mono fun e w2 hR => ?_
  rw [hu] at hR
  rw [hrd, ← hc] at hR
  obtain ⟨⟨⟨s1, s2, skp, skn, skc, swp, swn, swc, soff, sfl, sfu⟩, he, hmem⟩, hch⟩ := hR
  refine ⟨_, he, Goes.newMem hN hS hch (r := .tup [.int .i64 (.v c), .agg (DC.svs ⟨s1, s2, skp, skn, skc, swp, swn, swc, soff, sfl, sfu⟩)]) rfl rfl (fun hold hnew => ?_)⟩
  obtain ⟨Mo', hMo'⟩ : ∃ M, M = imNew Mo w1 w2 := ⟨_, rfl⟩
  have hm2 : ∀ k o v, im k o = some v → w2.cell? ⟨k, o, none⟩ = some v := (hS.after0 hch).imm
  have hm1 : ∀ k o v, Mo k o = some v → Mo' k o = some v := fun k o v h1 => by rw [hMo']; exact imNew_old h1
  have hrc : RDC Mo' ((s.write ei bn eg).2).rd ⟨s1, s2, skp, skn, skc, swp, swn, swc, soff, sfl, sfu⟩ := hmem Mo' hm1 fun k o v hk h1 => by rw [hMo']; exact imNew_new (fun k o v h1 => hm2 _ _ _ (hMi _ _ _ h1)) hk h1
  have hmd2 : ∀ k o, d'.D k o → Mo' k o = none := fun k o hk => by rw [hMo']; exact imNew_none (hmd' k o hk) (hS.res.there hk).lt
  have hmi2 : ∀ k o v, Mo' k o = some v → imNew im w1 w2 k o = some v := fun k o v h1 => by rw [hMo'] at h1; exact imNew_le hMi hm2 k o v h1
  have hlo : ∀ k o v, Mo' k o = some v → Mo k o = some v ∨ w.heap.size ≤ k := fun k o v h1 => by rw [hMo'] at h1; exact (imNew_or h1).imp id fun h2 => Nat.le_trans hS.chg.size h2
  obtain ⟨im2, him2⟩ : ∃ im2, im2 = imNew im w1 w2 := ⟨_, rfl⟩
  show X (mkE Try.prog Try.f20 Q w d.D (imNew im w1 w2) d'.D (DiskAt d') [] B20) _ _
  rw [← him2] at hmi2 ⊢
  clear him2 hold hnew hch he ha hS hN hmem hMo' hm2
  refine X.go T20_ok 400 _ rfl Try.results20 ?_
  conv => arg 2; cbv
  obtain ⟨t, ht⟩ : ∃ t : Nat → List SV, t = fun i => List.replicate i (.int .u8 (.lit 99)) ++ bs.drop i := ⟨_, rfl⟩
  have ht0 : t 0 = bs := by rw [ht]; rfl
  have htl : ∀ i, i ≤ bn → (t i).length = bn := fun i hi => by rw [ht]; simp; omega
  have htb : ∀ i m, (t i).all (bd m) = true := fun i m => by
    rw [ht]
    refine List.all_eq_true.2 fun c hc => ?_
    rcases List.mem_append.1 hc with h1 | h1
    · rw [(List.mem_replicate.1 h1).2]; rfl
    · have := List.mem_of_mem_drop h1
      rw [hbs] at this
      obtain ⟨_, _, rfl⟩ := List.mem_map.1 this
      rfl
  have ht1 : ∀ i, i < bn → setRow (t i) i [.int .u8 (.lit 99)] = t (i + 1) := fun i hi => by
    rw [setRow_eq _ _ _ (by rw [htl i (by omega)]; omega), ht]
    simp only
    rw [List.take_append_of_le_length (by simp), List.replicate_succ']
    simp [List.drop_append, List.drop_drop]
  rw [← ht0]
  refine X.loop1 (fun i : {i : Nat // i ≤ bn} => ⟨[(12, .val (.osl 5 0 bn 1 none)), (13, .val (.int .i64 (.v c))), (14, .val (.int .i64 (.v c))), (15, .val (.own 6 0)), (7, .val (.own 3 0)), (16, .val (.int .i64 (.nat i.1)))], [⟨false, [], none⟩, ⟨true, DC.svs ⟨d1, d2, kp, kn, kc, wp, wn, wc, off, fl, fu⟩, none⟩, ⟨true, [.int .i64 (.lit 1), .int .i64 (.v ei), .int .i64 (.v eat), .slv bp bn bc, .bool (.v torn), .int .u8 (.v eby)], none⟩, ⟨true, [.int .i64 (.lit 0), .int .i64 (.lit 0), .raw (.slice none 0 0), .raw (.slice none 0 0), .bool (.lit false), .int .u64 (.lit 0), .int .i64 (.lit 0)], none⟩, ⟨true, [], none⟩, ⟨true, t i.1, none⟩, ⟨true, DC.svs ⟨s1, s2, skp, skn, skc, swp, swn, swc, soff, sfl, sfu⟩, none⟩]⟩) (fun i => bn - i.1) (fun N a w' hN hf hS => ⟨⟨0, Nat.zero_le _⟩, ?_⟩) (fun i q' hq' => ?_)
  · exact At.again hf hS (by repeat first | exact trivial | refine ⟨⟨_, rfl, .inl ⟨rfl, rfl⟩⟩, ?_⟩ | refine ⟨⟨_, rfl, .inr ⟨_, rfl, rfl⟩⟩, ?_⟩ | refine ⟨⟨_, rfl, .inr ⟨_, rfl, by simp (disch := omega) [SV.den, SI.den, wrapU, wrapD] <;> omega⟩⟩, ?_⟩) ⟨fun h => h, SubC.refl rfl, rfl, fun h => h, SubC.refl rfl, rfl, fun h => h, SubC.refl rfl, rfl, fun h => h, SubC.refl rfl, rfl, fun h => h, SubC.refl rfl, rfl, fun h => h, SubC.refl (htb _ _), rfl, fun h => h, SubC.refl rfl, rfl, trivial⟩
  obtain ⟨i, hi⟩ := i
  obtain ⟨ti, hti⟩ : ∃ x, x = t i := ⟨_, rfl⟩
  obtain ⟨tj, htj⟩ : ∃ x, x = t (i + 1) := ⟨_, rfl⟩
  show X (mkE Try.prog Try.f20 Q w d.D im2 d'.D (DiskAt d') [] B20) _ ⟨[(12, .val (.osl 5 0 bn 1 none)), (13, .val (.int .i64 (.v c))), (14, .val (.int .i64 (.v c))), (15, .val (.own 6 0)), (7, .val (.own 3 0)), (16, .val (.int .i64 (.nat i)))], [⟨false, [], none⟩, ⟨true, DC.svs ⟨d1, d2, kp, kn, kc, wp, wn, wc, off, fl, fu⟩, none⟩, ⟨true, [.int .i64 (.lit 1), .int .i64 (.v ei), .int .i64 (.v eat), .slv bp bn bc, .bool (.v torn), .int .u8 (.v eby)], none⟩, ⟨true, [.int .i64 (.lit 0), .int .i64 (.lit 0), .raw (.slice none 0 0), .raw (.slice none 0 0), .bool (.lit false), .int .u64 (.lit 0), .int .i64 (.lit 0)], none⟩, ⟨true, [], none⟩, ⟨true, t i, none⟩, ⟨true, DC.svs ⟨s1, s2, skp, skn, skc, swp, swn, swc, soff, sfl, sfu⟩, none⟩]⟩
  rw [← hti]
  refine X.go T20_ok 400 _ rfl Try.results20 ?_
  conv => arg 2; cbv
  refine X.cond rfl (fun hlt => ?_) (fun hge => ?_)
  · simp only [SB.T, SI.den, Int.ofNat_eq_natCast] at hlt
    have hlt : i < bn := by omega
    have htil := htl i (by omega)
    have ht1 := ht1 i hlt
    rw [← hti] at htil ht1
    rw [← htj] at ht1
    refine X.goX ([(80, .own 5 i)]) ([(1003, ⟨fun _ => .tup [], [(5, ⟨true, tj, none⟩)], []⟩)]) T20_ok 400 _ rfl Try.results20 (fun pr pe fin hpr hpe hfin => ?_)
    conv => cbv
    refine ⟨hpr _ (vk_osl (z := i) rfl (.inr (.inr ⟨none, rfl⟩)) rfl (fun _ => rfl) Try.underlying30 Try.sizeOf5 (fun _ => hlt) (Nat.mul_one _).symm (by simp)), hpe _ _ _ _ _ ?_, hfin _ _ ?_⟩
    · refine EffOk.step T20_ok ?_
      rw [stepE_store (v := .int .u8 (.lit 99)) (g := ⟨true, ti, none⟩) (ti := ti5) rfl rfl rfl rfl rfl rfl (by show i + 1 ≤ ti.length; omega) rfl]
      rw [← ht1]
      rfl
    clear hpr hpe hfin
    rw [htj]
    refine X.back (fun N a w' hN hf hS => hq' ⟨i + 1, by omega⟩ a w' (by simp only; omega) ?_)
    show At (mkE Try.prog Try.f20 Q w d.D im2 d'.D (DiskAt d') [] B20) ⟨[(12, .val (.osl 5 0 bn 1 none)), (13, .val (.int .i64 (.v c))), (14, .val (.int .i64 (.v c))), (15, .val (.own 6 0)), (7, .val (.own 3 0)), (16, .val (.int .i64 (.nat (i + 1))))], [⟨false, [], none⟩, ⟨true, DC.svs ⟨d1, d2, kp, kn, kc, wp, wn, wc, off, fl, fu⟩, none⟩, ⟨true, [.int .i64 (.lit 1), .int .i64 (.v ei), .int .i64 (.v eat), .slv bp bn bc, .bool (.v torn), .int .u8 (.v eby)], none⟩, ⟨true, [.int .i64 (.lit 0), .int .i64 (.lit 0), .raw (.slice none 0 0), .raw (.slice none 0 0), .bool (.lit false), .int .u64 (.lit 0), .int .i64 (.lit 0)], none⟩, ⟨true, [], none⟩, ⟨true, t (i + 1), none⟩, ⟨true, DC.svs ⟨s1, s2, skp, skn, skc, swp, swn, swc, soff, sfl, sfu⟩, none⟩]⟩ a w'
    exact At.again hf hS (by repeat first | exact trivial | refine ⟨⟨_, rfl, .inl ⟨rfl, rfl⟩⟩, ?_⟩ | refine ⟨⟨_, rfl, .inr ⟨_, rfl, rfl⟩⟩, ?_⟩ | refine ⟨⟨_, rfl, .inr ⟨_, rfl, by simp (disch := omega) [SV.den, SI.den, wrapU, wrapD] <;> omega⟩⟩, ?_⟩) ⟨fun h => h, SubC.refl rfl, rfl, fun h => h, SubC.refl rfl, rfl, fun h => h, SubC.refl rfl, rfl, fun h => h, SubC.refl rfl, rfl, fun h => h, SubC.refl rfl, rfl, fun h => h, SubC.refl (htb _ _), rfl, fun h => h, SubC.refl rfl, rfl, trivial⟩
  · simp only [SB.F, SI.den, Int.ofNat_eq_natCast] at hge
    obtain rfl : i = bn := by omega
    refine X.go T20_ok 400 _ rfl Try.results20 ?_
    conv => arg 2; cbv
    refine X.done T20_ok rfl (fun N w' v hN hS hv => ?_)
    simp only [resV, SV.den, SV.denL, SI.den, SB.den, Option.some.injEq] at hv
    rw [hQ]
    refine ⟨⟨s1, s2, skp, skn, skc, swp, swn, swc, soff, sfl, sfu⟩, d', Mo', ?_, ⟨hb, hy, hp, hS.res, hS.chg, hin⟩, hrc, hm1, fun k o v h1 => hS.imm _ _ _ (hmi2 _ _ _ h1), hmd2, hlo⟩
    rw [← hv]
    simp [DC.vals]
end Go.Proofs.Ytkjhpaeminegoaa

namespace Go.Proofs.Ytkjhpaeminegoaa
open Go Go.Eng
set_option maxHeartbeats 8000000 in
set_option maxRecDepth 100000 in
set_option cbv.maxSteps 100000000 in
theorem doesX_ok {B : Nat} {Mo : Mem} {s : Sec} {d : Dk} {dc : DC} {w : World} (h : DoesAt B Mo s d dc w) (e : SStep) (hk : e.kd < 0 ∨ 6 < e.kd) :
    Calls Try.prog 20 #[.pointer (some ⟨d.b, d.y, none⟩), .agg dc.vals.toArray, .agg e.vals.toArray] w (DoesRet B Mo (s) d w) := by
  obtain ⟨Q, hQ⟩ : ∃ Q : Ending → World → Prop, Q = DoesRet B Mo (s) d w := ⟨_, rfl⟩
  rw [← hQ]
  obtain ⟨kd, ei, eat, bp, bn, bc, torn, eby, eg⟩ := e
  simp only at hk
  try simp only at hQ
  obtain ⟨d1, d2, kp, kn, kc, wp, wn, wc, off, fl, fu⟩ := dc
  refine X.beginR d.D (DiskAt d) (ss := [.ext d.b d.y 0, .agg (DC.svs ⟨d1, d2, kp, kn, kc, wp, wn, wc, off, fl, fu⟩), .agg [.int .i64 (.v kd), .int .i64 (.v ei), .int .i64 (.v eat), .slv bp bn bc, .bool (.v torn), .int .u8 (.v eby)]]) Try.func20 rfl B20_ok rfl rfl (fun k o h1 => h.at'.there h1) DiskAt.loc h.at' ?_
  obtain ⟨im, hime⟩ : ∃ im, im = outside d.D w := ⟨_, rfl⟩
  have him : ∀ k o, d.D k o → im k o = none := fun k o h1 => by rw [hime]; exact outside_in h1
  have hMi : ∀ k o v, Mo k o = some v → im k o = some v := fun k o v h1 => by
    rw [hime, outside_out (fun h2 => by rw [h.md k o h2] at h1; cases h1)]; exact h.mo k o v h1
  have hwi : ∀ k o v, ¬ d.D k o → w.cell? ⟨k, o, none⟩ = some v → im k o = some v := fun k o v h1 h2 => by rw [hime, outside_out h1]; exact h2
  show X (mkE Try.prog Try.f20 Q w d.D (outside d.D w) d.D (DiskAt d) [] B20) _ _
  rw [← hime]
  clear hime
  refine X.go T20_ok 400 _ rfl Try.results20 ?_
  conv => arg 2; cbv
  refine X.cond rfl (fun h1 => ?_) (fun h1 => ?_)
  · exfalso
    simp only [SB.T, SB.F, SI.den] at h1
    omega
  clear h1
  refine X.go T20_ok 400 _ rfl Try.results20 ?_
  conv => arg 2; cbv
  refine X.cond rfl (fun h1 => ?_) (fun h1 => ?_)
  · exfalso
    simp only [SB.T, SB.F, SI.den] at h1
    omega
  clear h1
  refine X.go T20_ok 400 _ rfl Try.results20 ?_
  conv => arg 2; cbv
  refine X.cond rfl (fun h1 => ?_) (fun h1 => ?_)
  · exfalso
    simp only [SB.T, SB.F, SI.den] at h1
    omega
  clear h1
  refine X.go T20_ok 400 _ rfl Try.results20 ?_
  conv => arg 2; cbv
  refine X.cond rfl (fun h1 => ?_) (fun h1 => ?_)
  · exfalso
    simp only [SB.T, SB.F, SI.den] at h1
    omega
  clear h1
  refine X.go T20_ok 400 _ rfl Try.results20 ?_
  conv => arg 2; cbv
  refine X.cond rfl (fun h1 => ?_) (fun h1 => ?_)
  · exfalso
    simp only [SB.T, SB.F, SI.den] at h1
    omega
  clear h1
  refine X.go T20_ok 400 _ rfl Try.results20 ?_
  conv => arg 2; cbv
  refine X.cond rfl (fun h1 => ?_) (fun h1 => ?_)
  · exfalso
    simp only [SB.T, SB.F, SI.den] at h1
    omega
  clear h1
  refine X.go T20_ok 400 _ rfl Try.results20 ?_
  conv => arg 2; cbv
  refine X.cond rfl (fun h1 => ?_) (fun h1 => ?_)
  · exfalso
    simp only [SB.T, SB.F, SI.den] at h1
    omega
  clear h1
  refine X.go T20_ok 400 _ rfl Try.results20 ?_
  conv => arg 2; cbv
  refine X.done T20_ok rfl (fun N w' v hN hS hv => ?_)
  simp only [resV, SV.den, SV.denL, SI.den, SB.den, Option.some.injEq] at hv
  rw [hQ]
  refine ⟨⟨d1, d2, kp, kn, kc, wp, wn, wc, off, fl, fu⟩, d, Mo, ?_, ⟨rfl, rfl, h.p, hS.res, hS.chg, fun _ _ h => .inl h⟩, h.r, fun _ _ _ h1 => h1, fun k o v h1 => hS.imm _ _ _ (hMi _ _ _ h1), h.md, fun _ _ _ h1 => .inl h1⟩
  rw [← hv]
  simp [DC.vals]
theorem does_ok {B : Nat} {Mo : Mem} {s : Sec} {d : Dk} {dc : DC} {w : World} (h : DoesAt B Mo s d dc w) (e : SStep) (hb6 : e.bn ≤ 600) (hby : BytesIn e.bp e.bn e.g w) (hfar : 0 < e.bn → ∀ b y, e.bp = some ⟨b, y, none⟩ → b < B) (hgb : ∀ j, 0 ≤ e.g j ∧ e.g j < 256) :
    Calls Try.prog 20 #[.pointer (some ⟨d.b, d.y, none⟩), .agg dc.vals.toArray, .agg e.vals.toArray] w (DoesRet B Mo (s.does e) d w) := by
  unfold Sec.does
  by_cases h1 : e.kd = 1
  · rw [if_pos h1]
    by_cases h0 : e.bn = 0
    · exact does1_nil h e h1 hb6 hby hfar hgb h0
    · exact does1_some h e h1 hb6 hby hfar hgb (by omega)
  rw [if_neg h1]
  by_cases h2 : e.kd = 2
  · rw [if_pos h2]; exact does2_ok h e h2
  rw [if_neg h2]
  by_cases h3 : e.kd = 3
  · rw [if_pos h3]; exact does3_ok h e h3
  rw [if_neg h3]
  by_cases h4 : e.kd = 4
  · rw [if_pos h4]; exact does4_ok h e h4
  rw [if_neg h4]
  by_cases h5 : e.kd = 5
  · rw [if_pos h5]; exact does5_ok h e h5
  rw [if_neg h5]
  by_cases h6 : e.kd = 6
  · rw [if_pos h6]; exact does6_ok h e h6
  rw [if_neg h6]
  by_cases h7 : e.kd = 0
  · exact does0_ok h e h7
  · exact doesX_ok h e (by omega)
theorem Sec.Ok.lit {s : Sec} (ok : s.Ok) (n : Int) (hn : n ≤ 9223372036854775807) : (s.lit n).Ok := by
  refine ⟨ok.wi, fun _ => ?_, ok.by1, ok.by2⟩
  show 0 ≤ (if n < 0 then 0 else n) ∧ (if n < 0 then 0 else n) ≤ 9223372036854775807
  split <;> omega
theorem Sec.Ok.does {s : Sec} (ok : s.Ok) (e : SStep) (hi : e.i ≤ 9223372036854775807) (hgb : ∀ j, 0 ≤ e.g j ∧ e.g j < 256) : (s.does e).Ok := by
  unfold Sec.does
  split
  · exact ok.write hgb
  split
  · exact ok.sync
  split
  · exact ok.lit _ hi
  split
  · exact ok.fall
  split
  · exact ok.back _ _
  split
  · exact ok.spoil _ _ _ (fun a => xorB_byte a _)
  · exact ok
theorem Sec.burn_same (s : Sec) : s.burn.2.size = s.size ∧ s.burn.2.count = s.count ∧ s.burn.2.l = s.l := by
  unfold Sec.burn Sec.fall
  split
  · split <;> exact ⟨rfl, rfl, rfl⟩
  · exact ⟨rfl, rfl, rfl⟩
theorem Sec.does_same (s : Sec) (e : SStep) : (s.does e).size = s.size ∧ (s.does e).count = s.count ∧ (s.does e).l.length ≤ s.l.length + 1 := by
  unfold Sec.does
  split
  · unfold Sec.write
    split
    · exact ⟨rfl, rfl, by simp⟩
    split
    · exact ⟨rfl, rfl, by simp⟩
    split
    · exact ⟨rfl, rfl, by simp⟩
    · obtain ⟨h1, h2, h3⟩ := Sec.burn_same { s with l := s.l ++ [(e.i, e.g)] }
      exact ⟨h1, h2, by rw [h3]; simp⟩
  split
  · unfold Sec.sync
    obtain ⟨h1, h2, h3⟩ := Sec.burn_same s
    split
    · exact ⟨rfl, rfl, by simp⟩
    · cases s.burn.1
      · exact ⟨h1, h2, by simp⟩
      · exact ⟨h1, h2, by simp [h3]⟩
  split
  · exact ⟨rfl, rfl, by simp [Sec.lit]⟩
  split
  · exact ⟨rfl, rfl, by simp [Sec.fall]⟩
  split
  · exact ⟨rfl, rfl, by simp [Sec.back]⟩
  split
  · unfold Sec.spoil
    split <;> exact ⟨rfl, rfl, by simp⟩
  · exact ⟨rfl, rfl, by simp⟩
end Go.Proofs.Ytkjhpaeminegoaa

namespace Go.Eng
open Go
theorem wpF.weak {P : Program} {ops : Array Oper} {Q : Exit → Act → World → Prop} {S S' : Array Bool → World → Prop} (hS : ∀ L w, S L w → S' L w) : ∀ (m : Nat) (L : Array Bool) (a : Act) (w : World), wpF P ops Q S m L a w → wpF P ops Q S' m L a w
  | 0, _, _, _, h => h
  | m + 1, _, _, _, h => ⟨h.1, fun i hi => wpOp_mono (fun a' w' h' => ⟨hS _ _ h'.1, wpF.weak hS m _ a' w' h'.2⟩) (h.2 i hi)⟩
def anyH (pe : PE) (pr : Owe → Prop) (fin : St → Prop) (td : List (Nat × SV)) (tx : List (Nat × Ef)) (T : Tab) (n : Nat) (all : Array Oper) (K : KW) (rg : List Rg) (hz : Nat) (H : STree → St → Prop) : STree → St → Prop
  | .nil, s => fin s
  | .q i blk r, s => quietK K i = true ∧ match qP td T n all (maskRg (flatK (memB blk) K) rg 0) i s.fr with
    | some (f, o) => prL pr o (anyH pe pr fin td tx T n all K rg hz H r ⟨f, s.rg⟩)
    | none => False
  | .one i r, s => bif Nat.beq i hz then H r s else stepX pe pr td tx T n all K i (fun s' => anyH pe pr fin td tx T n all K rg hz H r s') s
  | .two i j x y, s => (bif Nat.beq i hz then H x s else stepX pe pr td tx T n all K i (fun s' => anyH pe pr fin td tx T n all K rg hz H x s') s) ∧ (bif Nat.beq j hz then H y s else stepX pe pr td tx T n all K j (fun s' => anyH pe pr fin td tx T n all K rg hz H y s') s)
theorem anyH_sound {E : Env} {T : Tab} (hT : TabOk E.P T) {td : List (Nat × SV)} {tx : List (Nat × Ef)} {all : Array Oper} (hsel : Region.noSelect all = true) {Q : Exit → Act → World → Prop} (hQ : PanicOk Q) {N0 : Nums} {K : KW} {rg : List Rg} {fin : St → Prop} {hz : Nat} {H : STree → St → Prop} {Nf : Nums} (wf : World) (hV : Vis Nf rg wf)
    (hH : ∀ (m : Nat) (listed : Array Bool) (r : STree) {s : St} {N : Nums} {a : Act} {w : World}, treeOk all r m (listed.setIfInBounds hz true) = true → hz ∈ Region.ready .any all listed → listed.size = all.size → H r s → Nf.le N → N0.le N → FrOk E.n N s.fr a → Sat E N s.rg w → Agree (wrL K (listed.setIfInBounds hz true)) rg s.rg → rg.length ≤ s.rg.length →
      wpOp E.P all Q hz (fun a' w' => VI E.im Nf (maskRg (wrL K (listed.setIfInBounds hz true)) rg 0) w' ∧ wpF E.P all Q (fun L => VI E.im Nf (maskRg (wrL K L) rg 0)) m (listed.setIfInBounds hz true) a' w') a w) : ∀ (t : STree) (m : Nat) (listed : Array Bool) {s : St} {N : Nums} {a : Act} {w : World},
    treeOk all t m listed = true → listed.size = all.size → anyH (EffOk E N0) (Owe.Ok E N0) fin td tx T E.n all K rg hz H t s → Nf.le N → N0.le N → FrOk E.n N s.fr a → Sat E N s.rg w → Agree (wrL K listed) rg s.rg → rg.length ≤ s.rg.length →
    (∀ s' N' a' w', fin s' → N.le N' → FrOk E.n N' s'.fr a' → Sat E N' s'.rg w' → Q .normal a' w') → wpF E.P all Q (fun L => VI E.im Nf (maskRg (wrL K L) rg 0)) m listed a w := by
  have emp : ∀ {l : List Nat}, l.isEmpty = true → l = [] := by intro l h; cases l <;> simp at h ⊢
  have see : ∀ (L : Array Bool) {N : Nums} {rg' : List Rg} {w : World}, Nf.le N → Agree (wrL K L) rg rg' → Sat E N rg' w → VI E.im Nf (maskRg (wrL K L) rg 0) w := fun L _ _ _ hN ha hS => ⟨vis_of_agree (hV.mask _) hN ha hS, hS.imm⟩
  -- one operation that is ready
  have step : ∀ (m : Nat) (listed : Array Bool) (i : Nat) (c : St → Prop) {s : St} {N : Nums} {a : Act} {w : World}, i ∈ Region.ready .any all listed → listed.size = all.size → stepX (EffOk E N0) (Owe.Ok E N0) td tx T E.n all K i c s → Nf.le N → N0.le N → FrOk E.n N s.fr a → Sat E N s.rg w → Agree (wrL K listed) rg s.rg → rg.length ≤ s.rg.length →
      (∀ s' N' a' w', c s' → N.le N' → FrOk E.n N' s'.fr a' → Sat E N' s'.rg w' → Agree (wrL K (listed.setIfInBounds i true)) rg s'.rg → rg.length ≤ s'.rg.length → wpF E.P all Q (fun L => VI E.im Nf (maskRg (wrL K L) rg 0)) m (listed.setIfInBounds i true) a' w') →
      wpOp E.P all Q i (fun a' w' => VI E.im Nf (maskRg (wrL K (listed.setIfInBounds i true)) rg 0) w' ∧ wpF E.P all Q (fun L => VI E.im Nf (maskRg (wrL K L) rg 0)) m (listed.setIfInBounds i true) a' w') a w := by
    intro m listed i c s N a w hrm hn hg hN hN0 hf hS ha hl hk
    have hlt : i < listed.size := by
      obtain ⟨_, o, ho, _⟩ := mem_ready.1 hrm
      rw [hn]; exact (Array.getElem?_eq_some_iff.1 ho).1
    have hset : (listed.setIfInBounds i true).getD i false = true := by simp [hlt]
    have grow : ∀ r, memN (wrL K listed) r = true → memN (wrL K (listed.setIfInBounds i true)) r = true := fun r h => by
      obtain ⟨p, h1, h2, h3⟩ := memN_flat.1 h
      refine memN_flat.2 ⟨p, h1, ?_, h3⟩
      by_cases e : i = p.1
      · rw [← e]; exact hset
      · rw [getD_set_ne false e]; exact h2
    have own : ∀ k, memN (lookK K i) k = true → memN (wrL K (listed.setIfInBounds i true)) k = true := fun k hk => by
      obtain ⟨p, h1, h2, h3⟩ := lookK_mem hk
      exact memN_flat.2 ⟨p, h1, by rw [h2]; exact hset, h3⟩
    have ha1 : Agree (wrL K (listed.setIfInBounds i true)) rg s.rg := ha.mono fun r hr => by
      cases hx : memN (wrL K listed) r with
      | true => rw [grow r hx] at hr; cases hr
      | false => rfl
    obtain ⟨_, o, ho, _⟩ := mem_ready.1 hrm
    unfold stepX at hg
    unfold wpOp
    simp only [ho]
    split at hg
    · rename_i f op e hq
      obtain ⟨hmk, hob, hg⟩ := hg
      obtain ⟨hw, hx⟩ := effQ_sound ho hq hob hN0 hf hS
      obtain ⟨hk1, hk2⟩ := e.keeps s.rg
      have ha2 : Agree (wrL K (listed.setIfInBounds i true)) rg (e.up s.rg) := fun r g hg hr => hk1 r g (ha1 r g hg hr) (allN_spec hmk r (by
        cases hx : memN (lookK K i) r with
        | true => rw [own r hx] at hr; cases hr
        | false => rfl))
      rw [hw, if_pos rfl]
      exact .inl (hx _ _ fun N' x w' hN' hf' hS' => ⟨see _ (hN.trans hN') ha2 hS', hk _ N' _ w' hg hN' hf' hS' ha2 (Nat.le_trans hl hk2)⟩)
    unfold stepT at hg
    split at hg
    · rename_i f ob hq
      obtain ⟨hob, hg⟩ := prL_spec hg
      obtain ⟨v, hv, hfr⟩ := qP_sound hT ho hq hob hN0 hf hS.vi
      have hnext := hk _ N _ w hg (Nums.le.refl N) hfr hS ha1 hl
      rcases hv with ⟨hw, hrun⟩ | ⟨hw, rfl⟩
      · rw [hw, if_pos rfl]
        exact .inl (wp_of_yields (.inl (hrun w hS.vi)) ⟨see _ hN ha1 hS, hnext⟩)
      · rw [hw]
        exact ⟨see _ hN ha1 hS, hnext⟩
    · split at hg
      · rename_i s1 he
        obtain ⟨hmk, hg2⟩ := hg
        obtain ⟨hw, N', x, w', hN', hy, hf', hS'⟩ := opE_sound hT (by simpa using ho) he hf hS
        have ha2 := stepE_agree (ks := wrL K (listed.setIfInBounds i true)) ha1 hl (by
          split
          · rename_i k hk'
            rw [hk'] at hmk
            exact own k hmk
          · rfl) he
        rw [hw, if_pos rfl]
        exact .inl (wp_of_yields hy ⟨see _ (hN.trans hN') ha2.1 hS', hk _ N' _ _ hg2 hN' hf' hS' ha2.1 ha2.2⟩)
      · split at hg
        · rename_i f gk g l v hpc
          obtain ⟨hob, hg⟩ := hg
          rcases pcall_sound ho hpc hob hN0 hf hS with ⟨hw, hx⟩ | ⟨hw, hf'⟩
          · rw [hw, if_pos rfl]
            exact .inl (hx _ _ fun x w' hf' hS' => ⟨see _ hN ha1 hS', hk _ N _ w' hg (Nums.le.refl N) hf' hS' ha1 hl⟩)
          · rw [hw]
            exact ⟨see _ hN ha1 hS, hk _ N _ w hg (Nums.le.refl N) hf' hS ha1 hl⟩
        · exact hg.elim
  have grow0 : ∀ (listed : Array Bool) (i : Nat), i < listed.size → ∀ r, memN (wrL K listed) r = true → memN (wrL K (listed.setIfInBounds i true)) r = true := fun listed i hlt r h => by
    obtain ⟨p, h1, h2, h3⟩ := memN_flat.1 h
    refine memN_flat.2 ⟨p, h1, ?_, h3⟩
    by_cases e : i = p.1
    · rw [← e]; simp [hlt]
    · rw [getD_set_ne false e]; exact h2
  have hand : ∀ (m : Nat) (listed : Array Bool) (i : Nat) (r : STree) (c : St → Prop) {s : St} {N : Nums} {a : Act} {w : World}, i ∈ Region.ready .any all listed → listed.size = all.size → treeOk all r m (listed.setIfInBounds i true) = true → (bif Nat.beq i hz then H r s else stepX (EffOk E N0) (Owe.Ok E N0) td tx T E.n all K i c s) → Nf.le N → N0.le N → FrOk E.n N s.fr a → Sat E N s.rg w → Agree (wrL K listed) rg s.rg → rg.length ≤ s.rg.length →
      (∀ s' N' a' w', c s' → N.le N' → FrOk E.n N' s'.fr a' → Sat E N' s'.rg w' → Agree (wrL K (listed.setIfInBounds i true)) rg s'.rg → rg.length ≤ s'.rg.length → wpF E.P all Q (fun L => VI E.im Nf (maskRg (wrL K L) rg 0)) m (listed.setIfInBounds i true) a' w') →
      wpOp E.P all Q i (fun a' w' => VI E.im Nf (maskRg (wrL K (listed.setIfInBounds i true)) rg 0) w' ∧ wpF E.P all Q (fun L => VI E.im Nf (maskRg (wrL K L) rg 0)) m (listed.setIfInBounds i true) a' w') a w := by
    intro m listed i r c s N a w hrm hn ht hg hN hN0 hf hS ha hl hk
    cases hb : Nat.beq i hz with
    | true =>
      rw [hb] at hg
      obtain rfl := Nat.eq_of_beq_eq_true hb
      have hlt : i < listed.size := by
        obtain ⟨_, o, ho, _⟩ := mem_ready.1 hrm
        rw [hn]; exact (Array.getElem?_eq_some_iff.1 ho).1
      exact hH m listed r ht hrm hn hg hN hN0 hf hS (ha.mono fun r hr => by
        cases hx : memN (wrL K listed) r with
        | true => rw [grow0 listed i hlt r hx] at hr; cases hr
        | false => rfl) hl
    | false =>
      rw [hb] at hg
      exact step m listed i c hrm hn hg hN hN0 hf hS ha hl hk
  intro t
  induction t with
  | nil =>
    intro m listed s N a w hs hn hg hN hN0 hf hS ha hl hk
    simp only [treeOk, Bool.and_eq_true] at hs
    obtain rfl := Nat.eq_of_beq_eq_true hs.1
    exact wpF.done (emp hs.2) (hk s N a w hg (Nums.le.refl N) hf hS)
  | q i blk r ih =>
    intro m listed s N a w hs hn hg hN hN0 hf hS ha hl hk
    cases m with
    | zero => simp [treeOk] at hs
    | succ m =>
      have hS0 := see listed hN ha hS
      simp only [treeOk, Bool.and_eq_true] at hs
      obtain ⟨⟨⟨⟨hr, hfree⟩, hclosed⟩, hwithin⟩, hs⟩ := hs
      simp only [anyH] at hg
      obtain ⟨hqk, hg⟩ := hg
      have hqk := quietK_spec hqk
      have hrm : i ∈ Region.ready .any all listed := by simpa using hr
      have hi0 : listed.getD i false = false := by
        have h1 := (mem_ready.1 hrm).1
        rcases Nat.lt_or_ge i listed.size with h' | h'
        · simp [h'] at h1 ⊢; exact h1
        · rw [Array.getD_eq_getD_getElem?, Array.getElem?_eq_none h']; rfl
      have same : ∀ (L : Array Bool) (r : Nat), memN (wrL K (L.setIfInBounds i true)) r = true ↔ memN (wrL K L) r = true := fun L r => by
        simp only [wrL, memN_flat]
        constructor
        · rintro ⟨p, h1, h2, h3⟩
          exact ⟨p, h1, by rwa [getD_set_ne false (fun e => hqk p h1 e.symm)] at h2, h3⟩
        · rintro ⟨p, h1, h2, h3⟩
          exact ⟨p, h1, by rwa [getD_set_ne false (fun e => hqk p h1 e.symm)], h3⟩
      split at hg
      · rename_i f ob hq
        obtain ⟨_, o, ho, _⟩ := mem_ready.1 hrm
        obtain ⟨hob, hg⟩ := prL_spec hg
        have wide : ∀ {L' : Array Bool} {w' : World}, Up all i listed L' → VI E.im Nf (maskRg (wrL K L') rg 0) w' → VI E.im Nf (maskRg (flatK (memB blk) K) rg 0) w' := fun hup hv =>
          ⟨hv.1.more fun r hr => by
            obtain ⟨p, h1, h2, h3⟩ := memN_flat.1 hr
            exact memN_flat.2 ⟨p, h1, (hup.within hclosed hn hi0 hwithin).2.2 _ h2, h3⟩, hv.2⟩
        obtain ⟨v, hv, hfr⟩ := qP_sound hT ho hq hob hN0 hf ((wide .here hS0).mono hN)
        refine wpF.take (S := fun L => VI E.im Nf (maskRg (wrL K L) rg 0)) ho hsel hfree hr (fun c a w h => hQ c a o.dst v w h) (fun L w => ⟨fun h => ⟨h.1.more fun r hr => (same L r).1 hr, h.2⟩, fun h => ⟨h.1.more fun r hr => (same L r).2 hr, h.2⟩⟩) ?_ hS0
          (ih m _ hs (by simpa using hn) hg hN hN0 hfr hS (fun r g hg hm => ha r g hg (by
            cases hx : memN (wrL K listed) r with
            | true => rw [(same listed r).2 hx] at hm; cases hm
            | false => rfl)) hl hk)
        rcases hv with ⟨hw, hrun⟩ | ⟨hw, rfl⟩
        · exact .inl ⟨hw, fun w ⟨L', hup, hw⟩ => hrun w ((wide hup hw).mono hN)⟩
        · exact .inr ⟨hw, rfl⟩
      · exact hg.elim
  | one i r ih =>
    intro m listed s N a w hs hn hg hN hN0 hf hS ha hl hk
    cases m with
    | zero => simp [treeOk] at hs
    | succ m =>
      simp only [treeOk, Bool.and_eq_true] at hs
      have hr := only_spec hs.1
      refine wpF.all hr (by simp) fun j hj => ?_
      simp only [List.mem_singleton] at hj; subst hj
      simp only [anyH] at hg
      refine hand m listed j _ _ (by rw [hr]; simp) hn hs.2 hg hN hN0 hf hS ha hl fun s' N' a' w' hc hN' hf' hS' ha' hl' => ?_
      exact ih m _ hs.2 (by simpa using hn) hc (hN.trans hN') (hN0.trans hN') hf' hS' ha' hl' fun s2 N2 a2 w2 h1 h2 => hk s2 N2 a2 w2 h1 (hN'.trans h2)
  | two i j x y ihx ihy =>
    intro m listed s N a w hs hn hg hN hN0 hf hS ha hl hk
    cases m with
    | zero => simp [treeOk] at hs
    | succ m =>
      simp only [treeOk, Bool.and_eq_true] at hs
      obtain ⟨⟨h2, hx⟩, hy⟩ := hs
      have hr := only2_spec h2
      have hmi : i ∈ Region.ready .any all listed := by rcases hr with h | h <;> rw [h] <;> simp
      have hmj : j ∈ Region.ready .any all listed := by rcases hr with h | h <;> rw [h] <;> simp
      simp only [anyH] at hg
      have si := hand m listed i _ _ hmi hn hx hg.1 hN hN0 hf hS ha hl fun s' N' a' w' hc hN' hf' hS' ha' hl' => ihx m _ hx (by simpa using hn) hc (hN.trans hN') (hN0.trans hN') hf' hS' ha' hl' fun s2 N2 a2 w2 h1 h2 => hk s2 N2 a2 w2 h1 (hN'.trans h2)
      have sj := hand m listed j _ _ hmj hn hy hg.2 hN hN0 hf hS ha hl fun s' N' a' w' hc hN' hf' hS' ha' hl' => ihy m _ hy (by simpa using hn) hc (hN.trans hN') (hN0.trans hN') hf' hS' ha' hl' fun s2 N2 a2 w2 h1 h2 => hk s2 N2 a2 w2 h1 (hN'.trans h2)
      rcases hr with h | h
      · exact wpF.all h (by simp) fun q hq => by
          simp only [List.mem_cons, List.not_mem_nil, or_false] at hq
          rcases hq with rfl | rfl
          · exact si
          · exact sj
      · exact wpF.all h (by simp) fun q hq => by
          simp only [List.mem_cons, List.not_mem_nil, or_false] at hq
          rcases hq with rfl | rfl
          · exact sj
          · exact si
def GoesT (E : Ctx) (k : List It) (td : List (Nat × SV)) (tx : List (Nat × Ef)) (T : Tab) (n : Nat) (all : Array Oper) (K : KW) (rg : List Rg) (r : STree) (N : Nums) (fr : Fr) (rg1 : List Rg) (d : Option Nat) (v : Value) (w' : World) : Prop :=
  ∃ (E' : Ctx) (rv : SV) (f' : Fr), E'.P = E.P ∧ E'.n = E.n ∧ E'.B = E.B ∧ E'.Q = E.Q ∧ (∀ k o v, E.im k o = some v → E'.im k o = some v) ∧ E'.N0.le N ∧ Sat E'.toEnv N rg1 w' ∧ rv.den N = some v ∧ putO n fr d (.val rv) = some f' ∧
    ∀ (pr : Owe → Prop) (pe : PE) (fin : St → Prop), (∀ q : Owe, q.Ok E'.toEnv E'.N0 → pr q) → (∀ rg f op r rg', EffOk E'.toEnv E'.N0 rg f op r rg' → pe rg f op r rg') → (∀ s', X E' k s' → fin s') → anyX pe pr fin td tx T n all K rg r ⟨f', rg1⟩
def HandC (E : Ctx) (k : List It) (td : List (Nat × SV)) (tx : List (Nat × Ef)) (T : Tab) (n : Nat) (all : Array Oper) (K : KW) (rg : List Rg) (hz : Nat) (r : STree) (s : St) : Prop :=
  ∃ (o : Oper) (g : FuncId) (xs : Array Operand) (ts : Array TypeId) (l : List SV), nth all.toList hz = some o ∧ o.guard = none ∧ o.op = .call { callee := .value (.func g), args := xs, argTypes := ts } ∧ evL s.fr xs.toList = some l ∧ (∀ args w, (callFunc g args).run E.P w = .ok (.enter g args) w) ∧
    ∀ (N : Nums) (w : World) (args : List Value), E.N0.le N → Sat E.toEnv N s.rg w → SV.denL N l = some args → Calls E.P g args.toArray w fun e w' => ∃ v, e = .returned v ∧ GoesT E k td tx T n all K rg r N s.fr s.rg o.dst v w'
theorem X.goH {P : Program} {fn : Func} {R : Ending → World → Prop} {W : World} {O : Nat → Nat → Prop} {im : Nat → Nat → Option Value} {D : Nat → Nat → Prop} {Rr : World → Prop} {N0 : Nums} {B : SchT} {T : Tab} (td : List (Nat × SV)) (tx : List (Nat × Ef)) (hT : TabOk P T) (t : STree) (n : Nat) (hz : Nat) (K : KW) {id : Nat} {ops : Array Oper} {k : List It} {s : St}
    (hn : fn.ntmps = n) (hsel : Region.noSelect ops = true) (ht : treeOk ops t ops.size (Array.replicate ops.size false) = true)
    (h : ∀ (pr : Owe → Prop) (pe : PE) (fin : St → Prop) (H : STree → St → Prop), (∀ q : Owe, q.Ok (mkE P fn R W O im D Rr N0 B).toEnv N0 → pr q) → (∀ rg f op r rg', EffOk (mkE P fn R W O im D Rr N0 B).toEnv N0 rg f op r rg' → pe rg f op r rg') → (∀ s', X (mkE P fn R W O im D Rr N0 B) k s' → fin s') →
      (∀ r s', HandC (mkE P fn R W O im D Rr N0 B) k td tx T n ops K s.rg hz r s' → H r s') → anyH pe pr fin td tx T n ops K s.rg hz H t s) : X (mkE P fn R W O im D Rr N0 B) (.code (.region id ops true) :: k) s := by
  subst hn
  intro N a w hN hf hS
  show _ → Code.wp _ _ _ _ _
  intro _
  have hg := h (Owe.Ok (mkE P fn R W O im D Rr N0 B).toEnv N0) (EffOk (mkE P fn R W O im D Rr N0 B).toEnv N0) (fun s' => X (mkE P fn R W O im D Rr N0 B) k s') (HandC (mkE P fn R W O im D Rr N0 B) k td tx T fn.ntmps ops K s.rg hz) (fun _ h => h) (fun _ _ _ _ _ h => h) (fun _ h => h) (fun _ _ h => h)
  have hS' : Sat (mkE P fn R W O im D Rr N0 B).toEnv N s.rg { w with drawn := w.drawn + 1 } := hS.drew
  have hQ := PanicOk.sem (P := P) (B := B) (Q := bodyPost P fn R) (fun _ _ d _ _ h => by cases d <;> exact h) k
  have hwf := anyH_sound (E := (mkE P fn R W O im D Rr N0 B).toEnv) (H := HandC (mkE P fn R W O im D Rr N0 B) k td tx T fn.ntmps ops K s.rg hz) hT hsel hQ _ hS'.vis (fun m listed r s1 N1 a1 w1 htr hrm hnl hh hNf hN1 hf1 hS1 ha1 hl1 => by
    obtain ⟨o, g, xs, ts, l, ho, hgd, hop, hl, hb, hc⟩ := hh
    have ho' : ops[hz]? = some o := by rw [nth_eq] at ho; simpa using ho
    have hargs := evL_sound hf1 _ hl
    have hc := hc N1 w1 _ hN1 hS1 hargs
    have hrun : (execOp a1.eval o).run P w1 = .ok (.enter g (xs.toList.map a1.eval).toArray) w1 := by
      simp only [execOp, hop, resolve, Act.eval, Deferred.ofValue, Sem.run_bind, Sem.run_pure, Result.andThen, invoke]
      rw [hb]
      congr 2
      apply Array.ext'
      simp
    unfold wpOp
    simp only [ho']
    have hw : Region.wanted o (yielded ops a1.tmps) = true := by simp [Region.wanted, hgd]
    rw [hw, if_pos rfl]
    refine .inl ?_
    unfold Oper.wp
    rw [hrun]
    refine Calls.mono hc fun e w' ⟨v, he, hv⟩ => ?_
    subst he
    obtain ⟨⟨⟨P2, n2, Q2, W2, O2, im2, D2, R2⟩, N2, B2⟩, rv, f', e1, e2, e3, e4, him, hN0', hS2, hr, hp, hx⟩ := hv
    change P2 = P at e1
    change n2 = fn.ntmps at e2
    change B2 = B at e3
    change Q2 = bodyPost P fn R at e4
    subst e1
    subst e2
    subst e3
    have hx := hx _ _ (fun s' => X ⟨⟨P2, fn.ntmps, Q2, W2, O2, im2, D2, R2⟩, N2, B2⟩ k s') (fun _ h => h) (fun _ _ _ _ _ h => h) (fun _ h => h)
    have hf' : FrOk fn.ntmps N1 f' (a1.put o.dst v) := putO_sound hf1 hr hp
    have hwf := anyX_sound hT hsel hQ _ hS'.vis r m _ htr (by simpa using hnl) hx hNf hN0' hf' hS2 ha1 hl1 (fun s3 N3 a3 w3 h1 h2 h3 h4 => by
      have := h1 N3 a3 w3 (hN0'.trans h2) h3 h4
      rw [← e4]
      exact this)
    exact ⟨⟨vis_of_agree (hS'.vis.mask _) hNf ha1 hS2, fun k o v h => hS2.imm k o v (him k o v h)⟩, wpF.weak (fun L w h => ⟨h.1, fun k o v hk => h.2 k o v (him k o v hk)⟩) m _ _ _ hwf⟩) t _ _ ht (by simp) hg (Nums.le.refl N) hN hf hS' (fun r g hg _ => hg) (Nat.le_refl _) (fun s' N' a' w' h1 h2 h3 h4 => h1 N' a' w' (hN.trans h2) h3 h4)
  exact wp_region_any hT.mixed hwf.any
end Go.Eng

namespace Go.Proofs.Ytkjhpaeminegoaa
open Go.Eng
theorem StepsAt.chg {po : Option Addr} {n b x : Nat} {f : Nat → SStep} {w w' : World} (h : StepsAt po n f b x w) (hc : Chg (fun _ _ => False) w w') : StepsAt po n f b x w' :=
  ⟨h.po, fun i hi j v hj => cell_of_chg hc (fun h => h) (h.row i hi j v hj), fun i hi h0 => by
    obtain ⟨b, y, h1, h2⟩ := h.by' i hi h0
    exact ⟨b, y, h1, fun j hj => cell_of_chg hc (fun h => h) (h2 j hj)⟩⟩
def SStep.svs (e : SStep) : List SV := [.int .i64 (.v e.kd), .int .i64 (.v e.i), .int .i64 (.v e.at'), .slv e.bp e.bn e.bc, .bool (.v e.torn), .int .u8 (.v e.by')]
theorem SStep.svs_at (e : SStep) (j : Nat) (c : SV) (h : e.svs[j]? = some c) : ∃ v, c.den [] = some v ∧ e.vals[j]? = some v := by
  match j, h with
  | 0, h | 1, h | 2, h | 3, h | 4, h | 5, h => simp only [SStep.svs, List.getElem?_cons_zero, List.getElem?_cons_succ, Option.some.injEq] at h; subst h; exact ⟨_, rfl, rfl⟩
  | j + 6, h => simp [SStep.svs] at h
theorem StepsAt.bytes {po : Option Addr} {n b x : Nat} {f : Nat → SStep} {w w' : World} {im : Nat → Nat → Option Value} (h : StepsAt po n f b x w) (him : ∀ {k o v}, w.cell? ⟨k, o, none⟩ = some v → im k o = some v) (hi : ∀ k o v, im k o = some v → w'.cell? ⟨k, o, none⟩ = some v) {i : Nat} (hin : i < n) : BytesIn (f i).bp (f i).bn (f i).g w' := fun h0 => by
  obtain ⟨b, y, h1, h2⟩ := h.by' i hin h0
  exact ⟨b, y, h1, fun j hj => hi _ _ _ (him (h2 j hj))⟩
theorem StepsAt.low {po : Option Addr} {n b x : Nat} {f : Nat → SStep} {w : World} (h : StepsAt po n f b x w) {i : Nat} (hin : i < n) (h0 : 0 < (f i).bn) (k y : Nat) (e : (f i).bp = some ⟨k, y, none⟩) : k < w.heap.size := by
  obtain ⟨b, y', h1, h2⟩ := h.by' i hin h0
  rw [e] at h1
  cases h1
  have := World.block_lt_of_cell? _ _ (h2 0 h0)
  exact this
structure AllG (B size count n cb cy db dy : Nat) where
  (i : Nat) (c d : Dk) (l : Wl)
  hi : i ≤ n
  hl : l.length ≤ i
  pc : Plain B size count (fun _ _ => 0) l c
  pd : Plain B size count (fun _ _ => 0) l d
  ap : Apart c d
  cb' : c.b = cb
  cy' : c.y = cy
  db' : d.b = db
  dy' : d.y = dy
section
open Go
variable {E : Ctx} {T : Tab} {all : Array Oper} {i : Nat} {rest : List Nat} {k : List It} {s : St} {o : Oper} {f : Fr}
end
end Go.Proofs.Ytkjhpaeminegoaa
