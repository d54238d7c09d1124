/- The sector's functions: Write, where the bytes are let wait. -/
import Derived.Test.YtkjhpaeminegoaaSe5

namespace Go.Proofs.Ytkjhpaeminegoaa
open Go.Eng

theorem burn_same (h : Hd) : h.burn.2.size = h.size ∧ h.burn.2.count = h.count ∧ h.burn.2.m = h.m ∧ h.burn.2.po = h.po ∧ h.burn.2.n = h.n ∧ h.burn.2.cp = h.cp := by
  obtain ⟨size, count, m, po, n, cp, off, falls, fused, fuse⟩ := h
  unfold Hd.burn Hd.fall
  cases fused <;> cases off <;> simp <;> split <;> simp

theorem wsv_len (size : Nat) (x : Int × By) : (wsv size x).length = 2 := rfl

/-- what a write that waits leaves -/
structure WroteAt (b y m n : Nat) (h2 : Hd) (i : Int) (size : Nat) (g : Nat → Int) (ws : Nat → Int × By) (w : World) (wb' wy' : Nat) (u : By) (row : Nat → Nat → Prop) (w' : World) : Prop where
  hd : HdAt b y h2 w'
  hf : HdFree b y w'
  po : h2.po = some ⟨wb', wy', none⟩
  hn : h2.n = n + 1
  nc : n + 1 ≤ h2.cp
  rm : ∀ o, o < h2.cp * 2 → (w'.cell? ⟨wb', wy' + o, none⟩).isSome = true ∧ w'.frozen? ⟨wb', wy' + o, none⟩ = false
  old : ∀ q, q < n → w'.cell? ⟨wb', wy' + q * 2, none⟩ = some (.int .i64 (ws q).1) ∧ w'.cell? ⟨wb', wy' + q * 2 + 1, none⟩ = some ((ws q).2.val size)
  new : w'.cell? ⟨wb', wy' + n * 2, none⟩ = some (.int .i64 i) ∧ w'.cell? ⟨wb', wy' + n * 2 + 1, none⟩ = some (u.val size)
  ua : u.At size w'
  uf : u.f = g
  fr : w.heap.size ≤ u.k
  sep : ∀ o o', o < h2.cp * 2 → o' < size → ¬ (wb' = u.k ∧ wy' + o = u.y + o')
  hs : ∀ o, o < h2.cp * 2 → ¬ hdO b y wb' (wy' + o)
  rows : w.heap.size ≤ wb' ∨ ∀ o, o < h2.cp * 2 → row wb' (wy' + o)


set_option maxHeartbeats 4000000 in
set_option maxRecDepth 100000 in
set_option cbv.maxSteps 100000000 in
theorem write_row (b y m : Nat) (wb wy : Nat) (n cp size count : Nat) (falls fuse : Int) (fused : Bool) (ws : Nat → Int × By) (i : Int) (sb sy scp : Nat) (g : Nat → Int) (w : World) (hz : 0 < size ∧ size ≤ 1000) (hn : n ≤ 1000) (hnc : n ≤ cp) (hi : 0 ≤ i ∧ i < count)
    (hh : HdAt b y ⟨size, count, m, some ⟨wb, wy, none⟩, n, cp, false, falls, fused, fuse⟩ w) (hf : HdFree b y w) (hsrc : BytesAt sb sy size g w) (hfar : ∀ o, o < size → ¬ hdO b y sb (sy + o) ∧ ¬ (sb = wb ∧ wy ≤ sy + o ∧ sy + o < wy + cp * 2))
    (hrm : ∀ o, o < cp * 2 → (w.cell? ⟨wb, wy + o, none⟩).isSome = true ∧ w.frozen? ⟨wb, wy + o, none⟩ = false) (hrow : ∀ q, q < n → w.cell? ⟨wb, wy + q * 2, none⟩ = some (.int .i64 (ws q).1) ∧ w.cell? ⟨wb, wy + q * 2 + 1, none⟩ = some ((ws q).2.val size)) (hlt : wb < w.heap.size) (hap : ∀ k o, hdO b y k o → ¬ (k = wb ∧ wy ≤ o ∧ o < wy + cp * 2)) :
    Calls Try.prog 13 #[.pointer (some ⟨b, y, none⟩), .int .i64 i, .slice (some ⟨sb, sy, none⟩) size scp] w fun e w' => ∃ (bt : Bool) (h1 h2 : Hd) (wb' wy' : Nat) (u : By), e = .returned (.int .i64 (if bt then 8 else 0)) ∧ h1.burn = (bt, h2) ∧
      h1 = ⟨size, count, m, h2.po, n + 1, h2.cp, false, falls, fused, fuse⟩ ∧ WroteAt b y m n h2 i size g ws w wb' wy' u (fun k o => k = wb ∧ wy ≤ o ∧ o < wy + cp * 2) w' ∧ Chg (fun k o => hdO b y k o ∨ (k = wb ∧ wy ≤ o ∧ o < wy + cp * 2)) w w' := by
  obtain ⟨Q, hQ⟩ : ∃ Q : Ending → World → Prop, Q = fun e w' => ∃ (bt : Bool) (h1 h2 : Hd) (wb' wy' : Nat) (u : By), e = .returned (.int .i64 (if bt then 8 else 0)) ∧ h1.burn = (bt, h2) ∧
      h1 = ⟨size, count, m, h2.po, n + 1, h2.cp, false, falls, fused, fuse⟩ ∧ WroteAt b y m n h2 i size g ws w wb' wy' u (fun k o => k = wb ∧ wy ≤ o ∧ o < wy + cp * 2) w' ∧ Chg (fun k o => hdO b y k o ∨ (k = wb ∧ wy ≤ o ∧ o < wy + cp * 2)) w w' := ⟨_, rfl⟩
  rw [← hQ]
  obtain ⟨cs, hcs⟩ : ∃ cs, cs = rowsL (fun q => wsv size (ws q)) n := ⟨_, rfl⟩
  have hlen : cs.length = n * 2 := by rw [hcs]; exact rowsL_len (fun q => wsv_len size (ws q)) n
  obtain ⟨bs, hbs⟩ : ∃ bs, bs = bytesL g size := ⟨_, rfl⟩
  have hbl : bs.length = size := by rw [hbs, bytesL_len]
  obtain ⟨n1, hn1⟩ : ∃ n1, n1 = n + 1 := ⟨_, rfl⟩
  obtain ⟨nw, hnw⟩ : ∃ nw : List SV, nw = [.int .i64 (.v i), .osl 3 0 size 1 none] := ⟨_, rfl⟩
  obtain ⟨cs2, hcs2⟩ : ∃ cs2, cs2 = cs ++ nw := ⟨_, rfl⟩
  have hhd : SV.denL [⟨b, y, 8⟩, ⟨wb, wy, cp * 2⟩, ⟨sb, sy, size⟩] [.int .i64 (.nat size), .int .i64 (.nat count), .raw (.map (some m)), .osl 1 0 n 2 none, .bool (.lit false), .int .u64 (.v falls), .bool (.lit fused), .int .i64 (.v fuse)] = some (Hd.vals ⟨size, count, m, some ⟨wb, wy, none⟩, n, cp, false, falls, fused, fuse⟩) := by
    simp [SV.denL, SV.den, SI.den, SB.den, Num.cap, Hd.vals, one?]
  refine X.begin (rg := [⟨true, [.int .i64 (.nat size), .int .i64 (.nat count), .raw (.map (some m)), .osl 1 0 n 2 none, .bool (.lit false), .int .u64 (.v falls), .bool (.lit fused), .int .i64 (.v fuse)], none⟩, ⟨true, cs, none⟩, ⟨false, bs, none⟩]) (N := [⟨b, y, 8⟩, ⟨wb, wy, cp * 2⟩, ⟨sb, sy, size⟩]) (ss := [.own 0 0, .int .i64 (.v i), .osl 2 0 size 1 (some scp)]) Try.func13 rfl B13_ok rfl rfl
    (Sat.stdL ⟨⟨hh.lt, rfl, fun j c hj => ?_, (fun _ => by simp), (fun _ j hj => hh.room hf j hj)⟩, ⟨hlt, rfl, fun j c hj => ?_, (fun _ => by show cs.length ≤ cp * 2; omega), (fun _ j hj => hrm j hj)⟩, ⟨World.block_lt_of_cell? _ _ (hsrc 0 hz.1), rfl, (fun j c hj => by rw [hbs] at hj; exact hsrc.cells _ j c hj), (fun h => by cases h), (fun h => by cases h)⟩, trivial⟩ ?_) ?_
  · obtain ⟨k1, k2⟩ := SV.denL_get _ hhd
    obtain ⟨v, k3, k4⟩ := k2 j c hj
    exact ⟨v, k3, hh j v k4⟩
  · rw [hcs] at hj
    obtain ⟨k1, k2, k3, k4⟩ := rowsL_get (fun q => wsv_len size (ws q)) (by decide) hj
    obtain ⟨q, hq⟩ : ∃ q, q = j / 2 := ⟨_, rfl⟩
    rw [← hq] at k1 k3 k4
    have hr := hrow q k1
    have k5 : j % 2 = 0 ∨ j % 2 = 1 := by omega
    rcases k5 with k5 | k5
    · rw [k5] at k4 k3
      simp [wsv] at k4; subst k4
      exact ⟨_, rfl, by rw [show wy + j = wy + q * 2 by omega]; exact hr.1⟩
    · rw [k5] at k4 k3
      simp [wsv] at k4; subst k4
      exact ⟨_, rfl, by rw [show wy + j = wy + q * 2 + 1 by omega]; exact hr.2⟩
  · refine ⟨⟨fun _ j j' hj hj' e => ?_, fun _ j j' hj hj' e => ?_, trivial⟩, ⟨fun _ j j' hj hj' e => ?_, trivial⟩, trivial, trivial⟩
    · have h1 : j < 8 := hj
      have h2 : j' < cp * 2 := hj'
      have e1 : b = wb := e.1
      have e2 : y + j = wy + j' := e.2
      exact hap b (y + j) ⟨rfl, by omega, by omega⟩ ⟨e1, by omega, by omega⟩
    · have h1 : j < 8 := hj
      have h2 : j' < bs.length := hj'
      have e1 : b = sb := e.1
      have e2 : y + j = sy + j' := e.2
      exact (hfar j' (by omega)).1 ⟨e1.symm, by omega, by omega⟩
    · have h1 : j < cp * 2 := hj
      have h2 : j' < bs.length := hj'
      have e1 : wb = sb := e.1
      have e2 : wy + j = sy + j' := e.2
      exact (hfar j' (by omega)).2 ⟨e1.symm, by omega, by omega⟩
  refine X.goC FALL_ok false T13_ok 400 _ rfl Try.results13 ?_
  conv => arg 2; cbv
  refine X.cond rfl (fun hc => ?_) (fun _ => ?_)
  · exfalso
    simp only [SB.T, SB.F, SI.den] at hc
    omega
  refine X.goC FALL_ok false T13_ok 400 _ rfl Try.results13 ?_
  conv => arg 2; cbv
  refine X.cond rfl (fun hc => ?_) (fun _ => ?_)
  · exfalso
    simp only [SB.T, SI.den] at hc
    exact hc rfl
  refine X.go T13_ok 3 _ rfl Try.results13 ?_
  conv => arg 2; cbv
  refine X.less [0, 1, 2] ?_
  show X (std Try.prog Try.f13 Q w [⟨b, y, 8⟩, ⟨wb, wy, cp * 2⟩, ⟨sb, sy, size⟩] [⟨true, [.int .i64 (.nat size), .int .i64 (.nat count), .raw (.map (some m)), .osl 1 0 n 2 none, .bool (.lit false), .int .u64 (.v falls), .bool (.lit fused), .int .i64 (.v fuse)], none⟩, ⟨true, cs, none⟩, ⟨false, bs, none⟩] B13) _ ⟨[(0, .val (.own 0 0)), (1, .val (.int .i64 (.v i))), (2, .val (.osl 2 0 size 1 (some scp)))], _⟩
  obtain ⟨pr, hpr⟩ : ∃ pr : St → List SV → Prop, pr = fun s l => s.rg[2]? = some ⟨false, bs, none⟩ ∧ l = [.osl 2 0 size 1 (some scp)] := ⟨_, rfl⟩
  have hpr0 : ∀ (f : Fr) (g0 g1 : Rg), pr ⟨f, [g0, g1, ⟨false, bs, none⟩]⟩ [.osl 2 0 size 1 (some scp)] := fun f g0 g1 => by rw [hpr]; exact ⟨rfl, rfl⟩
  refine X.drawnL (fn := Try.f13) T13_ok (callFresh 7 39 bs size 1 42 _ pr) (idxG 42 []) 10 [11, 12, 13] 10 rfl (by kernel_rfl) rfl (callFresh_ok Try.call39 (fun s l hp E N w1 args hP _ _ hS ha => ?_)) (idxG_ok [] rfl (fun q hq => absurd hq List.not_mem_nil)) 42 rfl ?_
  · rw [hpr] at hp
    obtain ⟨h1, h2⟩ := hp
    subst h2
    obtain ⟨p, hp⟩ : ∃ p, N[2]? = some p := ⟨_, List.getElem?_eq_getElem (by rw [hS.len]; exact (List.getElem?_eq_some_iff.1 h1).1)⟩
    have ha' : [Value.slice (some ⟨p.b, p.o + 0, none⟩) size scp] = args := by simpa [SV.denL, SV.den, hp, Num.cap] using ha
    subst ha'
    rw [hbs]
    refine cloneB_ok p.b p.o size scp g w1 (by omega) hz.2 (fun j hj => ?_)
    obtain ⟨v, k1, k2⟩ := hS.cell 2 _ p h1 hp j (.int .u8 (.v (g j))) (by rw [hbs]; exact bytesL_at hj)
    rw [k2, ← k1]; rfl
  generalize hfin : (fun s' => X (std Try.prog Try.f13 Q w [⟨b, y, 8⟩, ⟨wb, wy, cp * 2⟩, ⟨sb, sy, size⟩] [⟨true, [.int .i64 (.nat size), .int .i64 (.nat count), .raw (.map (some m)), .osl 1 0 n 2 none, .bool (.lit false), .int .u64 (.v falls), .bool (.lit fused), .int .i64 (.v fuse)], none⟩, ⟨true, cs, none⟩, ⟨false, bs, none⟩] B13) _ s') = fin
  conv => cbv
  repeat (first | refine ⟨rfl, ?_⟩ | refine ⟨hpr0 _ _ _, ?_⟩)
  subst hfin
  show X _ _ _
  rw [← hnw]
  have hO : ∀ k o, InR [⟨b, y, 8⟩, ⟨wb, wy, cp * 2⟩, ⟨sb, sy, size⟩] [⟨true, [.int .i64 (.nat size), .int .i64 (.nat count), .raw (.map (some m)), .osl 1 0 n 2 none, .bool (.lit false), .int .u64 (.v falls), .bool (.lit fused), .int .i64 (.v fuse)], none⟩, ⟨true, cs, none⟩, ⟨false, bs, none⟩] k o → hdO b y k o ∨ (k = wb ∧ wy ≤ o ∧ o < wy + cp * 2) := fun k o h => by
    rcases inR_cons h with ⟨_, e1, e2, e3⟩ | h
    · exact .inl ⟨e1, e2, e3⟩
    rcases inR_cons h with ⟨e0, e1, e2, e3⟩ | h
    · exact .inr ⟨e1, e2, e3⟩
    rcases inR_cons h with ⟨e0, _⟩ | h
    · cases e0
    · exact absurd h inR_nil
  refine X.namesP (fun N => ∃ p3, N[3]? = some p3 ∧ w.heap.size ≤ p3.b) (fun N w1 hN hS => ?_) (fun N1 hN1 hN1l hpf => ?_)
  · obtain ⟨p3, q3⟩ : ∃ p, N[3]? = some p := ⟨_, List.getElem?_eq_getElem (by rw [hS.len]; simp)⟩
    have q0 := hN 0 _ rfl
    have q1 := hN 1 _ rfl
    have hx3 := hS.ext 3 ⟨true, bs, none⟩ p3 rfl q3 rfl
    simp only [hbl] at hx3
    refine ⟨p3, q3, ?_⟩
    rcases hS.foot 3 ⟨true, bs, none⟩ p3 rfl q3 rfl with h | h
    · exact h
    · exfalso
      rcases hO _ _ (h 0 (by omega)) with ⟨e1, e2, e3⟩ | ⟨e1, e2, e3⟩
      · rcases hS.disj 3 0 ⟨true, bs, none⟩ _ p3 _ rfl q3 rfl q0 rfl (by decide) (p3.o + 0 - y) (by show _ < 8; omega) e1.symm with h | h <;> simp only at h <;> omega
      · rcases hS.disj 3 1 ⟨true, bs, none⟩ ⟨true, cs, none⟩ p3 _ rfl q3 rfl q1 rfl (by decide) (p3.o + 0 - wy) (by show _ < cp * 2; omega) e1.symm with h | h <;> simp only at h <;> omega
  obtain ⟨p3, hp3, hf3⟩ := hpf
  have hN1 : Nums.le [⟨b, y, 8⟩, ⟨wb, wy, cp * 2⟩, ⟨sb, sy, size⟩] N1 := hN1
  show X (mkE Try.prog Try.f13 Q w (InR [⟨b, y, 8⟩, ⟨wb, wy, cp * 2⟩, ⟨sb, sy, size⟩] [⟨true, [.int .i64 (.nat size), .int .i64 (.nat count), .raw (.map (some m)), .osl 1 0 n 2 none, .bool (.lit false), .int .u64 (.v falls), .bool (.lit fused), .int .i64 (.v fuse)], none⟩, ⟨true, cs, none⟩, ⟨false, bs, none⟩]) (elsewhere [⟨b, y, 8⟩, ⟨wb, wy, cp * 2⟩, ⟨sb, sy, size⟩] [⟨true, [.int .i64 (.nat size), .int .i64 (.nat count), .raw (.map (some m)), .osl 1 0 n 2 none, .bool (.lit false), .int .u64 (.v falls), .bool (.lit fused), .int .i64 (.v fuse)], none⟩, ⟨true, cs, none⟩, ⟨false, bs, none⟩] w) (fun _ _ => False) (fun _ => True) N1 B13) _ _
  apply X.opEq (T := T13) T13_ok
  · exact opE_append (te := ti87) (new := nw) (m := 1) rfl rfl rfl rfl rfl rfl rfl rfl (appSrc_row (g := ⟨true, nw, none⟩) rfl rfl (by rw [hnw]; rfl) (by rw [hnw]; rfl))
      (appV_hid (te := ti87) (n := n) rfl hlen (by decide) (appOk_ok (by decide) rfl (by rw [hnw]; rfl) (by rw [hnw]; rfl) (by show (2 * (n + 1) + 256) * 32 ≤ _; omega) (by omega))) rfl
  rw [← hcs2, ← hn1]
  refine X.go T13_ok 5 _ rfl Try.results13 ?_
  conv => arg 2; cbv
  refine X.names fun N hNN hNl => ?_
  have hNl : N.length = 5+1 := hNl
  have hNN : N1.le N := hNN
  have hN : Nums.le [⟨b, y, 8⟩, ⟨wb, wy, cp * 2⟩, ⟨sb, sy, size⟩] N := hN1.trans hNN
  obtain ⟨p5, hp5⟩ : ∃ p, N[5]? = some p := ⟨_, List.getElem?_eq_getElem (by omega)⟩
  have hp3 := hNN 3 _ hp3
  obtain ⟨cp', hcp'⟩ : ∃ c, c = p5.x / 2 := ⟨_, rfl⟩
  refine X.recell1 0 3 (.slv (some ⟨p5.b, p5.o, none⟩) n1 cp') rfl rfl (fun N' hN' v hv => ?_) ?_
  · have := hN' 5 p5 hp5
    simp only [SV.den, this, Num.cap, Nat.sub_zero, Nat.add_zero, ← hcp'] at hv ⊢
    exact hv
  refine X.less [0] ?_
  obtain ⟨h1, hh1⟩ : ∃ h1 : Hd, h1 = ⟨size, count, m, some ⟨p5.b, p5.o, none⟩, n1, cp', false, falls, fused, fuse⟩ := ⟨_, rfl⟩
  obtain ⟨hc0, hhc⟩ : ∃ c : List SV, c = [.int .i64 (.nat size), .int .i64 (.nat count), .raw (.map (some m)), .slv (some ⟨p5.b, p5.o, none⟩) n1 cp', .bool (.lit false), .int .u64 (.v falls), .bool (.lit fused), .int .i64 (.v fuse)] := ⟨_, rfl⟩
  have hden : ∀ N, SV.denL N hc0 = some h1.vals := fun N => by rw [hhc, hh1]; rfl
  show X (mkE Try.prog Try.f13 Q w (InR [⟨b, y, 8⟩, ⟨wb, wy, cp * 2⟩, ⟨sb, sy, size⟩] [⟨true, [.int .i64 (.nat size), .int .i64 (.nat count), .raw (.map (some m)), .osl 1 0 n 2 none, .bool (.lit false), .int .u64 (.v falls), .bool (.lit fused), .int .i64 (.v fuse)], none⟩, ⟨true, cs, none⟩, ⟨false, bs, none⟩]) (elsewhere [⟨b, y, 8⟩, ⟨wb, wy, cp * 2⟩, ⟨sb, sy, size⟩] [⟨true, [.int .i64 (.nat size), .int .i64 (.nat count), .raw (.map (some m)), .osl 1 0 n 2 none, .bool (.lit false), .int .u64 (.v falls), .bool (.lit fused), .int .i64 (.v fuse)], none⟩, ⟨true, cs, none⟩, ⟨false, bs, none⟩] w) (fun _ _ => False) (fun _ => True) N B13) _ ⟨[(0, .val (.own 0 0))], [⟨true, [.int .i64 (.nat size), .int .i64 (.nat count), .raw (.map (some m)), .slv (some ⟨p5.b, p5.o, none⟩) n1 cp', .bool (.lit false), .int .u64 (.v falls), .bool (.lit fused), .int .i64 (.v fuse)], none⟩, ⟨false, [], none⟩, ⟨false, bs, none⟩, ⟨true, bs, none⟩, ⟨true, nw, none⟩, ⟨true, cs2, none⟩]⟩
  rw [← hhc]
  refine X.go T13_ok 400 _ rfl Try.results13 ?_
  conv => arg 2; cbv
  refine X.call rfl rfl rfl rfl Try.call40 (fun N' w1 args hN' hS ha => ?_)
  have q0 := hN' 0 _ (hN 0 _ rfl)
  have ha' : [Value.pointer (some ⟨b, y, none⟩)] = args := by simpa [SV.denL, SV.den, q0] using ha
  subst ha'
  obtain ⟨br, hbr⟩ : ∃ br, br = h1.burn := ⟨_, rfl⟩
  obtain ⟨bt, h2⟩ := br
  refine (burns_ok b y h1 w1 (hd_back q0 hS (hden N')) (fun j hj => (hS.room 0 _ _ rfl q0 rfl j hj).2)).mono fun e w2 ⟨he, k1, k2⟩ => ⟨_, he, ?_⟩
  rw [← hbr] at k1 ⊢
  obtain ⟨hc2, hhc2⟩ : ∃ c : List SV, c = h2.sv := ⟨_, rfl⟩
  refine Goes.cells (r := 0) (g := ⟨true, hc0, none⟩) hN' hS rfl q0 rfl k2 hc2 (by rw [hhc2]; exact Nat.le_refl _) (fun j c hj => by rw [hhc2] at hj; exact k1.cells N' j c hj) (rv := .bool (.lit bt)) rfl rfl ?_
  have hfin : ∀ (Ne : Nums) (w' : World) (k : Int), N.le Ne → k = (if bt then 8 else 0) → Sat (mkE Try.prog Try.f13 Q w (InR [⟨b, y, 8⟩, ⟨wb, wy, cp * 2⟩, ⟨sb, sy, size⟩] [⟨true, [.int .i64 (.nat size), .int .i64 (.nat count), .raw (.map (some m)), .osl 1 0 n 2 none, .bool (.lit false), .int .u64 (.v falls), .bool (.lit fused), .int .i64 (.v fuse)], none⟩, ⟨true, cs, none⟩, ⟨false, bs, none⟩]) (elsewhere [⟨b, y, 8⟩, ⟨wb, wy, cp * 2⟩, ⟨sb, sy, size⟩] [⟨true, [.int .i64 (.nat size), .int .i64 (.nat count), .raw (.map (some m)), .osl 1 0 n 2 none, .bool (.lit false), .int .u64 (.v falls), .bool (.lit fused), .int .i64 (.v fuse)], none⟩, ⟨true, cs, none⟩, ⟨false, bs, none⟩] w) (fun _ _ => False) (fun _ => True) N B13).toEnv Ne [⟨true, hc2, none⟩, ⟨false, [], none⟩, ⟨false, bs, none⟩, ⟨true, bs, none⟩, ⟨true, nw, none⟩, ⟨true, cs2, none⟩] w' → Q (.returned (.int .i64 k)) w' := by
    intro Ne w' k hNe hk hS
    have q0 := hNe 0 _ (hN 0 _ rfl)
    have q3 := hNe 3 _ hp3
    have q5 := hNe 5 _ hp5
    obtain ⟨s1, s2, s3, s4, s5, s6⟩ := burn_same h1
    rw [← hbr, hh1] at s1 s2 s3 s4 s5 s6
    simp only at s1 s2 s3 s4 s5 s6
    have hl2 : cs2.length = n * 2 + 2 := by rw [hcs2, List.length_append, hlen, hnw]; rfl
    have hx5 := hS.ext 5 ⟨true, cs2, none⟩ p5 rfl q5 rfl
    simp only [hl2] at hx5
    have hx3 := hS.ext 3 ⟨true, bs, none⟩ p3 rfl q3 rfl
    simp only [hbl] at hx3
    have hcap : cp' * 2 ≤ p5.x := by rw [hcp']; exact Nat.div_mul_le_self _ _
    have hnwd : SV.denL Ne nw = some [.int .i64 i, .slice (some ⟨p3.b, p3.o, none⟩) size p3.x] := by
      rw [hnw]; simp [SV.denL, SV.den, SI.den, q3, Num.cap]
    have hcells : ∀ (j : Nat) (c : SV) (v : Value), cs2[j]? = some c → c.den Ne = some v → w'.cell? ⟨p5.b, p5.o + j, none⟩ = some v := fun j c v hj hv => by
      obtain ⟨v', e1, e2⟩ := hS.cell 5 ⟨true, cs2, none⟩ p5 rfl q5 j c hj
      rw [hv] at e1; cases e1; exact e2
    have hhs : ∀ o, o < cp' * 2 → ¬ hdO b y p5.b (p5.o + o) := fun o ho ⟨e1, e2, e3⟩ => by
      rcases hS.disj 5 0 ⟨true, cs2, none⟩ ⟨true, hc2, none⟩ p5 _ rfl q5 rfl q0 rfl (by decide) (p5.o + o - y) (by show _ < 8; omega) e1.symm with h | h <;> simp only at h <;> omega
    rw [hQ]
    refine ⟨bt, h1, h2, p5.b, p5.o, ⟨p3.b, p3.o, p3.x, g⟩, by rw [hk], hbr.symm, by rw [hh1, s4, s6, hn1], ⟨hd_back q0 hS (by rw [hhc2]; rfl), fun j hj => (hS.room 0 _ _ rfl q0 rfl j hj).2, s4, by rw [s5, hn1], ?_, fun o ho => ?_, fun q hq => ?_, ?_, ⟨hx3, fun j hj => ?_, fun j hj => (hS.room 3 _ p3 rfl q3 rfl j (by omega)).2⟩, rfl, ?_, fun o o' ho ho' => ?_, fun o ho => ?_, ?_⟩, hS.chg.mono fun k o _ h => hO k o h⟩
    · rw [s6, hcp']
      exact (Nat.le_div_iff_mul_le (by decide)).2 (by omega)
    · rw [s6] at ho
      exact hS.room 5 _ p5 rfl q5 rfl o (by omega)
    · have hat : ∀ t, t < 2 → cs2[q * 2 + t]? = (wsv size (ws q))[t]? := fun t ht => by
        rw [hcs2, List.getElem?_append_left (by rw [hlen]; omega), hcs]
        exact rowsL_at (fun q => wsv_len size (ws q)) ht hq
      exact ⟨hcells (q * 2 + 0) _ _ (hat 0 (by decide)) rfl, hcells (q * 2 + 1) _ _ (hat 1 (by decide)) rfl⟩
    · have hat : ∀ t, cs2[n * 2 + t]? = nw[t]? := fun t => by
        rw [hcs2, List.getElem?_append_right (by omega), hlen, Nat.add_sub_cancel_left]
      exact ⟨hcells (n * 2 + 0) (.int .i64 (.v i)) _ (by rw [hat, hnw]; rfl) rfl, hcells (n * 2 + 1) (.osl 3 0 size 1 none) _ (by rw [hat, hnw]; rfl) (by simp [SV.den, q3, Num.cap, By.val])⟩
    · exact hS.at q3 (g := ⟨true, bs, none⟩) rfl (j := j) (by rw [hbs]; exact bytesL_at hj) rfl
    · exact hf3
    · rw [s6] at ho
      rintro ⟨e1, e2⟩
      have := hS.disj 5 3 ⟨true, cs2, none⟩ ⟨true, bs, none⟩ p5 p3 rfl q5 rfl q3 rfl (by decide) o' (by show o' < p3.x; omega) e1.symm
      simp only at e2
      omega
    · rw [s6] at ho
      exact hhs o ho
    · rcases hS.foot 5 ⟨true, cs2, none⟩ p5 rfl q5 rfl with h | h
      · exact .inl h
      · refine .inr fun o ho => ?_
        rw [s6] at ho
        rcases hO _ _ (h o (by omega)) with e | e
        · exact absurd e (hhs o ho)
        · exact e
  cases bt with
  | true =>
    refine X.go T13_ok 400 _ rfl Try.results13 ?_
    conv => arg 2; cbv
    refine X.done T13_ok rfl (fun Ne w' v hNe hS hv => ?_)
    cases hv
    exact hfin Ne w' 8 hNe rfl hS
  | false =>
    refine X.go T13_ok 400 _ rfl Try.results13 ?_
    conv => arg 2; cbv
    refine X.done T13_ok rfl (fun Ne w' v hNe hS hv => ?_)
    cases hv
    exact hfin Ne w' 0 hNe rfl hS

set_option maxHeartbeats 4000000 in
set_option maxRecDepth 100000 in
set_option cbv.maxSteps 100000000 in
theorem write_nil (b y m : Nat) (n cp size count : Nat) (falls fuse : Int) (fused : Bool) (ws : Nat → Int × By) (i : Int) (sb sy scp : Nat) (g : Nat → Int) (w : World) (hz : 0 < size ∧ size ≤ 1000) (hn : n ≤ 1000) (h0 : n = 0) (h0c : cp = 0) (hi : 0 ≤ i ∧ i < count)
    (hh : HdAt b y ⟨size, count, m, none, n, cp, false, falls, fused, fuse⟩ w) (hf : HdFree b y w) (hsrc : BytesAt sb sy size g w) (hfar : ∀ o, o < size → ¬ hdO b y sb (sy + o)) :
    Calls Try.prog 13 #[.pointer (some ⟨b, y, none⟩), .int .i64 i, .slice (some ⟨sb, sy, none⟩) size scp] w fun e w' => ∃ (bt : Bool) (h1 h2 : Hd) (wb' wy' : Nat) (u : By), e = .returned (.int .i64 (if bt then 8 else 0)) ∧ h1.burn = (bt, h2) ∧
      h1 = ⟨size, count, m, h2.po, n + 1, h2.cp, false, falls, fused, fuse⟩ ∧ WroteAt b y m n h2 i size g ws w wb' wy' u (fun _ _ => False) w' ∧ Chg (fun k o => hdO b y k o) w w' := by
  obtain ⟨Q, hQ⟩ : ∃ Q : Ending → World → Prop, Q = fun e w' => ∃ (bt : Bool) (h1 h2 : Hd) (wb' wy' : Nat) (u : By), e = .returned (.int .i64 (if bt then 8 else 0)) ∧ h1.burn = (bt, h2) ∧
      h1 = ⟨size, count, m, h2.po, n + 1, h2.cp, false, falls, fused, fuse⟩ ∧ WroteAt b y m n h2 i size g ws w wb' wy' u (fun _ _ => False) w' ∧ Chg (fun k o => hdO b y k o) w w' := ⟨_, rfl⟩
  rw [← hQ]
  obtain ⟨cs, hcs⟩ : ∃ cs, cs = rowsL (fun q => wsv size (ws q)) n := ⟨_, rfl⟩
  have hlen : cs.length = n * 2 := by rw [hcs]; exact rowsL_len (fun q => wsv_len size (ws q)) n
  obtain ⟨bs, hbs⟩ : ∃ bs, bs = bytesL g size := ⟨_, rfl⟩
  have hbl : bs.length = size := by rw [hbs, bytesL_len]
  obtain ⟨n1, hn1⟩ : ∃ n1, n1 = n + 1 := ⟨_, rfl⟩
  obtain ⟨nw, hnw⟩ : ∃ nw : List SV, nw = [.int .i64 (.v i), .osl 3 0 size 1 none] := ⟨_, rfl⟩
  have hhd : SV.denL [⟨b, y, 8⟩, ⟨b, y, 0⟩, ⟨sb, sy, size⟩] [.int .i64 (.nat size), .int .i64 (.nat count), .raw (.map (some m)), .raw (.slice none 0 0), .bool (.lit false), .int .u64 (.v falls), .bool (.lit fused), .int .i64 (.v fuse)] = some (Hd.vals ⟨size, count, m, none, n, cp, false, falls, fused, fuse⟩) := by
    simp [SV.denL, SV.den, SI.den, SB.den, Num.cap, Hd.vals, one?, h0, h0c]
  refine X.begin (rg := [⟨true, [.int .i64 (.nat size), .int .i64 (.nat count), .raw (.map (some m)), .raw (.slice none 0 0), .bool (.lit false), .int .u64 (.v falls), .bool (.lit fused), .int .i64 (.v fuse)], none⟩, ⟨false, [], none⟩, ⟨false, bs, none⟩]) (N := [⟨b, y, 8⟩, ⟨b, y, 0⟩, ⟨sb, sy, size⟩]) (ss := [.own 0 0, .int .i64 (.v i), .osl 2 0 size 1 (some scp)]) Try.func13 rfl B13_ok rfl rfl
    (Sat.stdL ⟨⟨hh.lt, rfl, fun j c hj => ?_, (fun _ => by simp), (fun _ j hj => hh.room hf j hj)⟩, ⟨hh.lt, rfl, (fun j c hj => by simp at hj), (fun h => by cases h), (fun h => by cases h)⟩, ⟨World.block_lt_of_cell? _ _ (hsrc 0 hz.1), rfl, (fun j c hj => by rw [hbs] at hj; exact hsrc.cells _ j c hj), (fun h => by cases h), (fun h => by cases h)⟩, trivial⟩ ?_) ?_
  · obtain ⟨k1, k2⟩ := SV.denL_get _ hhd
    obtain ⟨v, k3, k4⟩ := k2 j c hj
    exact ⟨v, k3, hh j v k4⟩
  · refine ⟨⟨fun _ j j' hj hj' e => ?_, fun _ j j' hj hj' e => ?_, trivial⟩, ⟨fun h => (by rcases h with h | h <;> cases h), trivial⟩, trivial, trivial⟩
    · have h2 : j' < 0 := hj'
      omega
    · have h1 : j < 8 := hj
      have h2 : j' < bs.length := hj'
      have e1 : b = sb := e.1
      have e2 : y + j = sy + j' := e.2
      exact hfar j' (by omega) ⟨e1.symm, by omega, by omega⟩
  refine X.goC FALL_ok false T13_ok 400 _ rfl Try.results13 ?_
  conv => arg 2; cbv
  refine X.cond rfl (fun hc => ?_) (fun _ => ?_)
  · exfalso
    simp only [SB.T, SB.F, SI.den] at hc
    omega
  refine X.goC FALL_ok false T13_ok 400 _ rfl Try.results13 ?_
  conv => arg 2; cbv
  refine X.cond rfl (fun hc => ?_) (fun _ => ?_)
  · exfalso
    simp only [SB.T, SI.den] at hc
    exact hc rfl
  refine X.go T13_ok 3 _ rfl Try.results13 ?_
  conv => arg 2; cbv
  refine X.less [0, 1, 2] ?_
  show X (std Try.prog Try.f13 Q w [⟨b, y, 8⟩, ⟨b, y, 0⟩, ⟨sb, sy, size⟩] [⟨true, [.int .i64 (.nat size), .int .i64 (.nat count), .raw (.map (some m)), .raw (.slice none 0 0), .bool (.lit false), .int .u64 (.v falls), .bool (.lit fused), .int .i64 (.v fuse)], none⟩, ⟨false, [], none⟩, ⟨false, bs, none⟩] B13) _ ⟨[(0, .val (.own 0 0)), (1, .val (.int .i64 (.v i))), (2, .val (.osl 2 0 size 1 (some scp)))], _⟩
  obtain ⟨pr, hpr⟩ : ∃ pr : St → List SV → Prop, pr = fun s l => s.rg[2]? = some ⟨false, bs, none⟩ ∧ l = [.osl 2 0 size 1 (some scp)] := ⟨_, rfl⟩
  have hpr0 : ∀ (f : Fr) (g0 g1 : Rg), pr ⟨f, [g0, g1, ⟨false, bs, none⟩]⟩ [.osl 2 0 size 1 (some scp)] := fun f g0 g1 => by rw [hpr]; exact ⟨rfl, rfl⟩
  refine X.drawnL (fn := Try.f13) T13_ok (callFresh 7 39 bs size 1 42 _ pr) (idxG 42 []) 10 [11, 12, 13] 10 rfl (by kernel_rfl) rfl (callFresh_ok Try.call39 (fun s l hp E N w1 args hP _ _ hS ha => ?_)) (idxG_ok [] rfl (fun q hq => absurd hq List.not_mem_nil)) 42 rfl ?_
  · rw [hpr] at hp
    obtain ⟨h1, h2⟩ := hp
    subst h2
    obtain ⟨p, hp⟩ : ∃ p, N[2]? = some p := ⟨_, List.getElem?_eq_getElem (by rw [hS.len]; exact (List.getElem?_eq_some_iff.1 h1).1)⟩
    have ha' : [Value.slice (some ⟨p.b, p.o + 0, none⟩) size scp] = args := by simpa [SV.denL, SV.den, hp, Num.cap] using ha
    subst ha'
    rw [hbs]
    refine cloneB_ok p.b p.o size scp g w1 (by omega) hz.2 (fun j hj => ?_)
    obtain ⟨v, k1, k2⟩ := hS.cell 2 _ p h1 hp j (.int .u8 (.v (g j))) (by rw [hbs]; exact bytesL_at hj)
    rw [k2, ← k1]; rfl
  generalize hfin : (fun s' => X (std Try.prog Try.f13 Q w [⟨b, y, 8⟩, ⟨b, y, 0⟩, ⟨sb, sy, size⟩] [⟨true, [.int .i64 (.nat size), .int .i64 (.nat count), .raw (.map (some m)), .raw (.slice none 0 0), .bool (.lit false), .int .u64 (.v falls), .bool (.lit fused), .int .i64 (.v fuse)], none⟩, ⟨false, [], none⟩, ⟨false, bs, none⟩] B13) _ s') = fin
  conv => cbv
  repeat (first | refine ⟨rfl, ?_⟩ | refine ⟨hpr0 _ _ _, ?_⟩)
  subst hfin
  show X _ _ _
  rw [← hnw]
  have hO : ∀ k o, InR [⟨b, y, 8⟩, ⟨b, y, 0⟩, ⟨sb, sy, size⟩] [⟨true, [.int .i64 (.nat size), .int .i64 (.nat count), .raw (.map (some m)), .raw (.slice none 0 0), .bool (.lit false), .int .u64 (.v falls), .bool (.lit fused), .int .i64 (.v fuse)], none⟩, ⟨false, [], none⟩, ⟨false, bs, none⟩] k o → hdO b y k o := fun k o h => by
    rcases inR_cons h with ⟨_, e1, e2, e3⟩ | h
    · exact ⟨e1, e2, e3⟩
    rcases inR_cons h with ⟨e0, e1, e2, e3⟩ | h
    · cases e0
    rcases inR_cons h with ⟨e0, _⟩ | h
    · cases e0
    · exact absurd h inR_nil
  refine X.namesP (fun N => ∃ p3, N[3]? = some p3 ∧ w.heap.size ≤ p3.b) (fun N w1 hN hS => ?_) (fun N1 hN1 hN1l hpf => ?_)
  · obtain ⟨p3, q3⟩ : ∃ p, N[3]? = some p := ⟨_, List.getElem?_eq_getElem (by rw [hS.len]; simp)⟩
    have q0 := hN 0 _ rfl
    have q1 := hN 1 _ rfl
    have hx3 := hS.ext 3 ⟨true, bs, none⟩ p3 rfl q3 rfl
    simp only [hbl] at hx3
    refine ⟨p3, q3, ?_⟩
    rcases hS.foot 3 ⟨true, bs, none⟩ p3 rfl q3 rfl with h | h
    · exact h
    · exfalso
      rcases hO _ _ (h 0 (by omega)) with ⟨e1, e2, e3⟩
      · rcases hS.disj 3 0 ⟨true, bs, none⟩ _ p3 _ rfl q3 rfl q0 rfl (by decide) (p3.o + 0 - y) (by show _ < 8; omega) e1.symm with h | h <;> simp only at h <;> omega
  obtain ⟨p3, hp3, hf3⟩ := hpf
  have hN1 : Nums.le [⟨b, y, 8⟩, ⟨b, y, 0⟩, ⟨sb, sy, size⟩] N1 := hN1
  show X (mkE Try.prog Try.f13 Q w (InR [⟨b, y, 8⟩, ⟨b, y, 0⟩, ⟨sb, sy, size⟩] [⟨true, [.int .i64 (.nat size), .int .i64 (.nat count), .raw (.map (some m)), .raw (.slice none 0 0), .bool (.lit false), .int .u64 (.v falls), .bool (.lit fused), .int .i64 (.v fuse)], none⟩, ⟨false, [], none⟩, ⟨false, bs, none⟩]) (elsewhere [⟨b, y, 8⟩, ⟨b, y, 0⟩, ⟨sb, sy, size⟩] [⟨true, [.int .i64 (.nat size), .int .i64 (.nat count), .raw (.map (some m)), .raw (.slice none 0 0), .bool (.lit false), .int .u64 (.v falls), .bool (.lit fused), .int .i64 (.v fuse)], none⟩, ⟨false, [], none⟩, ⟨false, bs, none⟩] w) (fun _ _ => False) (fun _ => True) N1 B13) _ _
  apply X.opEq (T := T13) T13_ok
  · exact opE_append (te := ti87) (new := nw) (m := 1) rfl rfl rfl rfl rfl rfl rfl rfl (appSrc_row (g := ⟨true, nw, none⟩) rfl rfl (by rw [hnw]; rfl) (by rw [hnw]; rfl))
      (appV_nil (te := ti87) (by decide) (appOk_ok (by decide) rfl (by rw [hnw]; rfl) (by rw [hnw]; rfl) (by show (2 * (0 + 1) + 256) * 32 ≤ _; omega) (by omega))) rfl
  refine X.go T13_ok 5 _ rfl Try.results13 ?_
  conv => arg 2; cbv
  refine X.names fun N hNN hNl => ?_
  have hNl : N.length = 5+1 := hNl
  have hNN : N1.le N := hNN
  have hN : Nums.le [⟨b, y, 8⟩, ⟨b, y, 0⟩, ⟨sb, sy, size⟩] N := hN1.trans hNN
  obtain ⟨p5, hp5⟩ : ∃ p, N[5]? = some p := ⟨_, List.getElem?_eq_getElem (by omega)⟩
  have hp3 := hNN 3 _ hp3
  obtain ⟨cp', hcp'⟩ : ∃ c, c = p5.x / 2 := ⟨_, rfl⟩
  refine X.recell1 0 3 (.slv (some ⟨p5.b, p5.o, none⟩) 1 cp') rfl rfl (fun N' hN' v hv => ?_) ?_
  · have := hN' 5 p5 hp5
    simp only [SV.den, this, Num.cap, Nat.sub_zero, Nat.add_zero, ← hcp'] at hv ⊢
    exact hv
  refine X.less [0] ?_
  obtain ⟨h1, hh1⟩ : ∃ h1 : Hd, h1 = ⟨size, count, m, some ⟨p5.b, p5.o, none⟩, 1, cp', false, falls, fused, fuse⟩ := ⟨_, rfl⟩
  obtain ⟨hc0, hhc⟩ : ∃ c : List SV, c = [.int .i64 (.nat size), .int .i64 (.nat count), .raw (.map (some m)), .slv (some ⟨p5.b, p5.o, none⟩) 1 cp', .bool (.lit false), .int .u64 (.v falls), .bool (.lit fused), .int .i64 (.v fuse)] := ⟨_, rfl⟩
  have hden : ∀ N, SV.denL N hc0 = some h1.vals := fun N => by rw [hhc, hh1]; rfl
  show X (mkE Try.prog Try.f13 Q w (InR [⟨b, y, 8⟩, ⟨b, y, 0⟩, ⟨sb, sy, size⟩] [⟨true, [.int .i64 (.nat size), .int .i64 (.nat count), .raw (.map (some m)), .raw (.slice none 0 0), .bool (.lit false), .int .u64 (.v falls), .bool (.lit fused), .int .i64 (.v fuse)], none⟩, ⟨false, [], none⟩, ⟨false, bs, none⟩]) (elsewhere [⟨b, y, 8⟩, ⟨b, y, 0⟩, ⟨sb, sy, size⟩] [⟨true, [.int .i64 (.nat size), .int .i64 (.nat count), .raw (.map (some m)), .raw (.slice none 0 0), .bool (.lit false), .int .u64 (.v falls), .bool (.lit fused), .int .i64 (.v fuse)], none⟩, ⟨false, [], none⟩, ⟨false, bs, none⟩] w) (fun _ _ => False) (fun _ => True) N B13) _ ⟨[(0, .val (.own 0 0))], [⟨true, [.int .i64 (.nat size), .int .i64 (.nat count), .raw (.map (some m)), .slv (some ⟨p5.b, p5.o, none⟩) 1 cp', .bool (.lit false), .int .u64 (.v falls), .bool (.lit fused), .int .i64 (.v fuse)], none⟩, ⟨false, [], none⟩, ⟨false, bs, none⟩, ⟨true, bs, none⟩, ⟨true, nw, none⟩, ⟨true, nw, none⟩]⟩
  rw [← hhc]
  refine X.go T13_ok 400 _ rfl Try.results13 ?_
  conv => arg 2; cbv
  refine X.call rfl rfl rfl rfl Try.call40 (fun N' w1 args hN' hS ha => ?_)
  have q0 := hN' 0 _ (hN 0 _ rfl)
  have ha' : [Value.pointer (some ⟨b, y, none⟩)] = args := by simpa [SV.denL, SV.den, q0] using ha
  subst ha'
  obtain ⟨br, hbr⟩ : ∃ br, br = h1.burn := ⟨_, rfl⟩
  obtain ⟨bt, h2⟩ := br
  refine (burns_ok b y h1 w1 (hd_back q0 hS (hden N')) (fun j hj => (hS.room 0 _ _ rfl q0 rfl j hj).2)).mono fun e w2 ⟨he, k1, k2⟩ => ⟨_, he, ?_⟩
  rw [← hbr] at k1 ⊢
  obtain ⟨hc2, hhc2⟩ : ∃ c : List SV, c = h2.sv := ⟨_, rfl⟩
  refine Goes.cells (r := 0) (g := ⟨true, hc0, none⟩) hN' hS rfl q0 rfl k2 hc2 (by rw [hhc2]; exact Nat.le_refl _) (fun j c hj => by rw [hhc2] at hj; exact k1.cells N' j c hj) (rv := .bool (.lit bt)) rfl rfl ?_
  have hfin : ∀ (Ne : Nums) (w' : World) (k : Int), N.le Ne → k = (if bt then 8 else 0) → Sat (mkE Try.prog Try.f13 Q w (InR [⟨b, y, 8⟩, ⟨b, y, 0⟩, ⟨sb, sy, size⟩] [⟨true, [.int .i64 (.nat size), .int .i64 (.nat count), .raw (.map (some m)), .raw (.slice none 0 0), .bool (.lit false), .int .u64 (.v falls), .bool (.lit fused), .int .i64 (.v fuse)], none⟩, ⟨false, [], none⟩, ⟨false, bs, none⟩]) (elsewhere [⟨b, y, 8⟩, ⟨b, y, 0⟩, ⟨sb, sy, size⟩] [⟨true, [.int .i64 (.nat size), .int .i64 (.nat count), .raw (.map (some m)), .raw (.slice none 0 0), .bool (.lit false), .int .u64 (.v falls), .bool (.lit fused), .int .i64 (.v fuse)], none⟩, ⟨false, [], none⟩, ⟨false, bs, none⟩] w) (fun _ _ => False) (fun _ => True) N B13).toEnv Ne [⟨true, hc2, none⟩, ⟨false, [], none⟩, ⟨false, bs, none⟩, ⟨true, bs, none⟩, ⟨true, nw, none⟩, ⟨true, nw, none⟩] w' → Q (.returned (.int .i64 k)) w' := by
    intro Ne w' k hNe hk hS
    have q0 := hNe 0 _ (hN 0 _ rfl)
    have q3 := hNe 3 _ hp3
    have q5 := hNe 5 _ hp5
    obtain ⟨s1, s2, s3, s4, s5, s6⟩ := burn_same h1
    rw [← hbr, hh1] at s1 s2 s3 s4 s5 s6
    simp only at s1 s2 s3 s4 s5 s6
    have hl2 : nw.length = 2 := by rw [hnw]; rfl
    have hx5 := hS.ext 5 ⟨true, nw, none⟩ p5 rfl q5 rfl
    simp only [hl2] at hx5
    have hx3 := hS.ext 3 ⟨true, bs, none⟩ p3 rfl q3 rfl
    simp only [hbl] at hx3
    have hcap : cp' * 2 ≤ p5.x := by rw [hcp']; exact Nat.div_mul_le_self _ _
    have hnwd : SV.denL Ne nw = some [.int .i64 i, .slice (some ⟨p3.b, p3.o, none⟩) size p3.x] := by
      rw [hnw]; simp [SV.denL, SV.den, SI.den, q3, Num.cap]
    have hcells : ∀ (j : Nat) (c : SV) (v : Value), nw[j]? = some c → c.den Ne = some v → w'.cell? ⟨p5.b, p5.o + j, none⟩ = some v := fun j c v hj hv => by
      obtain ⟨v', e1, e2⟩ := hS.cell 5 ⟨true, nw, none⟩ p5 rfl q5 j c hj
      rw [hv] at e1; cases e1; exact e2
    have hhs : ∀ o, o < cp' * 2 → ¬ hdO b y p5.b (p5.o + o) := fun o ho ⟨e1, e2, e3⟩ => by
      rcases hS.disj 5 0 ⟨true, nw, none⟩ ⟨true, hc2, none⟩ p5 _ rfl q5 rfl q0 rfl (by decide) (p5.o + o - y) (by show _ < 8; omega) e1.symm with h | h <;> simp only at h <;> omega
    rw [hQ]
    refine ⟨bt, h1, h2, p5.b, p5.o, ⟨p3.b, p3.o, p3.x, g⟩, by rw [hk], hbr.symm, by rw [hh1, s4, s6, h0], ⟨hd_back q0 hS (by rw [hhc2]; rfl), fun j hj => (hS.room 0 _ _ rfl q0 rfl j hj).2, s4, by rw [s5, h0], ?_, fun o ho => ?_, fun q hq => ?_, ?_, ⟨hx3, fun j hj => ?_, fun j hj => (hS.room 3 _ p3 rfl q3 rfl j (by omega)).2⟩, rfl, ?_, fun o o' ho ho' => ?_, fun o ho => ?_, ?_⟩, hS.chg.mono fun k o _ h => hO k o h⟩
    · rw [s6, hcp']
      exact (Nat.le_div_iff_mul_le (by decide)).2 (by omega)
    · rw [s6] at ho
      exact hS.room 5 _ p5 rfl q5 rfl o (by omega)
    · omega
    · rw [h0]
      have hat : ∀ t, nw[0 * 2 + t]? = nw[t]? := fun t => by rw [Nat.zero_mul, Nat.zero_add]
      exact ⟨hcells (0 * 2 + 0) (.int .i64 (.v i)) _ (by rw [hat, hnw]; rfl) rfl, hcells (0 * 2 + 1) (.osl 3 0 size 1 none) _ (by rw [hat, hnw]; rfl) (by simp [SV.den, q3, Num.cap, By.val])⟩
    · exact hS.at q3 (g := ⟨true, bs, none⟩) rfl (j := j) (by rw [hbs]; exact bytesL_at hj) rfl
    · exact hf3
    · rw [s6] at ho
      rintro ⟨e1, e2⟩
      have := hS.disj 5 3 ⟨true, nw, none⟩ ⟨true, bs, none⟩ p5 p3 rfl q5 rfl q3 rfl (by decide) o' (by show o' < p3.x; omega) e1.symm
      simp only at e2
      omega
    · rw [s6] at ho
      exact hhs o ho
    · rcases hS.foot 5 ⟨true, nw, none⟩ p5 rfl q5 rfl with h | h
      · exact .inl h
      · refine .inr fun o ho => ?_
        rw [s6] at ho
        rcases hO _ _ (h o (by omega)) with e
        · exact absurd e (hhs o ho)
  cases bt with
  | true =>
    refine X.go T13_ok 400 _ rfl Try.results13 ?_
    conv => arg 2; cbv
    refine X.done T13_ok rfl (fun Ne w' v hNe hS hv => ?_)
    cases hv
    exact hfin Ne w' 8 hNe rfl hS
  | false =>
    refine X.go T13_ok 400 _ rfl Try.results13 ?_
    conv => arg 2; cbv
    refine X.done T13_ok rfl (fun Ne w' v hNe hS hv => ?_)
    cases hv
    exact hfin Ne w' 0 hNe rfl hS

end Go.Proofs.Ytkjhpaeminegoaa

