/- The sector's functions: settle. -/
import Derived.Test.YtkjhpaeminegoaaSe3

namespace Go.Proofs.Ytkjhpaeminegoaa
open Go.Eng

/-- a row of what waits, as it is handed through the channel -/
def wv (size : Nat) (x : Int × By) : Value := .agg #[.int .i64 x.1, x.2.val size]
def wsv (size : Nat) (x : Int × By) : List SV := [.int .i64 (.v x.1), .slv (some ⟨x.2.k, x.2.y, none⟩) size x.2.cp]

def updK (kept : Int → Option By) (q : Int) (u : By) : Int → Option By := fun i => if i = q then some u else kept i

/-- what is kept once rows have settled -/
def settleK (kept : Int → Option By) (ws : Nat → Int × By) (i0 : Nat) : Nat → Int → Option By
  | 0 => kept
  | j + 1 => updK (settleK kept ws i0 j) (ws (i0 + j)).1 (ws (i0 + j)).2

def Dk.settled (d : Dk) (i0 n : Nat) : Dk := { d with kept := settleK d.kept d.ws i0 n }

/-- the first rows, as the channel holds them -/
def bufV (size : Nat) (ws : Nat → Int × By) (i0 n : Nat) : List Value := (List.range n).map fun j => wv size (ws (i0 + j))

def gK (size : Nat) (kept : Int → Option By) : Int → Option Value := fun q => (kept q).map (·.val size)

theorem hwrap64s (i : Nat) (h : i < 1000000) : IntKind.i64.wrap ((i : Int) + 1) = ((i + 1 : Nat) : Int) := by
  simp [IntKind.wrap, IntKind.bits, IntKind.signed]; omega

set_option maxHeartbeats 4000000 in
set_option maxRecDepth 100000 in
set_option cbv.maxSteps 100000000 in
theorem settle_ok (d : Dk) (i0 n : Nat) (pl : Option Addr) (cl : Nat) (w : World) (hd : HdAt d.b d.y d.h w) (hm : MapAt d.h.m d.g w) (hn : n ≤ 1000) (hpl : 0 < n → pl = some ⟨d.wb, d.wy + i0 * 2, none⟩)
    (hrow : ∀ i, i < n → w.cell? ⟨d.wb, d.wy + (i0 + i) * 2, none⟩ = some (.int .i64 (d.ws (i0 + i)).1) ∧ w.cell? ⟨d.wb, d.wy + (i0 + i) * 2 + 1, none⟩ = some ((d.ws (i0 + i)).2.val d.h.size)) :
    Calls Try.prog 41 #[.pointer (some ⟨d.b, d.y, none⟩), .slice pl n cl] w fun e w' => e = .returned (.tuple #[]) ∧ MapAt d.h.m (d.settled i0 n).g w' ∧ Chg (fun k _ => k = d.h.m) w w' := by
  have hob := hm.ob
  have hml := objAt_lt hob
  have him : ∀ {k o v}, w.cell? ⟨k, o, none⟩ = some v → outside (fun k _ => k = d.h.m) w k o = some v := fun {k o v} h => by
    rw [outside_out (fun e => by
      obtain ⟨x, hx⟩ := Option.isSome_iff_exists.1 hob
      subst e
      rw [cell_obj hx] at h; cases h)]; exact h
  obtain ⟨m, hmm⟩ : ∃ m, m = d.h.m := ⟨_, rfl⟩
  obtain ⟨size, hsz⟩ : ∃ z, z = d.h.size := ⟨_, rfl⟩
  rw [← hmm] at hob hml him ⊢
  have hm0 : MapAt m (gK size d.kept) w := by rw [hmm, hsz]; exact hm
  obtain ⟨a0, ha0⟩ : ∃ z : Int, z = d.h.size := ⟨_, rfl⟩
  obtain ⟨a1, ha1⟩ : ∃ z : Int, z = d.h.count := ⟨_, rfl⟩
  obtain ⟨Q, hQ⟩ : ∃ Q : Ending → World → Prop, Q = fun e w' => e = .returned (.tuple #[]) ∧ MapAt m (d.settled i0 n).g w' ∧ Chg (fun k _ => k = m) w w' := ⟨_, rfl⟩
  rw [← hQ]
  refine X.beginR (fun k _ => k = m) (MapAt m (gK size d.kept)) (ss := [.ext d.b d.y 0, .slv pl n cl]) Try.func41 rfl B41_ok rfl rfl (fun k o e => .inr (by subst e; exact hob)) (fun w1 w2 hs _ h => h.at (hs _ 0 rfl).2) hm0 ?_
  obtain ⟨im, hime⟩ : ∃ im, im = outside (fun k _ => k = m) w := ⟨_, rfl⟩
  have himm : ∀ o, im m o = none := fun o => by rw [hime]; exact outside_in rfl
  rw [← hime] at him
  show X (mkE Try.prog Try.f41 Q w (fun k _ => k = m) (outside (fun k _ => k = m) w) (fun k _ => k = m) (MapAt m (gK size d.kept)) [] B41) _ _
  rw [← hime]
  refine X.go T41_ok 400 _ rfl Try.results41 ?_
  conv => arg 2; cbv
  refine X.newR (.chan n #[] false 0 0 false) trivial (fun b => .chan (some b)) (fun _ => rfl) rfl rfl (fun N a w1 hN hf hS => ?_) (fun b => rfl) (fun ch hch hchi hchD => ?_)
  · have h9 : a.eval (.tmp 9) = .int .i64 (n : Nat) := by
      have := ev_sound hf (o := .tmp 9) (s := .int .i64 (.nat n)) rfl
      simpa [SV.den, SI.den] using this.symm
    obtain ⟨i, hi, hib⟩ := (T41_ok.ok 87 ti87 rfl).info
    have := Conc.run_makeChan (P := Try.prog) (w := w1) Try.underlying113 hi .i64 n (by omega) (by rw [hib]; show (32 : Int) * n ≤ _; omega)
    simp only [execOp, h9, this, Sem.run_bind, Sem.run_pure, Result.andThen]
  have hch : w.heap.size ≤ ch := hch
  have hchm : ch ≠ m := by omega
  obtain ⟨D2, hD2⟩ : ∃ D2 : Nat → Nat → Prop, D2 = fun k _ => k = m ∨ k = ch := ⟨_, rfl⟩
  have hDO : ∀ k o, D2 k o → w.heap.size ≤ k ∨ k = m := fun k o h => by
    rw [hD2] at h
    rcases h with h | h
    · exact .inr h
    · exact .inl (by omega)
  have hDi : ∀ k o, D2 k o → im k o = none := fun k o h => by
    rw [hD2] at h
    rcases h with h | h
    · rw [h]; exact himm o
    · rw [h]; exact hchi o
  show X (mkE Try.prog Try.f41 Q w (fun k _ => k = m) im (fun k _ => k = m ∨ k = ch) (fun w => MapAt m (gK size d.kept) w ∧ objAt w ch = some (.chan n #[] false 0 0 false)) [] B41) _ _
  rw [← hD2]
  have hloc : ∀ (g : Int → Option Value) (x : Obj), Eng.Loc D2 (fun w => MapAt m g w ∧ objAt w ch = some x) := fun g x w1 w2 hs _ h => by
    rw [hD2] at hs
    exact ⟨h.1.at (hs m 0 (.inl rfl)).2, by rw [(hs ch 0 (.inr rfl)).2]; exact h.2⟩
  refine X.go T41_ok 400 _ rfl Try.results41 ?_
  conv => arg 2; cbv
  -- the sends
  refine X.loop (E := mkE Try.prog Try.f41 Q w (fun k _ => k = m) im D2 (fun w => MapAt m (gK size d.kept) w ∧ objAt w ch = some (.chan n #[] false 0 0 false)) [] B41)
    (fun i : {i : Nat // i ≤ n} => mkE Try.prog Try.f41 Q w (fun k _ => k = m) im D2 (fun w => MapAt m (gK size d.kept) w ∧ objAt w ch = some (.chan n (bufV size d.ws i0 i.1).toArray false i.1 0 false)) [] B41)
    (fun i => ⟨[(0, .val (.ext d.b d.y 0)), (4, .val (.raw (.chan (some ch)))), (11, .val (.slv pl n cl)), (12, .val (.int .i64 (.nat n))), (13, .val (.int .i64 (.nat i.1)))], []⟩) (fun i => n - i.1) (fun i => ⟨rfl, rfl, rfl, rfl⟩) (fun N a w' hN hf hS => ⟨⟨0, Nat.zero_le _⟩, ?_⟩) (fun i q hq => ?_)
  · exact At.same hN hf hS (Nat.zero_le _) ⟨⟨_, rfl, .inl ⟨rfl, rfl⟩⟩, ⟨_, rfl, .inl ⟨rfl, rfl⟩⟩, ⟨_, rfl, .inl ⟨rfl, rfl⟩⟩, ⟨_, rfl, .inl ⟨rfl, rfl⟩⟩, ⟨_, rfl, .inr ⟨_, rfl, rfl⟩⟩, trivial⟩ trivial
  obtain ⟨i, hi⟩ := i
  refine X.go T41_ok 400 _ rfl Try.results41 ?_
  conv => arg 2; cbv
  refine X.cond rfl (fun hlt => ?_) (fun hge => ?_)
  · simp only [SB.T, SI.den] at hlt
    have hlt : i < n := by omega
    refine X.go T41_ok 400 _ rfl Try.results41 ?_
    conv => arg 2; cbv
    have hr := hrow i hlt
    rw [← hsz] at hr
    obtain ⟨x, hx⟩ : ∃ x, x = d.ws (i0 + i) := ⟨_, rfl⟩
    rw [← hx] at hr
    obtain ⟨xi, uk, uy, ucp, uf⟩ := x
    obtain ⟨z, hz⟩ : ∃ z, z = d.wy + (i0 + i) * 2 := ⟨_, rfl⟩
    rw [← hz] at hr
    refine X.idxSlv rfl rfl rfl rfl rfl Try.underlying81 Try.sizeOf87 i rfl hlt d.wb (d.wy + i0 * 2) z (hpl (by omega)) (by omega) rfl ?_
    refine X.loadN T41_ok (rs := [.int .i64 (.v xi), .slv (some ⟨uk, uy, none⟩) size ucp]) rfl rfl rfl rfl rfl rfl rfl (fun N _ => ⟨[.int .i64 xi, .slice (some ⟨uk, uy, none⟩) size ucp], rfl, fun j v hj => ?_⟩) rfl ?_
    · show im d.wb (z + 0 + j) = _
      match j, hj with
      | 0, hj => simp at hj; subst hj; exact him hr.1
      | 1, hj => simp at hj; subst hj; exact him hr.2
      | j + 2, hj => simp at hj
    refine X.go T41_ok 3 _ rfl Try.results41 ?_
    conv => arg 2; cbv
    refine X.reg (XS.move rfl rfl rfl rfl rfl (XS.load T41_ok rfl rfl rfl rfl rfl rfl (XS.sendR (fun w => MapAt m (gK size d.kept) w ∧ objAt w ch = some (.chan n (bufV size d.ws i0 (i + 1)).toArray false (i + 1) 0 false)) ch rfl rfl rfl rfl rfl
      ⟨0, by rw [hD2]; exact .inr rfl⟩ hDO hDi (fun g hg => by simp at hg; subst hg; exact .inl rfl) (hloc _ _) (fun N w1 v hN hR hv => ?_) rfl (XS.toX ?_))))
    · obtain ⟨h1, h2⟩ := hR
      have hv' : Value.agg #[.int .i64 xi, .slice (some ⟨uk, uy, none⟩) size ucp] = v := Option.some.inj hv
      have hlt2 := objAt_lt (by rw [h2]; rfl)
      refine ⟨n, _, i, 0, heap_objAt h2, by simp [bufV]; exact hlt, h1.at (objAt_put_ne (fun e => hchm e.symm)), ?_⟩
      rw [objAt_put_same hlt2 (show notCells (.chan _ _ _ _ _ _) from trivial), ← hv']
      simp [bufV, List.range_succ, ← hx, wv, By.val]
    show X (mkE Try.prog Try.f41 Q w (fun k _ => k = m) im D2 (fun w => MapAt m (gK size d.kept) w ∧ objAt w ch = some (.chan n (bufV size d.ws i0 (i + 1)).toArray false (i + 1) 0 false)) [] B41) _ _
    refine X.go T41_ok 400 _ rfl Try.results41 ?_
    conv => arg 2; cbv
    refine X.back (fun N a w' hN hf hS => hq ⟨i + 1, by omega⟩ a w' (by simp only; omega) ?_)
    exact At.same hN hf hS (Nat.zero_le _) ⟨⟨_, rfl, .inl ⟨rfl, rfl⟩⟩, ⟨_, rfl, .inl ⟨rfl, rfl⟩⟩, ⟨_, rfl, .inl ⟨rfl, rfl⟩⟩, ⟨_, rfl, .inl ⟨rfl, rfl⟩⟩, ⟨_, rfl, .inr ⟨_, rfl, by simp [SV.den, SI.den, hwrap64s i (by omega)]⟩⟩, trivial⟩ trivial
  · simp only [SB.F, SI.den] at hge
    obtain rfl : i = n := by omega
    refine X.go T41_ok 400 _ rfl Try.results41 ?_
    conv => arg 2; cbv
    have hbl : (bufV size d.ws i0 i).length = i := by simp [bufV]
    refine X.putR (fun w => MapAt m (gK size d.kept) w ∧ objAt w ch = some (.chan i (bufV size d.ws i0 i).toArray true i 0 false)) ch (.tup []) rfl rfl ⟨0, by rw [hD2]; exact .inr rfl⟩ hDO hDi (fun g hg => by simp at hg) (hloc _ _) (fun N a w1 hN hf hS => ?_) rfl ?_
    · have h20 : a.eval (.tmp 20) = .chan (some ch) := by
        have := ev_sound hf (o := .tmp 20) (s := .raw (.chan (some ch))) rfl
        simpa [SV.den, one?] using this.symm
      obtain ⟨h1, h2⟩ := hS.res
      have hlt2 := objAt_lt (by rw [h2]; rfl)
      refine ⟨.chan i (bufV size d.ws i0 i).toArray true i 0 false, .tuple #[], ?_, rfl, by rw [h2]; rfl, trivial, h1.at (objAt_put_ne (fun e => hchm e.symm)), objAt_put_same hlt2 trivial⟩
      simp [execOp, resolve, invoke, builtin, h20, Go.run_close_open _ _ (heap_objAt h2), Result.andThen, putOb]
    refine X.go T41_ok 400 _ rfl Try.results41 ?_
    conv => arg 2; cbv
    clear hn hq hge
    obtain ⟨bufs, hbufs⟩ : ∃ bufs, bufs = bufV size d.ws i0 i := ⟨_, rfl⟩
    rw [← hbufs] at hbl
    rw [← hbufs]
    have hbg : ∀ q, q < i → bufs[q]? = some (wv size (d.ws (i0 + q))) := fun q hq => by
      rw [hbufs]; simp [bufV, List.getElem?_range hq]
    refine X.loop (E := mkE Try.prog Try.f41 Q w (fun k _ => k = m) im D2 (fun w => MapAt m (gK size d.kept) w ∧ objAt w ch = some (.chan i bufs.toArray true i 0 false)) [] B41)
      (fun j : {j : Nat // j ≤ i} => mkE Try.prog Try.f41 Q w (fun k _ => k = m) im D2 (fun w => MapAt m (gK size (settleK d.kept d.ws i0 j.1)) w ∧ objAt w ch = some (.chan i (bufs.drop j.1).toArray true i j.1 false)) [] B41)
      (fun _ => ⟨[(0, .val (.ext d.b d.y 0)), (21, .val (.raw (.chan (some ch))))], []⟩) (fun j => i - j.1) (fun j => ⟨rfl, rfl, rfl, rfl⟩) (fun N a w' hN hf hS => ⟨⟨0, Nat.zero_le _⟩, ?_⟩) (fun j q hq => ?_)
    · exact At.same hN hf hS (Nat.zero_le _) ⟨⟨_, rfl, .inl ⟨rfl, rfl⟩⟩, ⟨_, rfl, .inl ⟨rfl, rfl⟩⟩, trivial⟩ trivial
    obtain ⟨j, hj⟩ := j
    have hjl : j < i ∨ j = i := by omega
    rcases hjl with hlt | rfl
    · obtain ⟨x, hx⟩ : ∃ x, x = d.ws (i0 + j) := ⟨_, rfl⟩
      obtain ⟨xi, uk, uy, ucp, uf⟩ := x
      have hgj := hbg j hlt
      rw [← hx] at hgj
      refine X.go T41_ok 1 _ rfl Try.results41 ?_
      conv => arg 2; cbv
      refine X.reg (XS.recvR (fun w => MapAt m (gK size (settleK d.kept d.ws i0 j)) w ∧ objAt w ch = some (.chan i (bufs.drop (j + 1)).toArray true i (j + 1) false)) ch (.agg [.int .i64 (.v xi), .slv (some ⟨uk, uy, none⟩) size ucp]) rfl rfl rfl Try.underlying113 (fun w => Try.zeroValue87 w) rfl
        ⟨0, by rw [hD2]; exact .inr rfl⟩ hDO hDi (fun g hg => by simp at hg) (hloc _ _) (fun N w1 hN hR => ?_) rfl (XS.toX ?_))
      · obtain ⟨h1, h2⟩ := hR
        have hlt2 := objAt_lt (by rw [h2]; rfl)
        refine ⟨i, _, true, i, j, heap_objAt h2, by simp [hbl]; omega, ?_, h1.at (objAt_put_ne (fun e => hchm e.symm)), ?_⟩
        · have : (bufs.drop j)[0]? = some (wv size ⟨xi, uk, uy, ucp, uf⟩) := by simpa using hgj
          simp [SV.den, SV.denL, SI.den, hgj, wv, By.val]
        · rw [objAt_put_same hlt2 (show notCells (.chan _ _ _ _ _ _) from trivial)]
          simp
          exact List.take_of_length_le (by simp; omega)
      show X (mkE Try.prog Try.f41 Q w (fun k _ => k = m) im D2 (fun w => MapAt m (gK size (settleK d.kept d.ws i0 j)) w ∧ objAt w ch = some (.chan i (bufs.drop (j + 1)).toArray true i (j + 1) false)) [] B41) _ _
      refine X.go T41_ok 400 _ rfl Try.results41 ?_
      conv => arg 2; cbv
      refine X.less [7, 0, 21] ?_
      show X (mkE Try.prog Try.f41 Q w (fun k _ => k = m) im D2 (fun w => MapAt m (gK size (settleK d.kept d.ws i0 j)) w ∧ objAt w ch = some (.chan i (bufs.drop (j + 1)).toArray true i (j + 1) false)) [] B41) _ ⟨[(7, .val (.own 0 0)), (0, .val (.ext d.b d.y 0)), (21, .val (.raw (.chan (some ch))))], _⟩
      refine X.see d.b d.y [.int .i64 (.v a0), .int .i64 (.v a1), .raw (.map (some m))] (fun q c hq => ?_) (by simp) (fun N0 hN0 hNl => ?_)
      · match q, hq with
        | 0, hq => simp at hq; subst hq; exact ⟨_, rfl, him (by rw [ha0]; exact hd 0 _ rfl)⟩
        | 1, hq => simp at hq; subst hq; exact ⟨_, rfl, him (by rw [ha1]; exact hd 1 _ rfl)⟩
        | 2, hq => simp at hq; subst hq; exact ⟨_, rfl, him (by rw [hmm]; exact hd 2 _ rfl)⟩
        | q + 3, hq => simp at hq
      have hNl : N0.length = 1 := hNl
      have hget : (N0 ++ [(⟨d.b, d.y, 0⟩ : Num)])[1]? = some ⟨d.b, d.y, 0⟩ := by rw [List.getElem?_append_right (by omega)]; simp [hNl]
      refine X.reval 0 (.own 1 0) (v := .ext d.b d.y 0) rfl (fun N hN x hx => ?_) ?_
      · have := hN 1 _ hget
        simp only [SV.den, this] at hx ⊢
        exact hx
      show X (mkE Try.prog Try.f41 Q w (fun k _ => k = m) im D2 (fun w => MapAt m (gK size (settleK d.kept d.ws i0 j)) w ∧ objAt w ch = some (.chan i (bufs.drop (j + 1)).toArray true i (j + 1) false)) (N0 ++ [⟨d.b, d.y, 0⟩]) B41) _ _
      refine X.drawnL (fn := Try.f41) T41_ok noCall (idxG 33 []) 8 [] 8 rfl (by kernel_rfl) rfl noCall_ok (idxG_ok [] rfl (fun q hq => absurd hq List.not_mem_nil)) 33 rfl ?_
      generalize hfin : (fun s' => X (mkE Try.prog Try.f41 Q w (fun k _ => k = m) im D2 (fun w => MapAt m (gK size (settleK d.kept d.ws i0 j)) w ∧ objAt w ch = some (.chan i (bufs.drop (j + 1)).toArray true i (j + 1) false)) (N0 ++ [⟨d.b, d.y, 0⟩]) B41) _ s') = fin
      conv => cbv
      repeat (first | refine ⟨rfl, ?_⟩ | refine ⟨⟨_, _, rfl, rfl⟩, ?_⟩ | refine ⟨⟨rfl, _, _, rfl, rfl⟩, ?_⟩)
      subst hfin
      show X _ _ _
      refine X.drop 1 (by simp) ?_
      refine X.mapPutR (fun w => MapAt m (gK size (settleK d.kept d.ws i0 (j + 1))) w ∧ objAt w ch = some (.chan i (bufs.drop (j + 1)).toArray true i (j + 1) false)) (m := m) (j := .v xi) (gK size (settleK d.kept d.ws i0 j)) rfl rfl rfl Try.underlying80 Try.underlying3 rfl rfl rfl ⟨0, by rw [hD2]; exact .inl rfl⟩ hDO hDi
        (fun g hg => by simp at hg; rcases hg with rfl | rfl; exact .inl rfl; exact .inr rfl) (hloc _ _) (fun w h => h.1) (fun N w1 c ob hN hS hc hnc hmp => ?_) rfl ?_
      · have hc' : Value.slice (some ⟨uk, uy, none⟩) size ucp = c := Option.some.inj hc
        obtain ⟨h1, h2⟩ := hS.res
        refine ⟨?_, by rw [objAt_put_ne hchm]; exact h2⟩
        have e : gK size (settleK d.kept d.ws i0 (j + 1)) = fun q => if q = (SI.v xi).den then some c else gK size (settleK d.kept d.ws i0 j) q := by
          funext q
          simp only [gK, settleK, updK, ← hx]
          show Option.map _ (if q = xi then _ else _) = (if q = xi then some c else _)
          split
          · rw [← hc']; rfl
          · rfl
        rw [e]; exact hmp
      show X (mkE Try.prog Try.f41 Q w (fun k _ => k = m) im D2 (fun w => MapAt m (gK size (settleK d.kept d.ws i0 (j + 1))) w ∧ objAt w ch = some (.chan i (bufs.drop (j + 1)).toArray true i (j + 1) false)) (N0 ++ [⟨d.b, d.y, 0⟩]) B41) _ _
      refine X.go T41_ok 400 _ rfl Try.results41 ?_
      conv => arg 2; cbv
      refine X.back (fun N a w' hN hf hS => hq ⟨j + 1, by omega⟩ a w' (by simp only; omega) ?_)
      refine At.mk (N0 := []) (fun r p h => by simp at h) hf hS (Nat.zero_le _) ⟨⟨_, rfl, .inr ?_⟩, ⟨_, rfl, .inl ⟨rfl, rfl⟩⟩, trivial⟩ trivial (fun _ _ _ h => h) hS.loc hS.res
      have := hN 1 _ hget
      exact ⟨_, by simp only [SV.den, this], rfl⟩
    · refine X.go T41_ok 1 _ rfl Try.results41 ?_
      conv => arg 2; cbv
      refine X.reg (XS.shutR ch (.agg [.int .i64 (.lit 0), .raw (.slice none 0 0)]) rfl rfl rfl Try.underlying113 (fun w => Try.zeroValue87 w) (fun N => rfl) rfl (fun w hR => ⟨j, j, j, ?_⟩) rfl (XS.toX ?_))
      · have := heap_objAt hR.2
        simpa [hbl, List.drop_of_length_le] using this
      refine X.go T41_ok 400 _ rfl Try.results41 ?_
      conv => arg 2; cbv
      refine X.over T41_ok rfl (fun N w' v hN hS hv => ?_)
      have hv' : Value.tuple #[] = v := Option.some.inj hv
      rw [hQ]
      refine ⟨by rw [← hv'], ?_, hS.chg⟩
      have := hS.res.1
      rw [hsz] at this
      exact this

end Go.Proofs.Ytkjhpaeminegoaa
