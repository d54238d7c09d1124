/- RingTurned. -/
import Derived.Test.YthaffebapmkppaaRi11

namespace Go.Proofs.Ythaffebapmkppaa
open Go Go.Eng Go.Sort

/-- what is known becomes a region that is only read -/
theorem X.addRo {P : Program} {fn : Func} {Q : Ending → World → Prop} {W : World} {O D : Nat → Nat → Prop} {Rr : World → Prop} {im : Mem} {B : SchT} {k : List It} {f : Fr} (f' : Fr) (b y : Nat) {cs : List SV} (h0 : 0 < cs.length) (hc : ∀ (j : Nat) (c : SV), cs[j]? = some c → ∃ v, (∀ N, c.den N = some v) ∧ im b (y + j) = some v)
    (hs : Sh [] [⟨b, y, cs.length⟩] f f') (h : X (mkE P fn Q W O im D Rr [] B) k ⟨f', [⟨false, cs, none⟩]⟩) : X (mkE P fn Q W O im D Rr [] B) k ⟨f, []⟩ := by
  refine X.conv fun N a w hN hf hS => ?_
  have hN0 : N = [] := List.eq_nil_of_length_eq_zero hS.len
  subst hN0
  refine ⟨mkE P fn Q W O im D Rr [] B, ⟨f', [⟨false, cs, none⟩]⟩, rfl, rfl, rfl, rfl, ⟨[⟨b, y, cs.length⟩], nil_le _, hf.sh hs, ?_⟩, h⟩
  have own0 : ∀ {r : Nat} {g : Rg}, ([⟨false, cs, none⟩] : List Rg)[r]? = some g → g = ⟨false, cs, none⟩ := fun {r g} h => by
    match r, h with
    | 0, h => exact (Option.some.inj h).symm
  have num0 : ∀ {r : Nat} {q : Num}, ([⟨b, y, cs.length⟩] : Nums)[r]? = some q → q = ⟨b, y, cs.length⟩ := fun {r q} h => by
    match r, h with
    | 0, h => exact (Option.some.inj h).symm
  have cell : ∀ (j : Nat) (c : SV), cs[j]? = some c → ∃ v, c.den [⟨b, y, cs.length⟩] = some v ∧ w.cell? ⟨b, y + j, none⟩ = some v := fun j c hj => by
    obtain ⟨v, h1, h2⟩ := hc j c hj
    exact ⟨v, h1 _, hS.imm _ _ _ h2⟩
  exact { hS with
    len := rfl
    lt := fun r q hq => by
      rw [num0 hq]
      obtain ⟨v, _, h2⟩ := cell 0 _ (List.getElem?_eq_getElem h0)
      exact World.block_lt_of_cell? _ _ h2
    cell := fun r g q hg hq j c hj => by
      rw [num0 hq]
      rw [own0 hg] at hj
      exact cell j c hj
    ext := fun r g q hg hq ho => by rw [own0 hg] at ho; cases ho
    room := fun r g q hg hq ho => by rw [own0 hg] at ho; cases ho
    disj := fun r r' g g' q q' hg hq hg' hq' ho => by rw [own0 hg] at ho; cases ho
    obj := fun r g q ob hg hq ho => by rw [own0 hg] at ho; cases ho
    odisj := fun r r' g g' q q' hg hq hg' hq' ho => by rw [own0 hg] at ho; cases ho
    imd := fun r g q hg hq ho => by rw [own0 hg] at ho; cases ho
    dd := fun r g q hg hq ho => by rw [own0 hg] at ho; cases ho
    foot := fun r g q hg hq ho => by rw [own0 hg] at ho; cases ho }

set_option maxHeartbeats 4000000 in
set_option maxRecDepth 100000 in
set_option cbv.maxSteps 100000000 in
theorem turned_out (po : Option Addr) (n cp : Nat) (bz key : Int) (w : World) (hn : 80 < n ∨ n = 0) :
    Calls Try.prog 5 #[.slice po n cp, .int .u8 bz, .int .u8 key] w fun e w' => e = .returned (.bool true) ∧ Chg (fun _ _ => False) w w' := by
  refine X.begin (rg := []) (N := []) (ss := [.slv po n cp, .int .u8 (.v bz), .int .u8 (.v key)]) Try.func5 rfl B5_ok rfl rfl Sat.std0 ?_
  refine X.go T5_ok 400 _ rfl Try.results5 ?_
  conv => arg 2; cbv
  refine X.cond rfl (fun h => ?_) (fun h => ?_)
  · skip
    refine X.go T5_ok 400 _ rfl Try.results5 ?_
    conv => arg 2; cbv
    refine X.call rfl rfl rfl rfl Try.call11 (fun N w1 args hN hS ha => ?_)
    have ha : args = [] := (Option.some.inj ha).symm
    rw [ha]
    refine (awake_ok w1).mono fun e w2 ⟨he, hch⟩ => ⟨_, he, Goes.same hN hS hch (r := .bool (.lit true)) rfl rfl ?_⟩
    refine X.go T5_ok 400 _ rfl Try.results5 ?_
    conv => arg 2; cbv
    refine X.done T5_ok rfl (fun N w' v hN hS hv => ?_)
    exact ⟨fin_bool hv rfl, hS.chg.none⟩
  · simp [SB.T, SB.F, SI.den] at h
    omega

theorem X.noNames {P : Program} {fn : Func} {Q : Ending → World → Prop} {W : World} {O D : Nat → Nat → Prop} {Rr : World → Prop} {im : Mem} {B : SchT} {N0 : Nums} {k : List It} {s : St} (h : X (mkE P fn Q W O im D Rr [] B) k s) : X (mkE P fn Q W O im D Rr N0 B) k s :=
  X.conv fun N a w hN hf hS => ⟨mkE P fn Q W O im D Rr [] B, s, rfl, rfl, rfl, rfl, ⟨N, nil_le N, hf, hS.env rfl rfl rfl rfl rfl⟩, h⟩

theorem good_hi {P : Program} {n : Nat} {ops : Array Oper} {N0 : Nums} {j d t e x hi m c zh : Nat} {q0 : Num} (hop : ∀ o, nth ops.toList j = some o → o.op = .slice t (.tmp x) none (some (.tmp hi)) none) (hu : P.underlying t = some (.slice e)) (hq : ∀ w, (sizeOf e).run P w = .ok 1 w) (hN0 : N0[0]? = some q0) (h1 : zh ≤ m) (h2 : m ≤ c) (h3 : 0 < c) :
    ValS.good P n ops N0 ⟨j, d, .osl 0 0 zh 1 (some c), fun f => ev f (.tmp x) = some (.osl 0 0 m 1 (some c)) ∧ ∃ kd e, ev f (.tmp hi) = some (.int kd e) ∧ e.den = (zh : Int)⟩ := by
  rintro f ⟨hx, kl, el, hil, hel⟩ N a o w hN ho hfr
  have e1 := ev_sound hfr hx
  have e2 := ev_sound hfr hil
  have hp := hN 0 _ hN0
  simp only [SV.den, hp, Num.cap, Option.some.injEq] at e1 e2
  refine ⟨.slice (some ⟨q0.b, q0.o + 0, none⟩) zh c, by simp only [SV.den, hp, Num.cap], fun w' => ?_⟩
  have hb := run_sliceBounds (P := P) (w := w') (ρ' := a.eval) (b := true) (len := m) (cap := c) (lo := none) (hi := some (.tmp hi)) (mx := none) (l := none) (h := some zh) (m := none) (.inl ⟨rfl, rfl⟩) (.inr ⟨kl, zh, by simp [← e2, hel], rfl⟩) (.inl ⟨rfl, rfl⟩)
    (by simp) (by simp; omega) (by simp) (by simp)
  simp only [Option.map_none, Option.map_some, Option.getD_none, Option.getD_some] at hb
  simp [execOp, hop o ho, ← e1, Instr.sliceAt, run_underlying hu, Result.andThen, Instr.slice, hb, hq, addr_add]

theorem byL_den {d : Array Int} {c : SV} {N N' : Nums} {v : Value} (h : c ∈ byL d) (hv : c.den N = some v) : c.den N' = some v := by
  obtain ⟨x, _, rfl⟩ := List.mem_map.1 h; exact hv
theorem len1 {α : Type} {l : List α} (h : l.length = 1) : ∃ a, l = [a] := by
  match l, h with
  | [a], _ => exact ⟨a, rfl⟩

theorem inB_of {E : Env} {N : Nums} {rg : List Rg} {w : World} (hS : Sat E N rg w) {r n : Nat} {ow : Bool} {x : Array Int} {xs : List SV} {p : Num} (hg : rg[r]? = some ⟨ow, xs, none⟩) (hp : N[r]? = some p) (hx : xs = byL x) (hn : x.size = n) : InB (some ⟨p.b, p.o + 0, none⟩) n x w := ⟨hn, fun _ => ⟨p.b, p.o, rfl, fun j hj => by
  obtain ⟨v, h1, h2⟩ := hS.cell r _ p hg hp j _ (by rw [hx]; exact byL_at hj)
  simp only [SV.den, SI.den, Option.some.injEq] at h1
  rw [h2, ← h1]⟩⟩

theorem ptIn_of {E : Env} {N : Nums} {rg : List Rg} {w : World} (hS : Sat E N rg w) {r : Nat} {ow : Bool} {L : List (Int × Int)} {xs : List SV} {p : Num} (hg : rg[r]? = some ⟨ow, xs, none⟩) (hp : N[r]? = some p) (hx : xs = ptsL L) : PtIn p.b (p.o + 0) L w := fun j hj => by
  have cell : ∀ k, k < L.length * 2 → w.cell? ⟨p.b, p.o + k, none⟩ = some (flatK ptC 2 L.toArray)[k]! := fun k hk => by
    obtain ⟨c, h1, h2⟩ := ptsL_get L k hk
    obtain ⟨v, h3, h4⟩ := hS.cell r _ p hg hp k c (by rw [hx]; exact h1)
    rw [h2] at h3
    cases h3
    exact h4
  have h1 := cell (j * 2) (by omega)
  have h2 := cell (j * 2 + 1) (by omega)
  rw [get_flatK _ _ _ _ (by simp; omega)] at h1 h2
  rw [show j * 2 / 2 = j by omega, show j * 2 % 2 = 0 by omega] at h1
  rw [show (j * 2 + 1) / 2 = j by omega, show (j * 2 + 1) % 2 = 1 by omega] at h2
  have e : L.toArray[j]! = L[j]! := by simp
  rw [e] at h1 h2
  exact ⟨h1, h2⟩

theorem num_of {E : Env} {N : Nums} {rg : List Rg} {w : World} (hS : Sat E N rg w) {r : Nat} {g : Rg} (hg : rg[r]? = some g) : ∃ p, N[r]? = some p := ⟨_, List.getElem?_eq_getElem (by rw [hS.len]; exact (List.getElem?_eq_some_iff.1 hg).1)⟩

def sndC : Code → Code
  | .seq _ b => b
  | c => c

set_option maxHeartbeats 8000000 in
set_option maxRecDepth 100000 in
set_option cbv.maxSteps 100000000 in
theorem turned_tail (n cp : Nat) (d l : Array Int) (cs ls : List SV) (key : Int) (w : World) (Q : Ending → World → Prop) (hQ : Q = fun e w' => e = .returned (.bool true) ∧ Chg (fun _ _ => False) w w') (h0 : 0 < n) (h80 : n ≤ 80) (hn : d.size = n) (hln : l.size = n) (hc : n ≤ cp) (hperm : l.toList.Perm d.toList)
    (hd : ∀ x ∈ d.toList, 0 ≤ x ∧ x < 256) (hcs : cs = byL d) (hls : ls = byL l) :
    X (mkE Try.prog Try.f5 Q w (InR [] []) (elsewhere [] [] w) (fun _ _ => False) (fun _ => True) [] B5) [It.code (sndC (sndC (sndC (sndC (Try.f5.body.getD .skip)))))] ⟨[(8, .val (.osl 1 0 n 1 none)), (0, .val (.osl 0 0 n 1 (some cp))), (2, .val (.int .u8 (.v key)))], [⟨false, cs, none⟩, ⟨true, ls, none⟩]⟩ := by
  refine X.go T5_ok 1 _ rfl Try.results5 ?_
  conv => arg 2; cbv
  have hle : n ≤ 1000 := by omega
  have hdl : ∀ x ∈ l.toList, 0 ≤ x ∧ x < 256 := fun x hx => hd x (hperm.mem_iff.1 hx)
  obtain ⟨L, hL⟩ : ∃ L, L = ringP d := ⟨_, rfl⟩
  have hLl : ringP l = L := by rw [hL]; exact ringP_eq hperm
  have hLne : L ≠ [] := by rw [hL]; exact ringP_pos (by omega)
  obtain ⟨m, hm⟩ : ∃ m, m = L.length := ⟨_, rfl⟩
  have hm8 : m ≤ 8000 := by rw [hm, hL]; have := ringP_len d; omega
  obtain ⟨pl, hpl⟩ : ∃ q, q = ptsL L := ⟨_, rfl⟩
  obtain ⟨F, hF⟩ : ∃ F, F = ofL d key := ⟨_, rfl⟩
  have hFl : ofL l key = F := by rw [hF, ofL, ofL, ringP_eq hperm]
  have hFne : F ≠ [] := by rw [hF]; exact ofL_pos (by omega)
  obtain ⟨q, hq⟩ : ∃ q, q = F.length := ⟨_, rfl⟩
  obtain ⟨bl, hbl⟩ : ∃ q, q = bytL F := ⟨_, rfl⟩
  obtain ⟨S, hS0⟩ : ∃ S, S = strOfNums F := ⟨_, rfl⟩
  refine X.drawnD (fn := Try.f5) T5_ok
    (orC (callAny 1 13 51 _ (fun r => .osl r 0 m 2 none) [⟨false, pl, none⟩] (fun s x => x = [.osl 1 0 n 1 none] ∧ s.rg[1]? = some ⟨true, ls, none⟩))
    (orC (callAny 3 13 51 _ (fun r => .osl r 0 m 2 none) [⟨false, pl, none⟩] (fun s x => x = [.osl 0 0 n 1 (some cp)] ∧ s.rg[0]? = some ⟨false, cs, none⟩))
    (orC (callAny 4 15 51 _ (fun _ => .bool (.lit true)) [] (fun s x => x = [.osl 2 0 m 2 none, .osl 3 0 m 2 none] ∧ s.rg[2]? = some ⟨false, pl, none⟩ ∧ s.rg[3]? = some ⟨false, pl, none⟩))
    (orC (callAny 8 12 51 _ (fun r => .osl r 0 q 1 none) [⟨false, bl, none⟩] (fun s x => x = [.osl 1 0 n 1 none, .int .u8 (.v key)] ∧ s.rg[1]? = some ⟨true, ls, none⟩))
    (orC (callAny 12 12 51 _ (fun r => .osl r 0 q 1 none) [⟨false, bl, none⟩] (fun s x => x = [.osl 0 0 n 1 (some cp), .int .u8 (.v key)] ∧ s.rg[0]? = some ⟨false, cs, none⟩))
    (callAny 17 11 51 _ (fun _ => .bool (.lit true)) [] (fun _ x => x = [])))))))
    (valR 51 _ [⟨9, 41, .raw (.string S), fun rg f => ev f (.tmp 40) = some (.osl 4 0 q 1 none) ∧ nth rg 4 = some ⟨false, bl, none⟩⟩,
      ⟨13, 45, .raw (.string S), fun rg f => ev f (.tmp 44) = some (.osl 5 0 q 1 none) ∧ nth rg 5 = some ⟨false, bl, none⟩⟩,
      ⟨14, 46, .bool (.lit true), fun _ f => ev f (.tmp 41) = some (.raw (.string S)) ∧ ev f (.tmp 45) = some (.raw (.string S))⟩]) rfl
    (orC_ok (callAny_ok Try.call13 (fun s x hp E N w1 args hP _ _ hS ha => ?_)) (orC_ok (callAny_ok Try.call13 (fun s x hp E N w1 args hP _ _ hS ha => ?_)) (orC_ok (callAny_ok Try.call15 (fun s x hp E N w1 args hP _ _ hS ha => ?_))
      (orC_ok (callAny_ok Try.call12 (fun s x hp E N w1 args hP _ _ hS ha => ?_)) (orC_ok (callAny_ok Try.call12 (fun s x hp E N w1 args hP _ _ hS ha => ?_)) (callAny_ok Try.call11 (fun s x hp E N w1 args hP _ _ hS ha => ?_)))))))
    (valR_ok _ (by kernel_rfl) (fun q' hq' => ?_)) 51 rfl ?_
  · obtain ⟨rfl, h2⟩ := hp
    obtain ⟨p, hp⟩ := num_of hS h2
    obtain ⟨c, ha⟩ : ∃ c, args = [.slice (some ⟨p.b, p.o + 0, none⟩) n c] := by
      simp only [SV.denL, SV.den, hp] at ha
      exact ⟨_, (Option.some.inj ha).symm⟩
    rw [ha]
    refine (build_ok _ n c l w1 hle (inB_of hS h2 hp hls hln)).mono fun e w' hr => ?_
    rw [hLl] at hr
    have := hr.ro hLne
    rw [← hm, ← hpl] at this
    exact this.sat (by decide) hS
  · obtain ⟨rfl, h2⟩ := hp
    obtain ⟨p, hp⟩ := num_of hS h2
    obtain ⟨c, ha⟩ : ∃ c, args = [.slice (some ⟨p.b, p.o + 0, none⟩) n c] := by
      simp only [SV.denL, SV.den, hp] at ha
      exact ⟨_, (Option.some.inj ha).symm⟩
    rw [ha]
    refine (build_ok _ n c d w1 hle (inB_of hS h2 hp hcs hn)).mono fun e w' hr => ?_
    rw [← hL] at hr
    have := hr.ro hLne
    rw [← hm, ← hpl] at this
    exact this.sat (by decide) hS
  · obtain ⟨rfl, h2, h3⟩ := hp
    obtain ⟨p, hp⟩ := num_of hS h2
    obtain ⟨p', hp'⟩ := num_of hS h3
    obtain ⟨c, c', ha⟩ : ∃ c c', args = [.slice (some ⟨p.b, p.o + 0, none⟩) m c, .slice (some ⟨p'.b, p'.o + 0, none⟩) m c'] := by
      simp only [SV.denL, SV.den, hp, hp'] at ha
      exact ⟨_, _, (Option.some.inj ha).symm⟩
    rw [ha]
    refine (same_ok _ _ _ _ m c c' _ _ L w1 (fun _ => rfl) (fun _ => rfl) hm.symm hm8 (ptIn_of hS h2 hp hpl) (ptIn_of hS h3 hp' hpl)).mono fun e w' ⟨he, hch⟩ => ⟨N, _, he, Nums.le.refl N, rfl, ?_⟩
    rw [List.append_nil]
    exact hS.after0 hch
  · obtain ⟨rfl, h2⟩ := hp
    obtain ⟨p, hp⟩ := num_of hS h2
    obtain ⟨c, ha⟩ : ∃ c, args = [.slice (some ⟨p.b, p.o + 0, none⟩) n c, .int .u8 key] := by
      simp only [SV.denL, SV.den, SI.den, hp] at ha
      exact ⟨_, (Option.some.inj ha).symm⟩
    rw [ha]
    refine (of_ok _ n c l key w1 hle (inB_of hS h2 hp hls hln) hdl).mono fun e w' hr => ?_
    rw [hFl] at hr
    have := hr.ro hFne
    rw [← hq, ← hbl] at this
    exact this.sat (by decide) hS
  · obtain ⟨rfl, h2⟩ := hp
    obtain ⟨p, hp⟩ := num_of hS h2
    obtain ⟨c, ha⟩ : ∃ c, args = [.slice (some ⟨p.b, p.o + 0, none⟩) n c, .int .u8 key] := by
      simp only [SV.denL, SV.den, SI.den, hp] at ha
      exact ⟨_, (Option.some.inj ha).symm⟩
    rw [ha]
    refine (of_ok _ n c d key w1 hle (inB_of hS h2 hp hcs hn) hd).mono fun e w' hr => ?_
    rw [← hF] at hr
    have := hr.ro hFne
    rw [← hq, ← hbl] at this
    exact this.sat (by decide) hS
  · subst hp
    have ha : args = [] := (Option.some.inj ha).symm
    rw [ha]
    refine (awake_ok w1).mono fun e w' ⟨he, hch⟩ => ⟨N, _, he, Nums.le.refl N, rfl, ?_⟩
    rw [List.append_nil]
    exact hS.after0 hch
  · simp only [List.mem_cons, List.not_mem_nil, or_false] at hq'
    rcases hq' with rfl | rfl | rfl
    · exact goodR_str1 (fun o ho => by cases ho; rfl) Try.underlying22 Try.underlying5 Try.underlying9 bl hbl hq.symm hS0
    · exact goodR_str1 (fun o ho => by cases ho; rfl) Try.underlying22 Try.underlying5 Try.underlying9 bl hbl hq.symm hS0
    · exact goodR_eq1 (fun o ho => by cases ho; rfl)
  generalize hfin : (fun s' => X (mkE Try.prog Try.f5 Q w (InR [] []) (elsewhere [] [] w) (fun _ _ => False) (fun _ => True) [] B5) _ s') = fin
  conv => cbv
  subst hfin
  show X (mkE Try.prog Try.f5 Q w (InR [] []) (elsewhere [] [] w) (fun _ _ => False) (fun _ => True) [] B5) _ _
  refine X.go T5_ok 400 _ rfl Try.results5 ?_
  conv => arg 2; cbv
  refine X.done T5_ok rfl (fun N w' v hN hS hv => ?_)
  rw [hQ]
  exact ⟨fin_bool hv rfl, hS.chg.none⟩

set_option maxHeartbeats 8000000 in
set_option maxRecDepth 100000 in
set_option cbv.maxSteps 100000000 in
theorem turned_in (b y n cp bv : Nat) (d : Array Int) (key : Int) (w : World) (h0 : 0 < n) (h80 : n ≤ 80) (hn : d.size = n) (hA : ByIn w b y d) (hc : n ≤ cp) (hd : ∀ x ∈ d.toList, 0 ≤ x ∧ x < 256) (hbv : bv < 256) :
    Calls Try.prog 5 #[.slice (some ⟨b, y, none⟩) n cp, .int .u8 bv, .int .u8 key] w fun e w' => e = .returned (.bool true) ∧ Chg (fun _ _ => False) w w' := by
  obtain ⟨Q, hQ⟩ : ∃ Q : Ending → World → Prop, Q = fun e w' => e = .returned (.bool true) ∧ Chg (fun _ _ => False) w w' := ⟨_, rfl⟩
  rw [← hQ]
  obtain ⟨cs, hcs⟩ : ∃ cs, cs = byL d := ⟨_, rfl⟩
  have hlen : cs.length = n := by rw [hcs, byL_len, hn]
  obtain ⟨p, hp⟩ : ∃ p, p = some (Addr.mk b y none) := ⟨_, rfl⟩
  rw [← hp]
  refine X.begin (rg := []) (N := []) (ss := [.slv p n cp, .int .u8 (.nat bv), .int .u8 (.v key)]) Try.func5 rfl B5_ok rfl rfl Sat.std0 ?_
  refine X.go T5_ok 400 _ rfl Try.results5 ?_
  conv => arg 2; cbv
  refine X.cond rfl (fun h => ?_) (fun h => ?_)
  · simp [SB.T, SB.F, SI.den] at h
    omega
  obtain ⟨k, hk⟩ : ∃ k, k = bv % n := ⟨_, rfl⟩
  have hkn : k < n := by rw [hk]; exact Nat.mod_lt _ h0
  refine X.goP ([(22, .int .i64 (.nat k))]) T5_ok 11 _ rfl Try.results5 (fun pr fin hpr hfin => ?_)
  conv => cbv
  refine ⟨hpr _ (vk_rem rfl rfl (fun _ => by simp (disch := omega) only [SI.den, wrapN]; exact ⟨by omega, by rw [hk]; rfl⟩)), hfin _ _ ?_⟩
  refine X.less [0, 1, 2, 7] ?_
  show X (mkE Try.prog Try.f5 Q w (InR [] []) (elsewhere [] [] w) (fun _ _ => False) (fun _ => True) [] B5) _ ⟨[(7, .val (.int .i64 (.nat k))), (0, .val (.slv p n cp)), (1, .val (.int .u8 (.nat bv))), (2, .val (.int .u8 (.v key)))], []⟩
  refine X.addRo [(7, .val (.int .i64 (.nat k))), (0, .val (.osl 0 0 n 1 (some cp))), (1, .val (.int .u8 (.nat bv))), (2, .val (.int .u8 (.v key)))] b y (cs := cs) (by omega) (fun j c hj => by
    rw [hcs] at hj
    obtain ⟨h1, rfl⟩ := byL_get hj
    exact ⟨_, fun _ => rfl, by rw [els_old]; exact hA j h1⟩) ⟨rfl, fun _ h => h, rfl, fun x h => by rw [hp] at h; simpa [SV.den, Num.cap] using h, rfl, fun _ h => h, rfl, fun _ h => h, trivial⟩ ?_
  obtain ⟨nk, hnk⟩ : ∃ q, q = n - k := ⟨_, rfl⟩
  obtain ⟨ck, hck⟩ : ∃ q, q = cp - k := ⟨_, rfl⟩
  refine X.names fun N0 _ hN0l => ?_
  show X (mkE Try.prog Try.f5 Q w (InR [] []) (elsewhere [] [] w) (fun _ _ => False) (fun _ => True) N0 B5) _ _
  obtain ⟨q0, hq0⟩ : ∃ q, N0[0]? = some q := ⟨_, List.getElem?_eq_getElem (by rw [hN0l]; simp)⟩
  refine X.drawnL (fn := Try.f5) T5_ok noCall (valO 51 _ [⟨3, 26, .osl 0 k nk 1 (some ck), fun f => ev f (.tmp 24) = some (.osl 0 0 n 1 (some cp)) ∧ ∃ kd e, ev f (.tmp 25) = some (.int kd e) ∧ e.den = (k : Int)⟩,
    ⟨7, 30, .osl 0 0 k 1 (some cp), fun f => ev f (.tmp 28) = some (.osl 0 0 n 1 (some cp)) ∧ ∃ kd e, ev f (.tmp 29) = some (.int kd e) ∧ e.den = (k : Int)⟩]) 4 [8, 9] 7 rfl (by kernel_rfl) rfl noCall_ok (valO_ok _ (by kernel_rfl) (fun q hq => ?_)) 51 rfl ?_
  · simp only [List.mem_cons, List.not_mem_nil, or_false] at hq
    rcases hq with rfl | rfl
    · refine good_from (fun o ho => by cases ho; rfl) Try.underlying22 Try.sizeOf5 fun N hN v hv => ?_
      have := hN 0 _ hq0
      simp only [SV.den, this, Num.cap, Option.some.injEq] at hv ⊢
      exact ⟨q0.b, q0.o, n, cp, by rw [← hv]; rfl, by omega, hc, by omega, by simp [hnk, hck]⟩
    · exact good_hi (fun o ho => by cases ho; rfl) Try.underlying22 Try.sizeOf5 hq0 (by omega) hc (by omega)
  generalize hfin : (fun s' => X (mkE Try.prog Try.f5 Q w (InR [] []) (elsewhere [] [] w) (fun _ _ => False) (fun _ => True) N0 B5) _ s') = fin
  conv => cbv
  refine ⟨⟨_, _, rfl, rfl⟩, ⟨_, _, rfl, rfl⟩, rfl, ?_⟩
  subst hfin
  refine X.noNames ?_
  obtain ⟨l, hl⟩ : ∃ l : Array Int, l = (d.toList.drop k ++ d.toList.take k).toArray := ⟨_, rfl⟩
  have hperm : l.toList.Perm d.toList := by
    rw [hl]
    exact List.perm_append_comm.trans (by rw [List.take_append_drop])
  have hln : l.size = n := by have := hperm.length_eq; simpa [hn] using this
  obtain ⟨ls, hls⟩ : ∃ ls, ls = byL l := ⟨_, rfl⟩
  obtain ⟨c1, hc1⟩ : ∃ c, c = (cs.drop k).take nk := ⟨_, rfl⟩
  obtain ⟨c2, hc2⟩ : ∃ c, c = (cs.drop 0).take k := ⟨_, rfl⟩
  have hc12 : c1 ++ c2 = ls := by
    have e1 : c1 = cs.drop k := by rw [hc1]; exact List.take_of_length_le (by simp; omega)
    have e2 : c2 = cs.take k := by rw [hc2]; rfl
    rw [e1, e2, hls, hl, hcs]
    simp [byL, List.map_drop, List.map_take]
  have h1l : c1.length = nk := by rw [hc1]; simp; omega
  have h2l : c2.length = k := by rw [hc2]; simp; omega
  have ho1 : c1.all SV.one = true := List.all_eq_true.2 fun c hc => List.all_eq_true.1 (byL_one d) c (by rw [← hcs]; rw [hc1] at hc; exact List.mem_of_mem_drop (List.mem_of_mem_take hc))
  have ho2 : c2.all SV.one = true := List.all_eq_true.2 fun c hc => List.all_eq_true.1 (byL_one d) c (by rw [← hcs]; rw [hc2] at hc; exact List.mem_of_mem_drop (List.mem_of_mem_take hc))
  have hnkk : nk + k = n := by omega
  refine X.opEq (T := T5) T5_ok (opE_append (te := ti5) (new := c1) (m := nk) rfl rfl rfl rfl rfl rfl rfl rfl (by rw [hc1]; exact appSrc_part (te := ti5) (ti := ti22) (g := ⟨false, cs, none⟩) rfl rfl rfl rfl (by show k + nk ≤ cs.length; omega))
    (appV_new (te := ti5) rfl (by omega) (appOk_ok (by decide) rfl (by show c1.length = nk * 1; omega) ho1 (by show (2 * (0 + nk) + 256) * 1 ≤ _; omega) (by omega))) rfl) ?_
  by_cases hk0 : k = 0
  · have hnn : nk = n := by omega
    have hc20 : c2 = [] := List.eq_nil_of_length_eq_zero (by omega)
    have hc1l : c1 = ls := by rw [← hc12, hc20, List.append_nil]
    refine X.opEq (T := T5) T5_ok (opE_append (te := ti5) (new := []) (m := 0) rfl rfl rfl rfl rfl rfl rfl rfl (by rw [← hc20, hc2, hk0]; exact appSrc_part (te := ti5) (ti := ti22) (g := ⟨false, cs, none⟩) rfl rfl rfl rfl (by show 0 + 0 ≤ cs.length; omega))
      (appV_none (te := ti5) (n := nk) (cs := c1) rfl (by show c1.length = nk * 1; omega) (appOk_ok (by decide) rfl rfl rfl (by show (2 * (nk + 0) + 256) * 1 ≤ _; omega) (by omega))) rfl) ?_
    rw [hnn, hc1l]
    refine X.go T5_ok 2 _ rfl Try.results5 ?_
    conv => arg 2; cbv
    refine X.less [0, 2, 8] ?_
    refine X.dropAt rfl [(8, .val (.osl 1 0 n 1 none)), (0, .val (.osl 0 0 n 1 (some cp))), (2, .val (.int .u8 (.v key)))] [⟨false, cs, none⟩] (rB := [⟨true, ls, none⟩]) (fun A x B hA => by obtain ⟨a1, rfl⟩ := len1 hA; exact ⟨rfl, fun _ h => h, rfl, fun _ h => h, rfl, fun _ h => h, trivial⟩) (fun g hg c hc N N' v hv => ?_) (fun g hg => ?_) ?_
    · simp only [List.cons_append, List.nil_append, List.mem_cons, List.not_mem_nil, or_false] at hg
      rcases hg with rfl | rfl
      · exact byL_den (d := d) (by rw [← hcs]; exact hc) hv
      · exact byL_den (d := l) (by rw [← hls]; exact hc) hv
    · simp only [List.cons_append, List.nil_append, List.mem_cons, List.not_mem_nil, or_false] at hg
      rcases hg with rfl | rfl <;> rfl
    exact turned_tail n cp d l cs ls key w Q hQ h0 h80 hn hln hc hperm hd hcs hls
  · have happ := appV_hid (rg := [⟨false, cs, none⟩, ⟨true, [], none⟩, ⟨true, c1, none⟩]) (te := ti5) (r := 2) (n := nk) (m := k) (cs := c1) (new := c2) rfl (by show c1.length = nk * 1; omega) hk0 (appOk_ok (by decide) rfl (by show c2.length = k * 1; omega) ho2 (by show (2 * (nk + k) + 256) * 1 ≤ _; omega) (by omega))
    rw [hnkk, hc12] at happ
    refine X.opEq (T := T5) T5_ok (opE_append (te := ti5) (new := c2) (m := k) rfl rfl rfl rfl rfl rfl rfl rfl (by rw [hc2]; exact appSrc_part (te := ti5) (ti := ti22) (g := ⟨false, cs, none⟩) rfl rfl rfl rfl (by show 0 + k ≤ cs.length; omega)) happ rfl) ?_
    refine X.go T5_ok 2 _ rfl Try.results5 ?_
    conv => arg 2; cbv
    refine X.less [0, 2, 8] ?_
    refine X.dropAt rfl [(8, .val (.osl 2 0 n 1 none)), (0, .val (.osl 0 0 n 1 (some cp))), (2, .val (.int .u8 (.v key)))] [⟨false, cs, none⟩] (rB := [⟨false, [], none⟩, ⟨true, ls, none⟩]) (fun A x B hA => by obtain ⟨a1, rfl⟩ := len1 hA; exact ⟨rfl, fun _ h => h, rfl, fun _ h => h, rfl, fun _ h => h, trivial⟩) (fun g hg c hc N N' v hv => ?_) (fun g hg => ?_) ?_
    · simp only [List.cons_append, List.nil_append, List.mem_cons, List.not_mem_nil, or_false] at hg
      rcases hg with rfl | rfl | rfl
      · exact byL_den (d := d) (by rw [← hcs]; exact hc) hv
      · exact absurd hc List.not_mem_nil
      · exact byL_den (d := l) (by rw [← hls]; exact hc) hv
    · simp only [List.cons_append, List.nil_append, List.mem_cons, List.not_mem_nil, or_false] at hg
      rcases hg with rfl | rfl | rfl <;> rfl
    refine X.dropAt rfl [(8, .val (.osl 1 0 n 1 none)), (0, .val (.osl 0 0 n 1 (some cp))), (2, .val (.int .u8 (.v key)))] [⟨false, cs, none⟩] (rB := [⟨true, ls, none⟩]) (fun A x B hA => by obtain ⟨a1, rfl⟩ := len1 hA; exact ⟨rfl, fun _ h => h, rfl, fun _ h => h, rfl, fun _ h => h, trivial⟩) (fun g hg c hc N N' v hv => ?_) (fun g hg => ?_) ?_
    · simp only [List.cons_append, List.nil_append, List.mem_cons, List.not_mem_nil, or_false] at hg
      rcases hg with rfl | rfl
      · exact byL_den (d := d) (by rw [← hcs]; exact hc) hv
      · exact byL_den (d := l) (by rw [← hls]; exact hc) hv
    · simp only [List.cons_append, List.nil_append, List.mem_cons, List.not_mem_nil, or_false] at hg
      rcases hg with rfl | rfl <;> rfl
    exact turned_tail n cp d l cs ls key w Q hQ h0 h80 hn hln hc hperm hd hcs hls

/-- whatever is handed in -/
theorem turned_ok (po : Option Addr) (n cp bv : Nat) (d : Array Int) (key : Int) (w : World) (hA : InB po n d w) (hc : n ≤ cp) (hd : ∀ x ∈ d.toList, 0 ≤ x ∧ x < 256) (hbv : bv < 256) :
    Calls Try.prog 5 #[.slice po n cp, .int .u8 bv, .int .u8 key] w fun e w' => e = .returned (.bool true) ∧ Chg (fun _ _ => False) w w' := by
  by_cases h : 80 < n ∨ n = 0
  · exact turned_out po n cp bv key w h
  · obtain ⟨b, y, rfl, hB⟩ := hA.2 (by omega)
    exact turned_in b y n cp bv d key w (by omega) (by omega) hA.1 hB hc hd hbv

end Go.Proofs.Ythaffebapmkppaa
