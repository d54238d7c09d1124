/- The sector's law: its example; the nil disk. -/
import Derived.Test.YtkjhpaeminegoaaSe12

namespace Go.Proofs.Ytkjhpaeminegoaa
open Go.Eng

/-- behind a call that reads a sector -/
theorem Goes.read {E : Ctx} {N : Nums} {k : List It} {s : St} {d : Option Nat} {w w' : World} {g : Nat → Int} {n : Nat} {e : Ending} (hn : 0 < n) (hN : E.N0.le N) (h : Sat E.toEnv N s.rg w) (hf : ReadRet g n w e w') {f' : Fr} (hp : putO E.n s.fr d (.val (.tup [.osl s.rg.length 0 n 1 none, .int .i64 (.lit 0)])) = some f')
    (hx : X E k ⟨f', s.rg ++ [⟨true, bytesL g n, none⟩]⟩) : ∃ v, e = .returned v ∧ Goes E N k s.fr d v w' := by
  obtain ⟨b, y, x, h1, h2, h3, h4, h5, h6⟩ := hf
  have hff : FreshRet (bytesL g n) n 1 w (.returned (.slice (some ⟨b, y, none⟩) n x)) w' := ⟨b, y, x, by rw [Nat.div_one], h2, by rw [bytesL_len]; exact h3, by omega, h4.cells [], h5, h6⟩
  obtain ⟨p, v, k1, k2, _, k3⟩ := hff.sat h
  cases k1
  refine ⟨_, h1, E, N ++ [p], _, _, f', rfl, rfl, rfl, rfl, Nums.le_append _ _, hN.trans (Nums.le_append _ _), k3, ?_, hp, hx⟩
  show (match SV.denL (N ++ [p]) [.osl s.rg.length 0 n 1 none, .int .i64 (.lit 0)] with | some l => some (Value.tuple l.toArray) | none => none) = _
  rw [show SV.denL (N ++ [p]) [.osl s.rg.length 0 n 1 none, .int .i64 (.lit 0)] = some [.slice (some ⟨b, y, none⟩) n x, .int .i64 0] from by unfold SV.denL; rw [k2]; rfl]

theorem args_eq {N : Nums} {ss : List SV} {vs args : List Value} (h1 : SV.denL N ss = some vs) (ha : SV.denL N ss = some args) : vs = args := Option.some.inj (h1.symm.trans ha)

/-- numbers that are told, as bytes -/
def litB : SV → Option Int
  | .int .u8 (.lit z) => some z
  | _ => none
def litG (cs : List SV) (j : Nat) : Int := ((cs[j]?).bind litB).getD 0

theorem litB_eq {c : SV} {z : Int} (h : litB c = some z) : c = .int .u8 (.lit z) := by
  unfold litB at h
  split at h
  · cases h; rfl
  · cases h

theorem Sat.bytes {E : Env} {N : Nums} {rg : List Rg} {w : World} (hS : Sat E N rg w) {r : Nat} {g : Rg} {p : Num} (hg : rg[r]? = some g) (hp : N[r]? = some p) (hl : g.cells.all (fun c => (litB c).isSome) = true) : BytesAt p.b p.o g.cells.length (litG g.cells) w := fun j hj => by
  obtain ⟨c, hc⟩ : ∃ c, g.cells[j]? = some c := ⟨_, List.getElem?_eq_getElem hj⟩
  obtain ⟨z, hz⟩ := Option.isSome_iff_exists.1 (List.all_eq_true.1 hl c (List.mem_of_getElem? hc))
  obtain ⟨v, k1, k2⟩ := hS.cell r g p hg hp j c hc
  rw [litB_eq hz] at k1
  cases k1
  rw [k2, litG, hc]
  simp [hz, SI.den]

theorem newH_burn {size count m : Nat} {po : Option Addr} {n cp : Nat} : (⟨size, count, m, po, n, cp, false, 0, false, 0⟩ : Hd).burn = (false, ⟨size, count, m, po, n, cp, false, 0, false, 0⟩) := rfl

theorem dk_of_b {d : Dk} {b y : Nat} (e1 : d.b = b) (e2 : d.y = y) : (Value.pointer (some ⟨b, y, none⟩)) = .pointer (some ⟨d.b, d.y, none⟩) := by rw [e1, e2]

set_option maxHeartbeats 8000000 in
set_option maxRecDepth 100000 in
set_option cbv.maxSteps 100000000 in
theorem awake12_ok (w : World) : Calls Try.prog 11 #[] w fun e w' => e = .returned (.bool true) ∧ Chg (fun _ _ => False) w w' := by
  obtain ⟨Q, hQ⟩ : ∃ Q : Ending → World → Prop, Q = fun e w' => e = .returned (.bool true) ∧ Chg (fun _ _ => False) w w' := ⟨_, rfl⟩
  rw [← hQ]
  refine X.begin (rg := []) (N := []) (ss := []) Try.func11 rfl B11_ok rfl rfl Sat.std0 ?_
  refine X.go T11_ok 400 _ rfl Try.results11 ?_
  conv => arg 2; cbv
  refine X.call rfl rfl rfl rfl Try.call12 (fun N w1 args hN hS ha => ?_)
  obtain rfl : [Value.int .i64 64, .int .i64 2] = args := Option.some.inj ha
  refine (new_good 64 2 w1 (by unfold sizesOk; omega)).mono fun e w2 ⟨b, y, m, he, hb, hm, hd, hc⟩ => ⟨_, he, ?_⟩
  obtain ⟨d, hde⟩ : ∃ d, d = newDk b y 64 2 m := ⟨_, rfl⟩
  have ok : d.Ok := by rw [hde]; exact newDk_ok (by omega) (by omega)
  have hdb : d.b = b := by rw [hde]; rfl
  have hdy : d.y = y := by rw [hde]; rfl
  have hdh : d.h = newH 64 2 m := by rw [hde]; rfl
  have hdk : d.kept = fun _ => none := by rw [hde]; rfl
  have hDn : ∀ k o, d.D k o → k = b ∨ k = m := fun k o h => newDk_D (by rw [hde] at h; exact h)
  rw [← hde] at hd
  have hws : w.heap.size ≤ w1.heap.size := hS.chg.size
  refine Goes.turn (r := .tup [.ext b y 0, .int .i64 (.lit 0)]) d.D (DiskAt d) hN hS (hc.mono fun _ _ _ h => h.elim) (fun _ _ h => h.elim) (fun _ _ h => h.elim) (fun g hg => by simp at hg) (fun k o hk => ⟨.inr ?_, hd.there hk⟩) DiskAt.loc hd rfl rfl ?_
  · rcases hDn k o hk with rfl | rfl <;> assumption
  have hDw : ∀ k o, d.D k o → w.heap.size ≤ k := fun k o h => by
    rcases hDn k o h with rfl | rfl <;> omega
  clear ha he hc hS hN hd hws
  obtain ⟨D, hDe⟩ : ∃ D, D = d.D := ⟨_, rfl⟩
  show X (mkE Try.prog Try.f11 Q w (InR [] []) (elsewhere [] [] w) d.D (DiskAt d) [] B11) _ _
  obtain ⟨im, hime⟩ : ∃ im, im = elsewhere [] [] w := ⟨_, rfl⟩
  rw [← hime]
  have himn : ∀ k o, w.heap.size ≤ k → im k o = none := fun k o h => by
    rw [hime]; unfold elsewhere
    rw [if_neg inR_nil]
    cases hc : w.cell? ⟨k, o, none⟩ with
    | none => rfl
    | some v => have := World.block_lt_of_cell? _ _ hc; simp only at this; omega
  refine X.go T11_ok 400 _ rfl Try.results11 ?_
  conv => arg 2; cbv
  refine X.call rfl rfl rfl rfl Try.call13 (fun N w1 args hN hS ha => ?_)
  have hdw : w.heap.size ≤ b := hDw b y (by rw [← hdb, ← hdy]; exact .inl ⟨rfl, by omega, by omega⟩)
  obtain ⟨p, hp⟩ : ∃ p, N[0]? = some p := ⟨_, List.getElem?_eq_getElem (by rw [hS.len]; exact Nat.succ_pos _)⟩
  obtain ⟨G, hbt⟩ : ∃ G, BytesAt p.b p.o 64 G w1 := ⟨_, Sat.bytes hS (r := 0) rfl hp rfl⟩
  have hx : 64 ≤ p.x := hS.ext 0 _ p rfl hp rfl
  have hfar : ∀ o, o < 64 → ¬ d.D p.b (p.o + o) := fun o ho => hS.dd 0 _ p rfl hp rfl o (Nat.lt_of_lt_of_le ho hx)
  obtain rfl := args_eq (vs := [.pointer (some ⟨d.b, d.y, none⟩), .int .i64 1, .slice (some ⟨p.b, p.o, none⟩) d.h.size 64]) (by
    rw [show d.h.size = 64 by rw [hdh]; rfl]
    show SV.denL N [.ext b y 0, .int .i64 (.lit 1), .osl 0 0 64 1 (some 64)] = _
    rw [hdb, hdy]; simp only [SV.denL, SV.den, hp, Num.cap, SI.den, Nat.add_zero]) ha
  have c1 : d.h.off = false := by rw [hdh]; rfl
  have c2 : d.h.has 1 := by rw [hdh]; exact ⟨by decide, by show (1 : Int) < (2 : Nat); decide⟩
  have c3 : d.h.n = 0 := by rw [hdh]; rfl
  have c4 : d.h.size = 64 := by rw [hdh]; rfl
  refine (write_ok d 1 p.b p.o 64 G w1 hS.res ok c1 c2 (by omega) (by rw [c4]; exact hbt) (fun o ho => hfar o (by omega))).mono fun e w2 ⟨bt, h1, h2, wb', wy', u, he, k1, k2, k3, k4, k5, k6, k7⟩ => ?_
  have hh1 : h1 = ⟨64, 2, m, h2.po, 1, h2.cp, false, 0, false, 0⟩ := by rw [k2, hdh]; rfl
  rw [hh1, newH_burn] at k1
  obtain ⟨rfl, hh2⟩ := Prod.mk.inj k1
  obtain ⟨d2, hd2⟩ : ∃ d2, d2 = d.wrote h2 wb' wy' 1 u := ⟨_, rfl⟩
  rw [← hd2] at k4 k5 k7
  have hdb2 : d2.b = b := by rw [hd2]; exact hdb
  have hdy2 : d2.y = y := by rw [hd2]; exact hdy
  have hdk2 : d2.kept = fun _ => none := by rw [hd2]; exact hdk
  have hdh2 : d2.h = ⟨64, 2, m, h2.po, 1, h2.cp, false, 0, false, 0⟩ := by rw [hd2]; exact hh2.symm
  have hws : w.heap.size ≤ w1.heap.size := hS.chg.size
  have hDw2 : ∀ k o, d2.D k o → w.heap.size ≤ k := fun k o h => (k7 k o h).elim (hDw k o) (fun h => Nat.le_trans hws h)
  refine ⟨_, he, Goes.turn (r := .int .i64 (.lit 0)) d2.D (DiskAt d2) hN hS k6 (fun k o h => .inl (hDw k o h)) (fun k o h => himn k o (hDw k o h)) (fun g hg => by simp at hg; subst hg; exact .inl rfl) (fun k o hk => ⟨k7 k o hk, k4.there hk⟩) DiskAt.loc k4 rfl rfl ?_⟩
  show X (mkE Try.prog Try.f11 Q w (InR [] []) im d2.D (DiskAt d2) [] B11) _ _
  clear ha he hS hN hbt hx k4 k6 k7 k1 k2 k3 hh1 hp hws
  refine X.go T11_ok 400 _ rfl Try.results11 ?_
  conv => arg 2; cbv
  refine X.call rfl rfl rfl rfl Try.call16 (fun N w1 args hN hS ha => ?_)
  obtain rfl := args_eq (vs := [.pointer (some ⟨d2.b, d2.y, none⟩), .int .i64 0, .bool false]) (by rw [hdb2, hdy2]; rfl) ha
  refine (back_whole d2 0 false w1 hS.res k5 0 (by rw [hdh2]; rfl) (.inl rfl)).mono fun e w2 ⟨he, q1, q2, q3, q4⟩ => ?_
  obtain ⟨d3, hd3⟩ : ∃ d3, d3 = (d2.settled 0 0).withH d2.h.backed := ⟨_, rfl⟩
  rw [← hd3] at q1 q2 q4
  have hdb3 : d3.b = b := by rw [hd3]; exact hdb2
  have hdy3 : d3.y = y := by rw [hd3]; exact hdy2
  have hdk3 : d3.kept = fun _ => none := by rw [hd3]; exact hdk2
  have hdh3 : d3.h.off = false ∧ d3.h.n = 0 ∧ d3.h.size = 64 ∧ d3.h.count = 2 := by
    have e : d3.h = d2.h.backed := by rw [hd3]; rfl
    rw [e, hdh2]; exact ⟨rfl, rfl, rfl, rfl⟩
  refine ⟨_, he, Goes.turn (r := .tup []) d3.D (DiskAt d3) hN hS q3 (fun k o h => .inl (hDw2 k o h)) (fun k o h => himn k o (hDw2 k o h)) (fun g hg => by simp at hg; subst hg; exact .inl rfl) (fun k o hk => ⟨.inl (q4 k o hk), q1.there hk⟩) DiskAt.loc q1 rfl rfl ?_⟩
  show X (mkE Try.prog Try.f11 Q w (InR [] []) im d3.D (DiskAt d3) [] B11) _ _
  have hDw3 : ∀ k o, d3.D k o → w.heap.size ≤ k := fun k o h => hDw2 k o (q4 k o h)
  clear ha he hS hN q1 q3 q4
  refine X.go T11_ok 400 _ rfl Try.results11 ?_
  conv => arg 2; cbv
  refine X.call rfl rfl rfl rfl Try.call15 (fun N w1 args hN hS ha => ?_)
  obtain rfl := args_eq (vs := [.pointer (some ⟨d3.b, d3.y, none⟩), .int .i64 1]) (by rw [hdb3, hdy3]; rfl) ha
  have hrd : d3.rd 1 = fun _ => 0 := by
    unfold Dk.rd
    rw [hdh3.2.1]
    simp [rdF, Dk.st, hdk3]
  refine (read_ok d3 1 w1 hS.res q2.toOk0 hdh3.1 ⟨by decide, by rw [hdh3.2.2.2]; decide⟩).mono fun e w2 hr => ?_
  rw [hrd, hdh3.2.2.1] at hr
  refine Goes.read (by decide) hN hS hr rfl ?_
  show X (mkE Try.prog Try.f11 Q w (InR [] []) im d3.D (DiskAt d3) [] B11) _ _
  refine X.go T11_ok 400 _ rfl Try.results11 ?_
  conv => arg 2; cbv
  refine X.done T11_ok rfl (fun N w' v hN hS hv => ?_)
  rw [hQ]
  refine ⟨?_, hS.chg.mono fun k o _ h => inR_nil h⟩
  simp [resV, SV.den, SB.den, SI.den] at hv
  rw [← hv]

end Go.Proofs.Ytkjhpaeminegoaa
