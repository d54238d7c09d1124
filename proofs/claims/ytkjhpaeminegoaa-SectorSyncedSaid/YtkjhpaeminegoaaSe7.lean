/- The sector's functions: Write, of the whole disk. -/
import Derived.Test.YtkjhpaeminegoaaSe6

namespace Go.Proofs.Ytkjhpaeminegoaa
open Go.Eng

theorem updA_at {α : Type} (f : Nat → α) (i : Nat) (x : α) : updA f i x i = x := by simp [updA]
theorem updA_ne {α : Type} (f : Nat → α) {i j : Nat} (x : α) (h : j ≠ i) : updA f i x j = f j := by simp [updA, h]

/-- the disk once a write waits -/
def Dk.wrote (d : Dk) (h2 : Hd) (wb' wy' : Nat) (i : Int) (u : By) : Dk := ⟨d.b, d.y, h2, wb', wy', updA d.ws d.h.n (i, u), d.kept⟩

theorem By.At.lt {u : By} {z : Nat} {w : World} (h : u.At z w) {k o : Nat} (hd : u.D z k o) : k < w.heap.size := (h.there hd).lt

theorem DiskAt.hlt {d : Dk} {w : World} (h : DiskAt d w) : d.b < w.heap.size := h.hd.lt

theorem DiskAt.mapNe {d : Dk} {w : World} (h : DiskAt d w) {k o : Nat} (hc : (w.cell? ⟨k, o, none⟩).isSome = true) : k ≠ d.h.m := fun e => by
  obtain ⟨x, hx⟩ := Option.isSome_iff_exists.1 h.mp.ob
  rw [e, cell_obj hx] at hc; cases hc

theorem wrote_disk {d : Dk} {w w' : World} {h1 h2 : Hd} {bt : Bool} {wb' wy' : Nat} {i : Int} {u : By} {g : Nat → Int} {row : Nat → Nat → Prop} (hD : DiskAt d w) (ok : d.Ok) (hn : d.h.n < 1000) (hi : d.h.has i) (hb : h1.burn = (bt, h2))
    (hh1 : h1 = ⟨d.h.size, d.h.count, d.h.m, h2.po, d.h.n + 1, h2.cp, d.h.off, d.h.falls, d.h.fused, d.h.fuse⟩) (W : WroteAt d.b d.y d.h.m d.h.n h2 i d.h.size g d.ws w wb' wy' u row w') (hrow : ∀ k o, row k o → d.rowD k o) (hc : Chg (fun k o => hdO d.b d.y k o ∨ row k o) w w') :
    DiskAt (d.wrote h2 wb' wy' i u) w' ∧ (d.wrote h2 wb' wy' i u).Ok ∧ Chg d.D w w' ∧ ∀ k o, (d.wrote h2 wb' wy' i u).D k o → d.D k o ∨ w.heap.size ≤ k := by
  obtain ⟨s1, s2, s3, s4, s5, s6⟩ := burn_same h1
  rw [hb, hh1] at s1 s2 s3
  simp only at s1 s2 s3
  have hsz := s1
  -- the new row
  have hrow' : ∀ k o, (d.wrote h2 wb' wy' i u).rowD k o → d.rowD k o ∨ w.heap.size ≤ k := fun k o ⟨e1, e2, e3⟩ => by
    have e1 : k = wb' := e1
    have e2 : wy' ≤ o := e2
    have e3 : o < wy' + h2.cp * 2 := e3
    rcases W.rows with h | h
    · right; rw [e1]; exact h
    · left
      have := hrow _ _ (h (o - wy') (by omega))
      rw [show wy' + (o - wy') = o by omega] at this
      rw [e1]; exact this
  have hnh : ∀ k o, (d.wrote h2 wb' wy' i u).rowD k o → ¬ hdO d.b d.y k o := fun k o ⟨e1, e2, e3⟩ hd => by
    have e1 : k = wb' := e1
    have e2 : wy' ≤ o := e2
    have e3 : o < wy' + h2.cp * 2 := e3
    refine W.hs (o - wy') (by omega) ?_
    rw [show wy' + (o - wy') = o by omega, ← e1]; exact hd
  have hun : ∀ k o, u.D d.h.size k o → w.heap.size ≤ k := fun k o ⟨e1, _, _⟩ => by rw [e1]; exact W.fr
  have hur : ∀ k o, u.D d.h.size k o → ¬ (d.wrote h2 wb' wy' i u).rowD k o := fun k o ⟨e1, e2, e3⟩ ⟨f1, f2, f3⟩ => by
    have f1 : k = wb' := f1
    have f2 : wy' ≤ o := f2
    have f3 : o < wy' + h2.cp * 2 := f3
    exact W.sep (o - wy') (o - u.y) (by omega) (by omega) ⟨f1.symm.trans e1, by omega⟩
  have hws : ∀ q, q < d.h.n → (d.wrote h2 wb' wy' i u).ws q = d.ws q := fun q hq => updA_ne _ _ (by omega)
  have hwn : (d.wrote h2 wb' wy' i u).ws d.h.n = (i, u) := updA_at _ _ _
  have keep : ∀ {v : By}, v.At d.h.size w → (∀ k o, v.D d.h.size k o → ¬ hdO d.b d.y k o ∧ ¬ d.rowD k o) → v.At d.h.size w' := fun hv hs => hv.chg hc fun o ho h => h.elim (hs _ _ ho).1 (fun h => (hs _ _ ho).2 (hrow _ _ h))
  have hn' : (d.wrote h2 wb' wy' i u).h.n = d.h.n + 1 := W.hn
  have hg : (d.wrote h2 wb' wy' i u).g = d.g := by
    funext q
    show (d.kept q).map (·.val h2.size) = (d.kept q).map (·.val d.h.size)
    rw [hsz]
  refine ⟨⟨by rw [hn']; exact W.nc, W.hd, W.hf, ?_, W.rm, fun q hq => ?_, fun q hq => ?_, fun q v hq => ?_⟩, ⟨⟨?_, ?_, by rw [hn']; omega, ?_, fun q hq => ?_, fun k o h1 h2 => hnh k o h2 h1, fun q hq k o hk => ?_, fun q v hq k o hk => ?_, fun q q' hq hq' hne k o hk hk' => ?_⟩, fun q q' v hq hq' k o hk hk' => ?_⟩, ?_, fun k o hd => ?_⟩
  · rw [hg]
    show MapAt h2.m d.g w'
    rw [s3]
    refine hD.mp.at (objAt_chg hc hD.mp.ob fun o h => ?_)
    rcases h with ⟨e1, e2, e3⟩ | h
    · exact hD.mapNe (k := d.b) (o := o) (by have := (hD.hd.room hD.hf (o - d.y) (by omega)).1; rwa [show d.y + (o - d.y) = o by omega] at this) e1.symm
    · obtain ⟨e1, e2, e3⟩ := hrow _ _ h
      exact hD.mapNe (k := d.wb) (o := o) (by have := (hD.rm (o - d.wy) (by omega)).1; rwa [show d.wy + (o - d.wy) = o by omega] at this) e1.symm
  · rw [hn'] at hq
    show w'.cell? ⟨wb', wy' + q * 2, none⟩ = _ ∧ w'.cell? ⟨wb', wy' + q * 2 + 1, none⟩ = some ((((d.wrote h2 wb' wy' i u).ws q).2).val h2.size)
    rw [hsz]
    rcases Nat.lt_or_ge q d.h.n with h | h
    · rw [hws q h]; exact W.old q h
    · obtain rfl : q = d.h.n := by omega
      rw [hwn]; exact W.new
  · rw [hn'] at hq
    show (((d.wrote h2 wb' wy' i u).ws q).2).At h2.size w'
    rw [hsz]
    rcases Nat.lt_or_ge q d.h.n with h | h
    · rw [hws q h]; exact keep (hD.wa q h) (ok.a2 q h)
    · obtain rfl : q = d.h.n := by omega
      rw [hwn]; exact W.ua
  · show v.At h2.size w'
    rw [hsz]
    exact keep (hD.ka q v hq) (ok.a3 q v hq)
  · show 64 ≤ h2.size ∧ h2.size ≤ 512
    rw [hsz]; exact ok.sz
  · show 1 ≤ h2.count ∧ h2.count ≤ 4096
    rw [s2]; exact ok.ct
  · exact .inr ⟨W.po, by have := W.nc; show 0 < h2.cp; omega⟩
  · rw [hn'] at hq
    show 0 ≤ ((d.wrote h2 wb' wy' i u).ws q).1 ∧ ((d.wrote h2 wb' wy' i u).ws q).1 < h2.count
    rw [s2]
    rcases Nat.lt_or_ge q d.h.n with h | h
    · rw [hws q h]; exact ok.wi q h
    · obtain rfl : q = d.h.n := by omega
      rw [hwn]; exact hi
  · rw [hn'] at hq
    have hk : (((d.wrote h2 wb' wy' i u).ws q).2).D h2.size k o := hk
    rw [hsz] at hk
    rcases Nat.lt_or_ge q d.h.n with h | h
    · rw [hws q h] at hk
      refine ⟨(ok.a2 q h k o hk).1, fun hr => ?_⟩
      rcases hrow' k o hr with h' | h'
      · exact (ok.a2 q h k o hk).2 h'
      · have := (hD.wa q h).lt hk; omega
    · obtain rfl : q = d.h.n := by omega
      rw [hwn] at hk
      refine ⟨fun ⟨e1, _, _⟩ => ?_, hur k o hk⟩
      have h1 := hun k o hk
      have h2 := hD.hlt
      have e1 : k = d.b := e1
      omega
  · have hk : v.D h2.size k o := hk
    rw [hsz] at hk
    refine ⟨(ok.a3 q v hq k o hk).1, fun hr => ?_⟩
    rcases hrow' k o hr with h' | h'
    · exact (ok.a3 q v hq k o hk).2 h'
    · have := (hD.ka q v hq).lt hk; omega
  · rw [hn'] at hq hq'
    have hk : (((d.wrote h2 wb' wy' i u).ws q).2).D h2.size k o := hk
    have hk' : (((d.wrote h2 wb' wy' i u).ws q').2).D h2.size k o := hk'
    rw [hsz] at hk hk'
    rcases Nat.lt_or_ge q d.h.n with h | h <;> rcases Nat.lt_or_ge q' d.h.n with h' | h'
    · rw [hws q h] at hk; rw [hws q' h'] at hk'
      exact ok.a4 q q' h h' hne k o hk hk'
    · obtain rfl : q' = d.h.n := by omega
      rw [hws q h] at hk; rw [hwn] at hk'
      have := (hD.wa q h).lt hk; have := hun k o hk'; omega
    · obtain rfl : q = d.h.n := by omega
      rw [hws q' h'] at hk'; rw [hwn] at hk
      have := (hD.wa q' h').lt hk'; have := hun k o hk; omega
    · omega
  · rw [hn'] at hq
    have hk : v.D h2.size k o := hk
    have hk' : (((d.wrote h2 wb' wy' i u).ws q).2).D h2.size k o := hk'
    rw [hsz] at hk hk'
    rcases Nat.lt_or_ge q d.h.n with h | h
    · rw [hws q h] at hk'
      exact ok.a5 q q' v h hq' k o hk hk'
    · obtain rfl : q = d.h.n := by omega
      rw [hwn] at hk'
      have := (hD.ka q' v hq').lt hk; have := hun k o hk'; omega
  · exact hc.mono fun k o _ h => h.elim .inl (fun h => .inr (.inr (.inl (hrow _ _ h))))
  · rcases hd with h | h | h | ⟨q, hq, h⟩ | ⟨q, v, hq, h⟩
    · exact .inl (.inl h)
    · have h : k = h2.m := h
      rw [s3] at h
      exact .inl (.inr (.inl h))
    · exact (hrow' k o h).imp (fun h => .inr (.inr (.inl h))) id
    · rw [hn'] at hq
      have h : (((d.wrote h2 wb' wy' i u).ws q).2).D h2.size k o := h
      rw [hsz] at h
      rcases Nat.lt_or_ge q d.h.n with h' | h'
      · rw [hws q h'] at h
        exact .inl (.inr (.inr (.inr (.inl ⟨q, h', h⟩))))
      · obtain rfl : q = d.h.n := by omega
        rw [hwn] at h
        exact .inr (hun k o h)
    · have h : v.D h2.size k o := h
      rw [hsz] at h
      exact .inl (.inr (.inr (.inr (.inr ⟨q, v, hq, h⟩))))

theorem write_ok (d : Dk) (i : Int) (sb sy scp : Nat) (g : Nat → Int) (w : World) (hD : DiskAt d w) (ok : d.Ok) (hoff : d.h.off = false) (hi : d.h.has i) (hn : d.h.n < 1000) (hsrc : BytesAt sb sy d.h.size g w) (hfar : ∀ o, o < d.h.size → ¬ d.D sb (sy + o)) :
    Calls Try.prog 13 #[.pointer (some ⟨d.b, d.y, none⟩), .int .i64 i, .slice (some ⟨sb, sy, none⟩) d.h.size scp] w fun e w' => ∃ (bt : Bool) (h1 h2 : Hd) (wb' wy' : Nat) (u : By), e = .returned (.int .i64 (if bt then 8 else 0)) ∧ h1.burn = (bt, h2) ∧
      h1 = ⟨d.h.size, d.h.count, d.h.m, h2.po, d.h.n + 1, h2.cp, d.h.off, d.h.falls, d.h.fused, d.h.fuse⟩ ∧ u.f = g ∧ DiskAt (d.wrote h2 wb' wy' i u) w' ∧ (d.wrote h2 wb' wy' i u).Ok ∧ Chg d.D w w' ∧ ∀ k o, (d.wrote h2 wb' wy' i u).D k o → d.D k o ∨ w.heap.size ≤ k := by
  obtain ⟨b, y, ⟨size, count, m, po, n, cp, off, falls, fused, fuse⟩, wb, wy, ws, kept⟩ := d
  obtain rfl : off = false := hoff
  have hsz : 64 ≤ size ∧ size ≤ 512 := ok.sz
  have hn : n < 1000 := hn
  have hnc : n ≤ cp := hD.nc
  rcases ok.po with ⟨h1, h2, h3⟩ | h1
  · obtain rfl : po = none := h1
    refine (write_nil b y m n cp size count falls fuse fused ws i sb sy scp g w ⟨by omega, by omega⟩ (by omega) h2 h3 hi hD.hd hD.hf hsrc (fun o ho h => hfar o ho (.inl h))).mono fun e w' ⟨bt, q1, q2, wb', wy', u, he, k1, k2, k3, k4⟩ => ?_
    exact ⟨bt, q1, q2, wb', wy', u, he, k1, k2, k3.uf, wrote_disk hD ok hn hi k1 k2 k3 (fun _ _ h => h.elim) (k4.mono fun _ _ _ h => .inl h)⟩
  · obtain rfl : po = some ⟨wb, wy, none⟩ := h1.1
    have hcp : 0 < cp := h1.2
    have hlt : wb < w.heap.size := by
      have := (hD.rm 0 (by show 0 < cp * 2; omega)).1
      obtain ⟨v, hv⟩ := Option.isSome_iff_exists.1 this
      exact World.block_lt_of_cell? _ _ hv
    refine (write_row b y m wb wy n cp size count falls fuse fused ws i sb sy scp g w ⟨by omega, by omega⟩ (by omega) hnc hi hD.hd hD.hf hsrc (fun o ho => ⟨fun h => hfar o ho (.inl h), fun h => hfar o ho (.inr (.inr (.inl h)))⟩) hD.rm hD.rw hlt ok.a1).mono fun e w' ⟨bt, q1, q2, wb', wy', u, he, k1, k2, k3, k4⟩ => ?_
    exact ⟨bt, q1, q2, wb', wy', u, he, k1, k2, k3.uf, wrote_disk hD ok hn hi k1 k2 k3 (fun _ _ h => h) k4⟩

end Go.Proofs.Ytkjhpaeminegoaa
