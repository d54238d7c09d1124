import Derived.Test.YtkjhpaeminegoaaRs2

namespace Go.Proofs.Ytkjhpaeminegoaa
open Go Go.Eng
structure Sec where
  (size count : Nat) (st : Int → Nat → Int) (l : Wl) (off : Bool) (falls : Int) (fused : Bool) (fuse : Int)
def Sec.fall (s : Sec) : Sec := { s with off := true, falls := bif s.off then s.falls else IntKind.u64.wrap (s.falls + 1) }
def Sec.burn (s : Sec) : Bool × Sec := if s.fused = true then (if s.fuse = 0 then (true, s.fall) else (false, { s with fuse := IntKind.i64.wrap (s.fuse - 1) })) else (false, s)
def Sec.has (s : Sec) (i : Int) : Prop := 0 ≤ i ∧ i < s.count
instance (s : Sec) (i : Int) : Decidable (s.has i) := by unfold Sec.has; infer_instance
def Sec.write (s : Sec) (i : Int) (n : Nat) (g : Nat → Int) : Int × Sec :=
  if s.off = true then (8, s) else if ¬ s.has i then (6, s) else if n ≠ s.size then (3, s) else
    (bif (Sec.burn { s with l := s.l ++ [(i, g)] }).1 then 8 else 0, (Sec.burn { s with l := s.l ++ [(i, g)] }).2)
def Sec.sync (s : Sec) : Int × Sec :=
  if s.off = true then (8, s) else bif s.burn.1 then (8, s.burn.2) else (0, { s.burn.2 with st := foldW s.st s.l, l := [] })
def Sec.lit (s : Sec) (n : Int) : Sec := { s with fused := true, fuse := if n < 0 then 0 else n }
def Sec.back (s : Sec) (keep : Int) (torn : Bool) : Sec := { s.fall with st := backSt s.size s.st s.l (keepN keep s.l.length) torn, l := [], off := false, fused := false }
structure RD where
  (size count : Nat) (kept : List ByteArray) (ws : List (Int × ByteArray)) (off : Bool) (falls fuse : Int)
def keptS (size count : Nat) (st : Int → Nat → Int) : List ByteArray := (List.range count).map fun i : Nat => strG (st i) size
def wsS (size : Nat) (l : Wl) : List (Int × ByteArray) := l.map fun x => (x.1, strG x.2 size)
def settleL (k : List ByteArray) (ws : List (Int × ByteArray)) : List ByteArray := ws.foldl (fun k x => k.set x.1.toNat x.2) k
def Sec.rd (s : Sec) : RD := ⟨s.size, s.count, keptS s.size s.count s.st, wsS s.size s.l, s.off, s.falls, bif s.fused then s.fuse else -1⟩
def RD.fall (d : RD) : RD := { d with off := true, falls := bif d.off then d.falls else IntKind.u64.wrap (d.falls + 1) }
def RD.burn (d : RD) : Bool × RD := if d.fuse < 0 then (false, d) else if d.fuse = 0 then (true, d.fall) else (false, { d with fuse := IntKind.i64.wrap (d.fuse - 1) })
def RD.write (d : RD) (i : Int) (s : ByteArray) : Int × RD :=
  if d.off = true then (8, d) else if i < 0 ∨ (d.count : Int) ≤ i then (6, d) else if s.size ≠ d.size then (3, d) else
    (bif (RD.burn { d with ws := d.ws ++ [(i, s)] }).1 then 8 else 0, (RD.burn { d with ws := d.ws ++ [(i, s)] }).2)
def RD.settle (d : RD) (ws : List (Int × ByteArray)) : RD := { d with kept := settleL d.kept ws }
def RD.sync (d : RD) : Int × RD :=
  if d.off = true then (8, d) else bif d.burn.1 then (8, d.burn.2) else (0, { d.burn.2.settle d.ws with ws := [] })
def tearB (size : Nat) (u v : ByteArray) : ByteArray := u.extract 0 (size / 2) ++ v.extract (size / 2) v.size
def RD.back (d : RD) (keep : Int) (torn : Bool) : RD :=
  { (bif torn && Nat.blt 0 (keepN keep d.ws.length) then
      match d.ws[keepN keep d.ws.length - 1]? with
      | some x => ((d.settle (d.ws.take (keepN keep d.ws.length - 1))).settle [(x.1, tearB d.size x.2 ((settleL d.kept (d.ws.take (keepN keep d.ws.length - 1)))[x.1.toNat]?.getD ByteArray.empty))]).fall
      | none => d.fall
    else (d.settle (d.ws.take (keepN keep d.ws.length))).fall) with ws := [], off := false, fuse := -1 }
structure Sec.Ok (s : Sec) : Prop where
  wi : ∀ x ∈ s.l, s.has x.1
  fz : s.fused = true → 0 ≤ s.fuse ∧ s.fuse ≤ 9223372036854775807
  by1 : ∀ i j, 0 ≤ s.st i j ∧ s.st i j < 256
  by2 : ∀ x ∈ s.l, ∀ j, 0 ≤ x.2 j ∧ x.2 j < 256
def updS (st : Int → Nat → Int) (x : Int × (Nat → Int)) : Int → Nat → Int := fun i => if x.1 = i then x.2 else st i
theorem foldW_cons (st : Int → Nat → Int) (x : Int × (Nat → Int)) (l : Wl) : foldW st (x :: l) = foldW (updS st x) l := by
  funext i
  rfl
theorem keptS_len (size count : Nat) (st : Int → Nat → Int) : (keptS size count st).length = count := by simp [keptS]
theorem keptS_get {size count i : Nat} {st : Int → Nat → Int} (h : i < count) : (keptS size count st)[i]? = some (strG (st i) size) := by simp [keptS, h]
theorem keptS_set {size count : Nat} {st : Int → Nat → Int} {x : Int × (Nat → Int)} (h : 0 ≤ x.1 ∧ x.1 < count) : (keptS size count st).set x.1.toNat (strG x.2 size) = keptS size count (updS st x) := by
  refine List.ext_getElem? fun j => ?_
  rw [List.getElem?_set, keptS_len]
  by_cases hj : x.1.toNat = j
  · rw [if_pos hj, if_pos (by omega), keptS_get (by omega), updS, if_pos (by omega)]
  · rw [if_neg hj]
    by_cases hc : j < count
    · rw [keptS_get hc, keptS_get hc, updS, if_neg (by omega)]
    · rw [List.getElem?_eq_none (by rw [keptS_len]; omega), List.getElem?_eq_none (by rw [keptS_len]; omega)]
theorem settle_kept {size count : Nat} : ∀ (l : Wl) (st : Int → Nat → Int), (∀ x ∈ l, 0 ≤ x.1 ∧ x.1 < count) → settleL (keptS size count st) (wsS size l) = keptS size count (foldW st l)
  | [], st, _ => rfl
  | x :: l, st, h => by
    have h1 := h x List.mem_cons_self
    show settleL ((keptS size count st).set x.1.toNat (strG x.2 size)) (wsS size l) = _
    rw [keptS_set h1, settle_kept l _ fun y hy => h y (List.mem_cons_of_mem _ hy), foldW_cons]
theorem wsS_take (size : Nat) (l : Wl) (n : Nat) : (wsS size l).take n = wsS size (l.take n) := by simp [wsS, List.map_take]
theorem wsS_len (size : Nat) (l : Wl) : (wsS size l).length = l.length := by simp [wsS]
theorem lastW_fold {size : Nat} (st : Int → Nat → Int) (l : Wl) (i : Int) : ∀ n, n ≤ l.length → lastW (wsS size l) i (strG (st i) size) n = strG (foldW st (l.take n) i) size
  | 0, _ => rfl
  | n + 1, h => by
    obtain ⟨x, hx⟩ : ∃ x, l[n]? = some x := ⟨_, List.getElem?_eq_getElem (by omega)⟩
    have hw : (wsS size l)[n]? = some (x.1, strG x.2 size) := by simp [wsS, hx]
    have ht : l.take (n + 1) = l.take n ++ [x] := by rw [List.take_add_one, hx]; rfl
    show (match (wsS size l)[n]? with | some x => _ | none => _) = _
    rw [hw, ht, foldW_snoc]
    simp only
    rw [lastW_fold st l i n (by omega)]
    split <;> rfl
theorem strG_size (g : Nat → Int) (n : Nat) : (strG g n).size = n := by simp [strG, strOfNums_size]
theorem strG_data (g : Nat → Int) (n : Nat) : (strG g n).data = ((List.range n).map fun j => UInt8.ofNat (g j).toNat).toArray := by
  simp [strG, strOfNums, Function.comp_def]
theorem ba_ext {u v : ByteArray} (h : u.data = v.data) : u = v := by cases u; cases v; simp_all
theorem tear_str {size : Nat} (f s : Nat → Int) : tearB size (strG f size) (strG s size) = strG (tornF size f s) size := by
  apply ba_ext
  unfold tearB
  rw [strG_size]
  simp only [ByteArray.data_append, ByteArray.data_extract, strG_data]
  apply Array.ext
  · simp; omega
  · intro i h1 h2
    simp only [List.size_toArray, List.length_map, List.length_range] at h2
    have hh : size / 2 ≤ size := Nat.div_le_self _ _
    by_cases hi : i < size / 2
    · rw [Array.getElem_append_left (by simp; omega)]
      simp [tornF, hi]
    · rw [Array.getElem_append_right (by simp; omega)]
      simp [tornF, hi, Nat.min_eq_left hh, show size / 2 + (i - size / 2) = i by omega]
theorem rd_burn {s : Sec} (ok : s.Ok) : s.rd.burn = (s.burn.1, s.burn.2.rd) := by
  obtain ⟨size, count, st, l, off, falls, fused, fuse⟩ := s
  have hf := ok.fz
  simp only at hf
  cases fused
  · simp [Sec.rd, RD.burn, Sec.burn]
  · have h0 := hf rfl
    have hw : fuse ≠ 0 → IntKind.i64.wrap (fuse - 1) = fuse - 1 := fun h => by simp [IntKind.wrap, IntKind.bits, IntKind.signed]; omega
    by_cases h : fuse = 0
    · simp [Sec.rd, RD.burn, Sec.burn, h, Sec.fall, RD.fall]
    · simp [Sec.rd, RD.burn, Sec.burn, h, show ¬ fuse < 0 by omega]
theorem Sec.Ok.fall {s : Sec} (ok : s.Ok) : s.fall.Ok := ⟨ok.wi, ok.fz, ok.by1, ok.by2⟩
theorem Sec.Ok.burn {s : Sec} (ok : s.Ok) : s.burn.2.Ok := by
  unfold Sec.burn
  split
  · rename_i hf
    have h0 := ok.fz hf
    split
    · exact ok.fall
    · refine ⟨ok.wi, fun _ => ?_, ok.by1, ok.by2⟩
      have hw : IntKind.i64.wrap (s.fuse - 1) = s.fuse - 1 := by simp [IntKind.wrap, IntKind.bits, IntKind.signed]; omega
      simp only [hw]
      omega
  · exact ok
theorem burn_parts (s : Sec) : s.burn.2.size = s.size ∧ s.burn.2.count = s.count ∧ s.burn.2.st = s.st ∧ s.burn.2.l = s.l := by
  unfold Sec.burn Sec.fall
  split
  · split <;> simp
  · simp
theorem Sec.Ok.add {s : Sec} (ok : s.Ok) {i : Int} {g : Nat → Int} (hi : s.has i) (hg : ∀ j, 0 ≤ g j ∧ g j < 256) : Sec.Ok { s with l := s.l ++ [(i, g)] } := by
  refine ⟨fun x hx => ?_, ok.fz, ok.by1, fun x hx => ?_⟩
  · rcases List.mem_append.1 hx with h | h
    · exact ok.wi x h
    · simp only [List.mem_singleton] at h; subst h; exact hi
  · rcases List.mem_append.1 hx with h | h
    · exact ok.by2 x h
    · simp only [List.mem_singleton] at h; subst h; exact hg
theorem Sec.Ok.write {s : Sec} (ok : s.Ok) {i : Int} {n : Nat} {g : Nat → Int} (hg : ∀ j, 0 ≤ g j ∧ g j < 256) : (s.write i n g).2.Ok := by
  unfold Sec.write
  split
  · exact ok
  · split
    · exact ok
    · rename_i hi
      split
      · exact ok
      · exact (ok.add (Decidable.not_not.1 hi) hg).burn
theorem rd_write {s : Sec} (ok : s.Ok) {i : Int} {n : Nat} {g : Nat → Int} (hg : ∀ j, 0 ≤ g j ∧ g j < 256) : s.rd.write i (strG g n) = ((s.write i n g).1, (s.write i n g).2.rd) := by
  unfold RD.write Sec.write
  have e1 : s.rd.off = s.off := rfl
  have e2 : s.rd.count = s.count := rfl
  have e3 : s.rd.size = s.size := rfl
  rw [e1, e2, e3, strG_size]
  by_cases ho : s.off = true
  · rw [if_pos ho, if_pos ho]
  · rw [if_neg ho, if_neg ho]
    by_cases hi : s.has i
    · have hi' : ¬ (i < 0 ∨ (s.count : Int) ≤ i) := by unfold Sec.has at hi; omega
      rw [if_neg hi', if_neg (not_not_intro hi)]
      by_cases hn : n ≠ s.size
      · rw [if_pos hn, if_pos hn]
      · rw [if_neg hn, if_neg hn]
        have hn : n = s.size := Decidable.not_not.1 hn
        have hb := rd_burn (ok.add hi hg)
        have he : (Sec.rd { s with l := s.l ++ [(i, g)] }) = { s.rd with ws := s.rd.ws ++ [(i, strG g n)] } := by
          rw [hn]; simp [Sec.rd, wsS]
        rw [he] at hb
        simp only [e1, e2, e3] at hb ⊢
        rw [hb]
    · have hi' : i < 0 ∨ (s.count : Int) ≤ i := by unfold Sec.has at hi; omega
      rw [if_pos hi', if_pos hi]
theorem fold_byte {l : Wl} (h2 : ∀ x ∈ l, ∀ j, 0 ≤ x.2 j ∧ x.2 j < 256) : ∀ (st : Int → Nat → Int), (∀ i j, 0 ≤ st i j ∧ st i j < 256) → ∀ i j, 0 ≤ foldW st l i j ∧ foldW st l i j < 256 := by
  induction l with
  | nil => intro st h1 i j; exact h1 i j
  | cons x l ih =>
    intro st h1 i j
    rw [foldW_cons]
    refine ih (fun y hy => h2 y (List.mem_cons_of_mem _ hy)) _ (fun i j => ?_) i j
    unfold updS
    split
    · exact h2 x List.mem_cons_self j
    · exact h1 i j
theorem Sec.Ok.sync {s : Sec} (ok : s.Ok) : s.sync.2.Ok := by
  unfold Sec.sync
  split
  · exact ok
  · cases hb : s.burn.1 with
    | true => exact ok.burn
    | false =>
      have ob := ok.burn
      exact ⟨fun x hx => absurd hx List.not_mem_nil, ob.fz, fold_byte ok.by2 _ ok.by1, fun x hx => absurd hx List.not_mem_nil⟩
theorem rd_sync {s : Sec} (ok : s.Ok) : s.rd.sync = (s.sync.1, s.sync.2.rd) := by
  unfold RD.sync Sec.sync
  have e1 : s.rd.off = s.off := rfl
  rw [e1]
  by_cases ho : s.off = true
  · rw [if_pos ho, if_pos ho]
  · rw [if_neg ho, if_neg ho, rd_burn ok]
    cases hb : s.burn.1 with
    | true => rfl
    | false =>
      obtain ⟨p1, p2, p3, p4⟩ := burn_parts s
      have hk := settle_kept (size := s.size) s.l s.st ok.wi
      simp only [cond_false, RD.settle]
      rw [Prod.mk.injEq]
      refine ⟨rfl, ?_⟩
      simp only [Sec.rd, p1, p2, p3, wsS, List.map_nil]
      simp only [wsS] at hk
      rw [hk]
theorem take_sub {s : Sec} (ok : s.Ok) (n : Nat) : ∀ x ∈ s.l.take n, 0 ≤ x.1 ∧ x.1 < s.count := fun x hx => ok.wi x (List.mem_of_mem_take hx)
theorem Sec.Ok.back {s : Sec} (ok : s.Ok) (keep : Int) (torn : Bool) : (s.back keep torn).Ok := by
  refine ⟨fun x hx => absurd hx List.not_mem_nil, fun h => absurd h (by simp [Sec.back]), ?_, fun x hx => absurd hx List.not_mem_nil⟩
  show ∀ i j, 0 ≤ backSt s.size s.st s.l (keepN keep s.l.length) torn i j ∧ backSt s.size s.st s.l (keepN keep s.l.length) torn i j < 256
  unfold backSt
  have ht : ∀ n, ∀ x ∈ s.l.take n, ∀ j, 0 ≤ x.2 j ∧ x.2 j < 256 := fun n x hx => ok.by2 x (List.mem_of_mem_take hx)
  cases torn && Nat.blt 0 (keepN keep s.l.length) with
  | false => exact fold_byte (ht _) _ ok.by1
  | true =>
    simp only [cond_true, tornL]
    refine fold_byte (fun x hx j => ?_) _ ok.by1
    rcases List.mem_append.1 hx with h | h
    · exact ht _ x h j
    · split at h
      · rename_i y hy
        simp only [List.mem_singleton] at h
        rw [h]
        unfold tornF
        simp only
        split
        · exact ok.by2 y (List.mem_of_getElem? hy) j
        · exact fold_byte (ht _) _ ok.by1 _ _
      · simp at h
theorem rd_back {s : Sec} (ok : s.Ok) (keep : Int) (torn : Bool) : s.rd.back keep torn = (s.back keep torn).rd := by
  have hl : s.rd.ws.length = s.l.length := wsS_len _ _
  unfold RD.back
  rw [hl]
  obtain ⟨z, hz⟩ : ∃ z, z = keepN keep s.l.length := ⟨_, rfl⟩
  have hzl : z ≤ s.l.length := by rw [hz]; exact Nat.min_le_right _ _
  have e1 : s.rd.kept = keptS s.size s.count s.st := rfl
  have e2 : s.rd.ws = wsS s.size s.l := rfl
  have e3 : s.rd.size = s.size := rfl
  have e4 : ∀ n, settleL (keptS s.size s.count s.st) ((wsS s.size s.l).take n) = keptS s.size s.count (foldW s.st (s.l.take n)) := fun n => by
    rw [wsS_take]; exact settle_kept _ _ (take_sub ok n)
  rw [← hz]
  cases hc : torn && Nat.blt 0 z with
  | false =>
    simp only [cond_false, RD.settle, RD.fall, e1, e2, e4]
    simp [Sec.rd, Sec.back, backSt, ← hz, hc, Sec.fall, wsS]
  | true =>
    have h0 : 0 < z := by
      rw [Bool.and_eq_true] at hc
      exact Nat.le_of_ble_eq_true hc.2
    obtain ⟨x, hx⟩ : ∃ x, s.l[z - 1]? = some x := ⟨_, List.getElem?_eq_getElem (by omega)⟩
    have hxi := ok.wi x (List.mem_of_getElem? hx)
    have hxs : (wsS s.size s.l)[z - 1]? = some (x.1, strG x.2 s.size) := by simp [wsS, hx]
    have hxk : (keptS s.size s.count (foldW s.st (s.l.take (z - 1))))[x.1.toNat]? = some (strG (foldW s.st (s.l.take (z - 1)) x.1) s.size) := by
      unfold Sec.has at hxi
      rw [keptS_get (by omega), show ((x.1.toNat : Nat) : Int) = x.1 by omega]
    have hst : backSt s.size s.st s.l z torn = updS (foldW s.st (s.l.take (z - 1))) (x.1, tornF s.size x.2 (foldW s.st (s.l.take (z - 1)) x.1)) := by
      funext i
      unfold backSt
      rw [hc]
      simp only [cond_true, tornL, hx]
      rw [foldW_snoc]
      rfl
    simp only [cond_true, e1, e2, hxs, RD.settle, e4, hxk, Option.getD_some, RD.fall, e3, tear_str]
    have h1 : settleL (keptS s.size s.count (foldW s.st (s.l.take (z - 1)))) [(x.1, strG (tornF s.size x.2 (foldW s.st (s.l.take (z - 1)) x.1)) s.size)] = keptS s.size s.count (backSt s.size s.st s.l z torn) := by
      rw [hst]
      exact keptS_set (x := (x.1, tornF s.size x.2 (foldW s.st (s.l.take (z - 1)) x.1))) hxi
    rw [h1]
    simp [Sec.rd, Sec.back, ← hz, Sec.fall, wsS]
def xorB (a b : Int) : Int := bitsI .xor .u8 a b
theorem xorB_byte (a b : Int) : 0 ≤ xorB a b ∧ xorB a b < 256 := by
  unfold xorB bitsI
  simp only [IntKind.wrap, IntKind.bits, IntKind.signed]
  simp
  omega
def byteAt (s : ByteArray) (j : Nat) : Int := ((s.data[j]?.getD 0).toNat : Int)
def spoilF (g : Nat → Int) (at' : Nat) (v : Int) (j : Nat) : Int := if j = at' then v else g j
def Sec.spoil (s : Sec) (i at' : Int) (by' : Int) : Int × Sec :=
  if s.has i ∧ 0 ≤ at' ∧ at' < s.size then (0, { s with st := updS s.st (i, spoilF (s.st i) at'.toNat (xorB (s.st i at'.toNat) by')) }) else (6, s)
def RD.spoil (d : RD) (i at' : Int) (by' : Int) : Int × RD :=
  if i < 0 ∨ (d.count : Int) ≤ i ∨ at' < 0 ∨ (d.size : Int) ≤ at' then (6, d) else
    (0, d.settle [(i, strG (spoilF (byteAt (d.kept[i.toNat]?.getD ByteArray.empty)) at'.toNat (xorB (byteAt (d.kept[i.toNat]?.getD ByteArray.empty) at'.toNat) by')) d.size)])
theorem byteAt_str {g : Nat → Int} {n j : Nat} (hj : j < n) (hg : 0 ≤ g j ∧ g j < 256) : byteAt (strG g n) j = g j := by
  unfold byteAt
  rw [strG_data]
  simp [hj]
  omega
theorem Sec.Ok.spoil {s : Sec} (ok : s.Ok) (i at' by' : Int) (hx : ∀ a, 0 ≤ xorB a by' ∧ xorB a by' < 256) : (s.spoil i at' by').2.Ok := by
  unfold Sec.spoil
  split
  · refine ⟨ok.wi, ok.fz, fun q j => ?_, ok.by2⟩
    simp only [updS]
    split
    · unfold spoilF
      split
      · exact hx _
      · exact ok.by1 _ _
    · exact ok.by1 _ _
  · exact ok
theorem rd_spoil {s : Sec} (ok : s.Ok) (i at' by' : Int) : s.rd.spoil i at' by' = ((s.spoil i at' by').1, (s.spoil i at' by').2.rd) := by
  unfold RD.spoil Sec.spoil
  have e2 : s.rd.count = s.count := rfl
  have e3 : s.rd.size = s.size := rfl
  have e4 : s.rd.kept = keptS s.size s.count s.st := rfl
  rw [e2, e3, e4]
  by_cases h : s.has i ∧ 0 ≤ at' ∧ at' < s.size
  · have hi := h.1
    unfold Sec.has at hi
    rw [if_pos h, if_neg (by omega), keptS_get (by omega)]
    simp only [Option.getD_some]
    rw [show ((i.toNat : Nat) : Int) = i by omega]
    have e5 : strG (spoilF (byteAt (strG (s.st i) s.size)) at'.toNat (xorB (byteAt (strG (s.st i) s.size) at'.toNat) by')) s.size = strG (spoilF (s.st i) at'.toNat (xorB (s.st i at'.toNat) by')) s.size := strG_eq fun j hj => by
      rw [byteAt_str (by omega) (ok.by1 i _)]
      unfold spoilF
      rw [byteAt_str hj (ok.by1 i j)]
    rw [e5, Prod.mk.injEq]
    refine ⟨rfl, ?_⟩
    have hk := keptS_set (size := s.size) (count := s.count) (st := s.st) (x := (i, spoilF (s.st i) at'.toNat (xorB (s.st i at'.toNat) by'))) hi
    simp only [RD.settle, settleL, List.foldl_cons, List.foldl_nil, e4]
    simp only at hk
    rw [hk]
    rfl
  · have h' : i < 0 ∨ (s.count : Int) ≤ i ∨ at' < 0 ∨ (s.size : Int) ≤ at' := by unfold Sec.has at h; omega
    rw [if_neg h, if_pos h']
end Go.Proofs.Ytkjhpaeminegoaa

namespace Go.Proofs.Ytkjhpaeminegoaa
open Go Go.Eng
def Dk.sec (d : Dk) : Sec := ⟨d.h.size, d.h.count, stK d.kept, d.log d.h.n, d.h.off, d.h.falls, d.h.fused, d.h.fuse⟩
structure PlG (B : Nat) (s : Sec) (d : Dk) : Prop where
  ok : d.Ok
  far : ∀ k o, d.D k o → B ≤ k
  e : d.sec = s
structure ToG (B : Nat) (s : Sec) (d d' : Dk) (w w' : World) : Prop where
  b : d'.b = d.b
  y : d'.y = d.y
  p : PlG B s d'
  at' : DiskAt d' w'
  chg : Chg d.D w w'
  inD : ∀ k o, d'.D k o → d.D k o ∨ w.heap.size ≤ k
theorem sec_burn (h : Hd) (st : Int → Nat → Int) (l : Wl) : h.burn.1 = (Sec.burn ⟨h.size, h.count, st, l, h.off, h.falls, h.fused, h.fuse⟩).1 ∧
    (⟨h.burn.2.size, h.burn.2.count, st, l, h.burn.2.off, h.burn.2.falls, h.burn.2.fused, h.burn.2.fuse⟩ : Sec) = (Sec.burn ⟨h.size, h.count, st, l, h.off, h.falls, h.fused, h.fuse⟩).2 := by
  obtain ⟨size, count, m, po, n, cp, off, falls, fused, fuse⟩ := h
  unfold Hd.burn Sec.burn Hd.fall Sec.fall
  cases fused <;> cases off <;> simp <;> split <;> simp
theorem withH_sec (d : Dk) (h : Hd) (hs : SameH d.h h) : (d.withH h).sec = ⟨h.size, h.count, stK d.kept, d.log d.h.n, h.off, h.falls, h.fused, h.fuse⟩ := by
  show Sec.mk _ _ _ (Dk.log _ h.n) _ _ _ _ = _
  rw [hs.n]
  rfl
theorem withH_burn (d : Dk) : (d.withH d.h.burn.2).sec = d.sec.burn.2 := by
  rw [withH_sec d _ (sameH_burn d.h)]
  exact (sec_burn d.h _ _).2
theorem PlG.len {B : Nat} {s : Sec} {d : Dk} (h : PlG B s d) : s.l.length = d.h.n := by rw [← h.e]; exact Dk.log_len _ _
theorem PlG.rd {B : Nat} {s : Sec} {d : Dk} (h : PlG B s d) (i : Int) : d.rd i = foldW s.st s.l i := by
  rw [← h.e]
  unfold Dk.rd
  rw [Dk.st_eq, rdF_fold d (stK d.kept) i]
  rfl
theorem PlG.has {B : Nat} {s : Sec} {d : Dk} (h : PlG B s d) (i : Int) : d.h.has i ↔ s.has i := by
  rw [← h.e]; exact Iff.rfl
theorem g_new {B b y size count m : Nat} (hs : 64 ≤ size ∧ size ≤ 512) (hc : 1 ≤ count ∧ count ≤ 4096) (hb : B ≤ b) (hm : B ≤ m) : PlG B ⟨size, count, fun _ _ => 0, [], false, 0, false, 0⟩ (newDk b y size count m) :=
  ⟨newDk_ok hs hc, fun k o h => (newDk_D h).elim (fun e => e ▸ hb) (fun e => e ▸ hm), rfl⟩
theorem ToG.refl {B : Nat} {s : Sec} {d : Dk} {w w' : World} (h : PlG B s d) (hD : DiskAt d w) (hc : Chg (fun _ _ => False) w w') : ToG B s d d w w' :=
  ⟨rfl, rfl, h, hD.chk hc, hc.mono fun _ _ _ h => h.elim, fun _ _ h => .inl h⟩
theorem hdO_D {d : Dk} : ∀ k o, hdO d.b d.y k o → d.D k o := fun _ _ h => .inl h
theorem ToG.withH {B : Nat} {d : Dk} {w w' : World} {h : Hd} (hB : ∀ k o, d.D k o → B ≤ k) (ok : d.Ok) (hD : DiskAt d w) (hc : Chg (hdO d.b d.y) w w') (hh : HdAt d.b d.y h w') (hs : SameH d.h h) : ToG B ⟨h.size, h.count, stK d.kept, d.log d.h.n, h.off, h.falls, h.fused, h.fuse⟩ d (d.withH h) w w' :=
  ⟨rfl, rfl, ⟨Dk.withH_ok hs ok, fun k o hk => hB k o (by rwa [Dk.withH_D hs] at hk), withH_sec d h hs⟩, hD.withH ok.toOk0 hc hh hs, hc.mono fun k o _ h => hdO_D k o h, fun k o hk => .inl (by rwa [Dk.withH_D hs] at hk)⟩
theorem g_fall {B : Nat} {s : Sec} {d : Dk} (h : PlG B s d) (w : World) (hD : DiskAt d w) :
    Calls Try.prog 26 #[.pointer (some ⟨d.b, d.y, none⟩)] w fun e w' => e = .returned (.tuple #[]) ∧ ∃ d', ToG B s.fall d d' w w' := by
  refine (fall_ok d.b d.y d.h w hD.hd hD.hf).mono fun e w' ⟨he, hh, hc⟩ => ⟨he, d.withH d.h.fall, ?_⟩
  have ht := ToG.withH h.far h.ok hD hc hh (sameH_fall d.h)
  have e1 : (⟨d.h.fall.size, d.h.fall.count, stK d.kept, d.log d.h.n, d.h.fall.off, d.h.fall.falls, d.h.fall.fused, d.h.fall.fuse⟩ : Sec) = s.fall := by
    rw [← h.e]
    unfold Dk.sec Sec.fall Hd.fall
    cases ho : d.h.off <;> simp [ho]
  rw [e1] at ht
  exact ht
theorem g_fuse {B : Nat} {s : Sec} {d : Dk} (h : PlG B s d) (n : Int) (w : World) (hD : DiskAt d w) :
    Calls Try.prog 25 #[.pointer (some ⟨d.b, d.y, none⟩), .int .i64 n] w fun e w' => e = .returned (.tuple #[]) ∧ ∃ d', ToG B (s.lit n) d d' w w' := by
  refine (fuse_ok d.b d.y d.h n w hD.hd hD.hf).mono fun e w' ⟨he, hh, hc⟩ => ⟨he, d.withH (d.h.lit n), ?_⟩
  have ht := ToG.withH h.far h.ok hD hc hh (sameH_lit d.h n)
  have e1 : (⟨(d.h.lit n).size, (d.h.lit n).count, stK d.kept, d.log d.h.n, (d.h.lit n).off, (d.h.lit n).falls, (d.h.lit n).fused, (d.h.lit n).fuse⟩ : Sec) = s.lit n := by
    rw [← h.e]
    rfl
  rw [e1] at ht
  exact ht
theorem g_write {B : Nat} {s : Sec} {d : Dk} (h : PlG B s d) (i : Int) (bp : Option Addr) (bn bc : Nat) (g : Nat → Int) (w : World) (hD : DiskAt d w) (hl : s.l.length < 1000) (hB : B ≤ w.heap.size)
    (hsrc : BytesIn bp bn g w) (hfar : 0 < bn → ∀ b y, bp = some ⟨b, y, none⟩ → ∀ o, ¬ d.D b o) :
    Calls Try.prog 13 #[.pointer (some ⟨d.b, d.y, none⟩), .int .i64 i, .slice bp bn bc] w fun e w' => e = .returned (.int .i64 (s.write i bn g).1) ∧ ∃ d', ToG B (s.write i bn g).2 d d' w w' := by
  have hln := h.len
  have hwr : (d.h.wr i bn = 0 → s.off = false ∧ s.has i ∧ bn = s.size) ∧ (d.h.wr i bn ≠ 0 → s.write i bn g = (d.h.wr i bn, s)) := by
    have e1 : d.h.off = s.off := by rw [← h.e]; rfl
    have e2 : d.h.size = s.size := by rw [← h.e]; rfl
    unfold Hd.wr Sec.write
    rw [e1, e2]
    by_cases ho : s.off = true
    · rw [if_pos ho, if_pos ho]; exact ⟨fun h => by omega, fun _ => rfl⟩
    · rw [if_neg ho, if_neg ho]
      by_cases hi : s.has i
      · rw [if_pos ((h.has i).2 hi), if_neg (not_not_intro hi)]
        by_cases hn : bn = s.size
        · rw [if_pos hn]
          exact ⟨fun _ => ⟨by simpa using ho, hi, hn⟩, fun h => absurd rfl h⟩
        · rw [if_neg hn, if_pos hn]; exact ⟨fun h => by omega, fun _ => rfl⟩
      · rw [if_neg fun h1 => hi ((h.has i).1 h1), if_pos hi]; exact ⟨fun h => by omega, fun _ => rfl⟩
  by_cases hw : d.h.wr i bn = 0
  · obtain ⟨hoff, hi, hbn⟩ := hwr.1 hw
    have hsz := h.ok.sz
    have e1 : d.h.off = false := by rw [← hoff, ← h.e]; rfl
    have e2 : d.h.size = s.size := by rw [← h.e]; rfl
    obtain ⟨b, y, rfl, hb⟩ := hsrc (by omega)
    have hbB := hfar (by omega) b y rfl
    subst hbn
    have hh := write_ok d i b y bc g w hD h.ok e1 ((h.has i).2 hi) (by omega) (by rw [e2]; exact hb) (fun o _ hd => hbB _ hd)
    rw [e2] at hh
    refine hh.mono fun e w' ⟨bt, h1, h2, wb', wy', u, he, k1, k2, k3, k4, k5, k6, k7⟩ => ?_
    have hs2 := sameH_burn h1
    rw [k1] at hs2
    have hn2 : h2.n = d.h.n + 1 := by rw [hs2.n, k2]
    have hsec : (d.wrote h2 wb' wy' i u).sec = (Sec.burn { s with l := s.l ++ [(i, g)] }).2 ∧ bt = (Sec.burn { s with l := s.l ++ [(i, g)] }).1 := by
      have hlog : (d.wrote h2 wb' wy' i u).log (d.wrote h2 wb' wy' i u).h.n = s.l ++ [(i, g)] := by
        show (d.wrote h2 wb' wy' i u).log h2.n = _
        rw [hn2, Dk.log_succ, ← h.e]
        congr 1
        · unfold Dk.log
          exact List.map_congr_left fun q hq => by rw [show (d.wrote h2 wb' wy' i u).ws q = d.ws q from updA_ne _ _ (by have := List.mem_range.1 hq; omega)]
        · rw [show (d.wrote h2 wb' wy' i u).ws d.h.n = (i, u) from updA_at _ _ _, k3]
      have hb := sec_burn h1 s.st (s.l ++ [(i, g)])
      rw [k1] at hb
      have hh1 : (⟨h1.size, h1.count, s.st, s.l ++ [(i, g)], h1.off, h1.falls, h1.fused, h1.fuse⟩ : Sec) = { s with l := s.l ++ [(i, g)] } := by
        rw [k2, ← h.e]; rfl
      rw [hh1] at hb
      refine ⟨?_, hb.1⟩
      rw [← hb.2]
      show Sec.mk h2.size h2.count (stK d.kept) ((d.wrote h2 wb' wy' i u).log (d.wrote h2 wb' wy' i u).h.n) h2.off h2.falls h2.fused h2.fuse = _
      rw [hlog, ← h.e]
      rfl
    have hws : s.write i s.size g = (bif (Sec.burn { s with l := s.l ++ [(i, g)] }).1 then 8 else 0, (Sec.burn { s with l := s.l ++ [(i, g)] }).2) := by
      unfold Sec.write
      rw [if_neg (by rw [hoff]; simp), if_neg (not_not_intro hi), if_neg (by simp)]
    rw [hws]
    refine ⟨by rw [he, ← hsec.2]; cases bt <;> rfl, d.wrote h2 wb' wy' i u, rfl, rfl, ⟨k5, fun k o hk => (k7 k o hk).elim (h.far k o) (fun h => Nat.le_trans hB h), hsec.1⟩, k4, k6, k7⟩
  · rw [hwr.2 hw]
    exact (write_err d.b d.y d.h i bp bn bc w hD.hd hw).mono fun e w' ⟨he, hc⟩ => ⟨he, d, ToG.refl h hD hc⟩
theorem g_sync {B : Nat} {s : Sec} {d : Dk} (h : PlG B s d) (w : World) (hD : DiskAt d w) :
    Calls Try.prog 14 #[.pointer (some ⟨d.b, d.y, none⟩)] w fun e w' => e = .returned (.int .i64 s.sync.1) ∧ ∃ d', ToG B s.sync.2 d d' w w' := by
  have e1 : d.h.off = s.off := by rw [← h.e]; rfl
  unfold Sec.sync
  by_cases ho : s.off = true
  · rw [if_pos ho]
    exact (sync_off d.b d.y d.h w hD.hd (by rw [e1, ho])).mono fun e w' ⟨he, hc⟩ => ⟨he, d, ToG.refl h hD hc⟩
  · rw [if_neg ho]
    have hb := sec_burn d.h (stK d.kept) (d.log d.h.n)
    have hb1 : d.h.burn.1 = s.burn.1 := by rw [← h.e]; exact hb.1
    refine (sync_ok d w hD h.ok (by rw [e1]; simpa using ho)).mono fun e w' ⟨d', k1, he, k2, k3, k4, k5⟩ => ?_
    rw [hb1] at k1 he
    cases hbb : s.burn.1 with
    | true =>
      rw [hbb] at k1 he
      have k1 : d' = d.withH d.h.burn.2 := k1
      subst k1
      exact ⟨he, d.withH d.h.burn.2, rfl, rfl, ⟨k3, fun k o hk => h.far k o (k5 k o hk), by rw [withH_burn, h.e]; rfl⟩, k2, k4, fun k o hk => .inl (k5 k o hk)⟩
    | false =>
      rw [hbb] at k1 he
      have k1 : d' = d.synced := k1
      subst k1
      refine ⟨he, d.synced, rfl, rfl, ⟨k3, fun k o hk => h.far k o (k5 k o hk), ?_⟩, k2, k4, fun k o hk => .inl (k5 k o hk)⟩
      have hs := sameH_burn d.h
      have hst : stK (settleK d.kept d.ws 0 d.h.n) = foldW s.st s.l := by
        funext q
        rw [stK_settle, ← h.e]
        rfl
      have hbs : (⟨d.h.burn.2.size, d.h.burn.2.count, stK d.kept, d.log d.h.n, d.h.burn.2.off, d.h.burn.2.falls, d.h.burn.2.fused, d.h.burn.2.fuse⟩ : Sec) = s.burn.2 := by rw [← h.e]; exact hb.2
      show Sec.mk d.h.burn.2.size d.h.burn.2.count (stK (settleK d.kept d.ws 0 d.h.n)) [] d.h.burn.2.off d.h.burn.2.falls d.h.burn.2.fused d.h.burn.2.fuse = { s.burn.2 with st := foldW s.st s.l, l := [] }
      rw [hst, ← hbs]
theorem g_back {B : Nat} {s : Sec} {d : Dk} (h : PlG B s d) (keep : Int) (torn : Bool) (w : World) (hD : DiskAt d w) :
    Calls Try.prog 16 #[.pointer (some ⟨d.b, d.y, none⟩), .int .i64 keep, .bool torn] w fun e w' => e = .returned (.tuple #[]) ∧ ∃ d', ToG B (s.back keep torn) d d' w w' := by
  have hl := h.len
  have hst : ∀ i, stK d.kept i = s.st i := fun i => by rw [← h.e]; rfl
  have hlog : d.log d.h.n = s.l := by rw [← h.e]; rfl
  have hsz : d.h.size = s.size := by rw [← h.e]; rfl
  have hfin : ∀ (d' : Dk) (z : Nat), (∀ q, stK d'.kept q = backSt s.size s.st s.l (keepN keep s.l.length) torn q) → d'.h = d.h → (d'.withH d.h.backed).sec = s.back keep torn := fun d' z hk hh => by
    have e : stK d'.kept = backSt s.size s.st s.l (keepN keep s.l.length) torn := funext hk
    have hb : d.h.backed.size = s.size ∧ d.h.backed.count = s.count ∧ d.h.backed.n = 0 ∧ d.h.backed.off = false ∧ d.h.backed.falls = s.fall.falls ∧ d.h.backed.fused = false ∧ d.h.backed.fuse = s.fuse := by
      rw [← h.e]
      unfold Hd.backed Hd.fall Sec.fall Dk.sec
      cases ho : d.h.off <;> simp [ho]
    obtain ⟨b1, b2, b3, b4, b5, b6, b7⟩ := hb
    show Sec.mk d.h.backed.size d.h.backed.count (stK d'.kept) (Dk.log _ d.h.backed.n) d.h.backed.off d.h.backed.falls d.h.backed.fused d.h.backed.fuse = _
    rw [e, b1, b2, b3, b4, b5, b6, b7]
    rfl
  obtain ⟨z, hz⟩ : ∃ z, z = keepN keep s.l.length := ⟨_, rfl⟩
  by_cases hc : torn = true ∧ 0 < z
  · obtain ⟨rfl, h0⟩ := hc
    obtain ⟨i, rfl⟩ : ∃ i, z = i + 1 := ⟨z - 1, by omega⟩
    have hin : i < d.h.n := by have := keepN_le keep s.l.length; omega
    refine (back_torn d keep w hD h.ok i (i + 1) rfl (by rw [hz, hl])).mono fun e w' ⟨he, k1, k2, k3, k4⟩ => ?_
    refine ⟨he, ((d.rewr i (d.tornB i)).settled 0 (i + 1)).withH d.h.backed, rfl, rfl, ⟨k2, fun k o hk => h.far k o (k4 k o hk), hfin _ 0 (fun q => ?_) rfl⟩, k1, k3, fun k o hk => .inl (k4 k o hk)⟩
    have hst2 : ∀ q, (d.settled 0 i).st q = foldW s.st (s.l.take i) q := fun q => by
      show stK (settleK d.kept d.ws 0 i) q = _
      rw [stK_settle, ← hlog, Dk.log_take d (by omega)]
      exact foldW_st hst _ _
    show stK (settleK (d.rewr i (d.tornB i)).kept (d.rewr i (d.tornB i)).ws 0 (i + 1)) q = _
    rw [stK_settle, Dk.log_rewr]
    show foldW (stK d.kept) _ q = _
    rw [foldW_st hst, ← hz]
    have e0 : backSt s.size s.st s.l (i + 1) true = foldW s.st (tornL s.size s.st s.l (i + 1)) := rfl
    rw [e0]
    unfold tornL
    rw [Nat.add_sub_cancel, ← hlog, Dk.log_at d hin, Dk.log_take d (by omega)]
    simp only [Dk.tornB]
    rw [hst2, ← hlog, Dk.log_take d (by omega), hsz]
  · have e0 : backSt s.size s.st s.l z torn = foldW s.st (s.l.take z) := by
      unfold backSt
      have : (torn && Nat.blt 0 z) = false := by
        cases torn with
        | false => rfl
        | true =>
          cases hb : Nat.blt 0 z with
          | false => rfl
          | true => exact absurd ⟨rfl, Nat.lt_of_lt_of_le Nat.zero_lt_one (by simpa [Nat.blt] using hb)⟩ hc
      rw [this]; rfl
    have ht : torn = false ∨ z = 0 := by
      cases torn with
      | false => exact .inl rfl
      | true => exact .inr (by have : ¬ 0 < z := fun h0 => hc ⟨rfl, h0⟩; omega)
    have hzn : z ≤ d.h.n := by rw [hz, ← hl]; exact keepN_le _ _
    refine (back_whole d keep torn w hD h.ok z (by rw [hz, hl]) ht).mono fun e w' ⟨he, k1, k2, k3, k4⟩ => ?_
    refine ⟨he, (d.settled 0 z).withH d.h.backed, rfl, rfl, ⟨k2, fun k o hk => h.far k o (k4 k o hk), hfin _ 0 (fun q => ?_) rfl⟩, k1, k3, fun k o hk => .inl (k4 k o hk)⟩
    show stK (settleK d.kept d.ws 0 z) q = _
    rw [stK_settle, ← hz, e0, ← hlog, Dk.log_take d hzn]
    exact foldW_st hst _ _
set_option maxRecDepth 100000 in
set_option cbv.maxSteps 100000000 in
theorem read_err (b y : Nat) (h : Hd) (i : Int) (w : World) (hh : HdAt b y h w) (he : h.off = true ∨ ¬ h.has i) :
    Calls Try.prog 15 #[.pointer (some ⟨b, y, none⟩), .int .i64 i] w fun e w' => e = .returned (.tuple #[.slice none 0 0, .int .i64 (if h.off then 8 else 6)]) ∧ Chg (fun _ _ => False) w w' := by
  refine X.begin (rg := [⟨false, h.sv, none⟩]) (N := [⟨b, y, 8⟩]) (ss := [.own 0 0, .int .i64 (.v i)]) Try.func15 rfl B15_ok rfl rfl (Sat.std1 false hh.lt (hh.cells _) (fun h => by cases h)) ?_
  obtain ⟨size, count, m, po', n', cp', off, falls, fused, fuse⟩ := h
  cases off with
  | true =>
    refine X.goC FALL_ok false T15_ok 400 _ rfl Try.results15 ?_
    conv => arg 2; cbv
    refine X.done T15_ok rfl (fun N w' v hN hS hv => ?_)
    exact ⟨by rw [← (Option.some.inj hv : _ = v)]; rfl, hS.chg.ro1⟩
  | false =>
    have hno : ¬ Hd.has ⟨size, count, m, po', n', cp', false, falls, fused, fuse⟩ i := he.resolve_left (by simp)
    refine X.goC FALL_ok false T15_ok 400 _ rfl Try.results15 ?_
    conv => arg 2; cbv
    refine X.cond rfl (fun hc => ?_) (fun hc => ?_)
    · refine X.goC FALL_ok false T15_ok 400 _ rfl Try.results15 ?_
      conv => arg 2; cbv
      refine X.done T15_ok rfl (fun N w' v hN hS hv => ?_)
      exact ⟨by rw [← (Option.some.inj hv : _ = v)]; rfl, hS.chg.ro1⟩
    · exfalso
      simp only [SB.T, SB.F, SI.den] at hc
      unfold Hd.has at hno
      simp only at hno
      omega
end Go.Proofs.Ytkjhpaeminegoaa

namespace Go.Eng
open Go
mutual
def SV.frr (L r : Nat) : SV → Bool
  | .own q _ => Nat.blt q L && !(Nat.beq q r)
  | .osl q _ _ _ _ => Nat.blt q L && !(Nat.beq q r)
  | .mp q => Nat.blt q L && !(Nat.beq q r)
  | .ch q => Nat.blt q L && !(Nat.beq q r)
  | .agg cs => SV.frrL L r cs
  | .tup cs => SV.frrL L r cs
  | .fn _ cs => SV.frrL L r cs
  | _ => true
def SV.frrL (L r : Nat) : List SV → Bool
  | [] => true
  | c :: cs => c.frr L r && SV.frrL L r cs
end
theorem num_swap {N : Nums} {q : Num} {L r i : Nat} (hN : N.length = L) (h : (Nat.blt i L && !(Nat.beq i r)) = true) : (N ++ [q])[i]? = (N.set r q)[i]? := by
  simp only [Bool.and_eq_true, Bool.not_eq_true', Nat.blt_eq] at h
  obtain ⟨h1, h2⟩ := h
  have hne : ¬ i = r := fun e => by subst e; simp at h2
  rw [List.getElem?_append_left (by omega), List.getElem?_set_ne (fun e => hne e.symm)]
mutual
theorem SV.frr_den {N : Nums} {q : Num} {L r : Nat} (hN : N.length = L) : ∀ (s : SV), s.frr L r = true → s.den (N ++ [q]) = s.den (N.set r q)
  | .int _ _, _ => rfl
  | .bool _, _ => rfl
  | .own i c, h => by simp only [SV.den, num_swap hN h]
  | .ext _ _ _, _ => rfl
  | .sl _ _ _ _, _ => rfl
  | .slv _ _ _, _ => rfl
  | .raw _, _ => rfl
  | .big _, _ => rfl
  | .agg cs, h => by simp only [SV.den, SV.frrL_den hN cs h]
  | .tup cs, h => by simp only [SV.den, SV.frrL_den hN cs h]
  | .osl i c n z k, h => by simp only [SV.den, num_swap hN h]
  | .fn f cs, h => by simp only [SV.den, SV.frrL_den hN cs h]
  | .mp i, h => by simp only [SV.den, num_swap hN h]
  | .ch i, h => by simp only [SV.den, num_swap hN h]
theorem SV.frrL_den {N : Nums} {q : Num} {L r : Nat} (hN : N.length = L) : ∀ (s : List SV), SV.frrL L r s = true → SV.denL (N ++ [q]) s = SV.denL (N.set r q) s
  | [], _ => rfl
  | c :: cs, h => by
    simp only [SV.frrL, Bool.and_eq_true] at h
    simp only [SV.denL, SV.frr_den hN c h.1, SV.frrL_den hN cs h.2]
end
def FrP (L r : Nat) : Fr → Prop
  | [] => True
  | (_, .val v) :: f => v.frr L r = true ∧ FrP L r f
  | _ => False
theorem FrP.sh {N : Nums} {q : Num} {L r : Nat} (hN : N.length = L) : ∀ {f : Fr}, FrP L r f → Sh (N ++ [q]) (N.set r q) f f
  | [], _ => trivial
  | (_, .val v) :: _, h => ⟨rfl, fun x hx => by rw [← SV.frr_den hN v h.1]; exact hx, FrP.sh hN h.2⟩
  | (_, .opt _ _ _) :: _, h => h.elim
  | (_, .dead) :: _, h => h.elim
def RgF (L r : Nat) : Nat → List Rg → Prop
  | _, [] => True
  | j, g :: gs => (j = r ∨ g.cells.all (SV.frr L r) = true) ∧ RgF L r (j + 1) gs
theorem RgF.get {L r : Nat} : ∀ {gs : List Rg} {j i : Nat} {g : Rg}, RgF L r j gs → gs[i]? = some g → j + i ≠ r → g.cells.all (SV.frr L r) = true
  | [], _, _, _, _, h, _ => by simp at h
  | g0 :: gs, j, 0, g, h, hi, hne => by
    simp at hi
    subst hi
    exact h.1.resolve_left (by omega)
  | g0 :: gs, j, i + 1, g, h, hi, hne => RgF.get (j := j + 1) h.2 (by simpa using hi) (by omega)
section
variable {E : Ctx}
theorem X.dummy {k : List It} {f : Fr} {rg : List Rg} (hne : 0 < rg.length) (h : X E k ⟨f, rg ++ [⟨true, [], none⟩]⟩) : X E k ⟨f, rg⟩ := by
  refine X.conv fun N a w hN hfr hS => ?_
  obtain ⟨p0, hp0⟩ : ∃ p, N[0]? = some p := ⟨_, List.getElem?_eq_getElem (by rw [hS.len]; exact hne)⟩
  refine ⟨E, ⟨f, rg ++ [⟨true, [], none⟩]⟩, rfl, rfl, rfl, rfl, ⟨N ++ [⟨p0.b, 0, 0⟩], hN.trans (Nums.le_append _ _), hfr.mono (Nums.le_append _ _), ?_⟩, h⟩
  have hle : N.le (N ++ [⟨p0.b, 0, 0⟩]) := Nums.le_append _ _
  refine ⟨by simp [hS.len], ?_, ?_, ?_, ?_, ?_, ?_, ?_, hS.imm, ?_, ?_, hS.dlt, hS.loc, hS.res, hS.chg, ?_⟩
  · intro i q hq
    rcases Nat.lt_or_ge i N.length with hi | hi
    · rw [List.getElem?_append_left hi] at hq; exact hS.lt i q hq
    · rw [List.getElem?_append_right hi] at hq
      have hz : i - N.length = 0 := by
        have := (List.getElem?_eq_some_iff.1 hq).1
        simp at this; omega
      rw [hz] at hq; simp at hq; subst hq; exact hS.lt 0 p0 hp0
  · intro i g q hg hq j d hj
    rcases get_snoc hS.len hg hq with ⟨a, b⟩ | ⟨_, rfl, rfl⟩
    · obtain ⟨v, h1, h2⟩ := hS.cell i g q a b j d hj
      exact ⟨v, SV.den_mono hle d h1, h2⟩
    · simp at hj
  · intro i g q hg hq ho
    rcases get_snoc hS.len hg hq with ⟨a, b⟩ | ⟨_, rfl, rfl⟩
    · exact hS.ext i g q a b ho
    · exact Nat.le_refl _
  · intro i g q hg hq ho j hj
    rcases get_snoc hS.len hg hq with ⟨a, b⟩ | ⟨_, rfl, rfl⟩
    · exact hS.room i g q a b ho j hj
    · exact absurd hj (Nat.not_lt_zero j)
  · intro i i' g g' q q' hg hq hg' hq' ho hne j hj hb'
    rcases get_snoc hS.len hg hq with ⟨a1, a2⟩ | ⟨a0, rfl, rfl⟩
    · rcases get_snoc hS.len hg' hq' with ⟨b1, b2⟩ | ⟨b0, rfl, rfl⟩
      · exact hS.disj i i' g g' q q' a1 a2 b1 b2 ho hne j hj hb'
      · exact absurd hj (Nat.not_lt_zero j)
    · exact .inr (Nat.zero_le _)
  · intro i g q ob hg hq ho
    rcases get_snoc hS.len hg hq with ⟨a, b⟩ | ⟨_, rfl, rfl⟩
    · obtain ⟨⟨o', k1, k2⟩, k3⟩ := hS.obj i g q ob a b ho
      exact ⟨⟨o', Ob.den_mono hle ob k1, k2⟩, k3⟩
    · simp at ho
  · intro i i' g g' q q' hg hq hg' hq' ho ho' hne
    rcases get_snoc hS.len hg hq with ⟨a1, a2⟩ | ⟨a0, rfl, rfl⟩
    · rcases get_snoc hS.len hg' hq' with ⟨b1, b2⟩ | ⟨b0, rfl, rfl⟩
      · exact hS.odisj i i' g g' q q' a1 a2 b1 b2 ho ho' hne
      · simp at ho'
    · simp at ho
  · intro i g q hg hq ho j hj
    rcases get_snoc hS.len hg hq with ⟨a, b⟩ | ⟨_, rfl, rfl⟩
    · exact hS.imd i g q a b ho j hj
    · exact absurd hj (Nat.not_lt_zero j)
  · intro i g q hg hq ho j hj
    rcases get_snoc hS.len hg hq with ⟨a, b⟩ | ⟨_, rfl, rfl⟩
    · exact hS.dd i g q a b ho j hj
    · exact absurd hj (Nat.not_lt_zero j)
  · intro i g q hg hq ho
    rcases get_snoc hS.len hg hq with ⟨a, b⟩ | ⟨_, rfl, rfl⟩
    · exact hS.foot i g q a b ho
    · exact .inr fun j hj => absurd hj (Nat.not_lt_zero j)
end
def gV (r n z : Nat) : SV := bif Nat.beq n 0 then .raw (.slice none 0 0) else .osl r 0 n z none
def eV (r n z : Nat) : SV := bif Nat.beq n 0 then .osl r 0 0 z (some 0) else .osl r 0 n z none
section
variable {E : Ctx}
end
theorem vk_osl {E : Env} {N0 : Nums} {rg : List Rg} {f : Fr} {g : GK} {t e : TypeId} {x ix : Operand} {n z q r c : Nat} {sx : SV} {kd : IntKind} {s : SI} (hx : evK f g x = some sx) (hsx : sx = gV r n q ∨ sx = eV r n q ∨ ∃ k, sx = .osl r 0 n q k) (hix : evK f g ix = some (.int kd s)) (hz : g.T → s.den = (z : Int)) (hu : E.P.underlying t = some (.slice e)) (hq : ∀ w, (sizeOf e).run E.P w = .ok q w)
    (hlt : g.T → z < n) (hc : c = z * q) (hr : r < rg.length) : ValOk E N0 rg f g (.indexAddr t x ix) (.own r c) := by
  intro ht N ρ op w hN0 hop hρ hV
  have h1 := hρ _ _ hx
  have h2 := hρ _ _ hix
  have hlt := hlt ht
  obtain ⟨p, hp⟩ : ∃ p, N[r]? = some p := ⟨_, List.getElem?_eq_getElem (by have := hV.1.len; omega)⟩
  have hb : Nat.beq n 0 = false := by cases h : Nat.beq n 0 with | false => rfl | true => have := Nat.eq_of_beq_eq_true h; omega
  obtain ⟨k, hk⟩ : ∃ k, ρ x = .slice (some ⟨p.b, p.o + 0, none⟩) n k := by
    rcases hsx with rfl | rfl | ⟨k, rfl⟩
    · simp only [gV, hb, cond_false, SV.den, hp, Option.some.injEq] at h1; exact ⟨_, h1.symm⟩
    · simp only [eV, hb, cond_false, SV.den, hp, Option.some.injEq] at h1; exact ⟨_, h1.symm⟩
    · simp only [SV.den, hp, Option.some.injEq] at h1; exact ⟨_, h1.symm⟩
  simp only [SV.den, hz ht, Option.some.injEq] at h2
  refine ⟨.pointer (some ⟨p.b, p.o + c, none⟩), by simp only [SV.den, hp], fun w' _ => ?_⟩
  simp only [execOp, hop, hk, ← h2, Sem.run_bind, Result.andThen, Sem.run_pure]
  simp [Instr.indexAt, asIntOf, run_underlying hu, Result.andThen, hlt, hq, addr_add, hc]
theorem X.keep {E : Ctx} {k : List It} (h0 : E.N0 = []) (rs : List Nat) (hnd : rs.Nodup) {f : Fr} (f' : Fr) {rg : List Rg} (rg' : List Rg) (hl : rg'.length = rs.length) (hrg : ∀ (i r : Nat), rs[i]? = some r → rg'[i]? = rg[r]?)
    (hs : ∀ N N' : Nums, N.length = rg.length → N'.length = rs.length → (∀ (i r : Nat), rs[i]? = some r → N'[i]? = N[r]?) → Sh N N' f f') (hc : ∀ g ∈ rg', ∀ c ∈ g.cells, ∀ (N N' : Nums) (v : Value), c.den N = some v → c.den N' = some v) (hob : ∀ g ∈ rg', g.ob = none) (h : X E k ⟨f', rg'⟩) : X E k ⟨f, rg⟩ := by
  refine X.conv fun N a w hN hfr hS => ?_
  have hNl : N.length = rg.length := hS.len
  have hlt : ∀ (i r : Nat), rs[i]? = some r → r < rg.length := fun i r hi => by
    have h1 := hrg i r hi
    have hi2 : i < rg'.length := by rw [hl]; exact (List.getElem?_eq_some_iff.1 hi).1
    rw [List.getElem?_eq_getElem hi2] at h1
    exact (List.getElem?_eq_some_iff.1 h1.symm).1
  obtain ⟨N', hN', hget⟩ : ∃ N' : Nums, N'.length = rs.length ∧ ∀ (i r : Nat), rs[i]? = some r → N'[i]? = N[r]? := by
    refine ⟨rs.map fun r => N.getD r ⟨0, 0, 0⟩, by simp, fun i r hi => ?_⟩
    have hr := hlt i r hi
    simp [List.getElem?_map, hi, List.getElem?_eq_getElem (show r < N.length by omega)]
  have back : ∀ {i : Nat} {g : Rg} {p : Num}, rg'[i]? = some g → N'[i]? = some p → ∃ r, rs[i]? = some r ∧ rg[r]? = some g ∧ N[r]? = some p := fun {i g p} h1 h2 => by
    have hi : i < rs.length := by rw [← hl]; exact (List.getElem?_eq_some_iff.1 h1).1
    refine ⟨rs[i], List.getElem?_eq_getElem hi, ?_, ?_⟩
    · rw [← hrg i _ (List.getElem?_eq_getElem hi)]; exact h1
    · rw [← hget i _ (List.getElem?_eq_getElem hi)]; exact h2
  have noob : ∀ {i : Nat} {g : Rg}, rg'[i]? = some g → g.ob = none := fun h => hob _ (List.mem_of_getElem? h)
  refine ⟨E, ⟨f', rg'⟩, rfl, rfl, rfl, rfl, ⟨N', by rw [h0]; exact nil_le _, hfr.sh (hs N N' hNl hN' hget), ?_⟩, h⟩
  exact { hS with
    len := by rw [hN', hl]
    lt := fun i p hp => by
      have hi : i < rs.length := by rw [← hN']; exact (List.getElem?_eq_some_iff.1 hp).1
      rw [hget i _ (List.getElem?_eq_getElem hi)] at hp
      exact hS.lt _ p hp
    cell := fun i g p h1 h2 j c hj => by
      obtain ⟨r, _, k1, k2⟩ := back h1 h2
      obtain ⟨v, hv, hw⟩ := hS.cell r g p k1 k2 j c hj
      exact ⟨v, hc g (List.mem_of_getElem? h1) c (List.mem_of_getElem? hj) _ _ v hv, hw⟩
    ext := fun i g p h1 h2 => by obtain ⟨r, _, k1, k2⟩ := back h1 h2; exact hS.ext r g p k1 k2
    room := fun i g p h1 h2 => by obtain ⟨r, _, k1, k2⟩ := back h1 h2; exact hS.room r g p k1 k2
    disj := fun i i' g g' p p' h1 h2 h3 h4 hown hne => by
      obtain ⟨r, r1, k1, k2⟩ := back h1 h2
      obtain ⟨r', r2, l1, l2⟩ := back h3 h4
      refine hS.disj r r' g g' p p' k1 k2 l1 l2 hown fun e => hne ?_
      subst e
      exact (List.getElem?_inj (List.getElem?_eq_some_iff.1 r1).1 hnd).1 (by rw [r1, r2])
    obj := fun i g p ob h1 h2 h3 => by rw [noob h1] at h3; cases h3
    odisj := fun i i' g g' p p' h1 h2 h3 h4 h5 => by rw [noob h1] at h5; cases h5
    imd := fun i g p h1 h2 => by obtain ⟨r, _, k1, k2⟩ := back h1 h2; exact hS.imd r g p k1 k2
    dd := fun i g p h1 h2 => by obtain ⟨r, _, k1, k2⟩ := back h1 h2; exact hS.dd r g p k1 k2
    foot := fun i g p h1 h2 => by obtain ⟨r, _, k1, k2⟩ := back h1 h2; exact hS.foot r g p k1 k2 }
end Go.Eng

namespace Go.Eng
open Go
inductive STree where
  | nil
  | q (i : Nat) (blk : List Nat) (r : STree)
  | one (i : Nat) (r : STree)
  | two (i j : Nat) (x y : STree)
def only2 (l : List Nat) (i j : Nat) : Bool := match l with
  | [a, b] => (Nat.beq a i && Nat.beq b j) || (Nat.beq a j && Nat.beq b i)
  | _ => false
theorem only2_spec {l : List Nat} {i j : Nat} (h : only2 l i j = true) : l = [i, j] ∨ l = [j, i] := by
  unfold only2 at h
  split at h
  · simp only [Bool.or_eq_true, Bool.and_eq_true] at h
    rcases h with ⟨h1, h2⟩ | ⟨h1, h2⟩
    · exact .inl (by rw [Nat.eq_of_beq_eq_true h1, Nat.eq_of_beq_eq_true h2])
    · exact .inr (by rw [Nat.eq_of_beq_eq_true h1, Nat.eq_of_beq_eq_true h2])
  · cases h
def treeOk (ops : Array Oper) : STree → Nat → Array Bool → Bool
  | .nil, m, L => Nat.beq m 0 && (Region.ready .any ops L).isEmpty
  | .q i blk r, m, L => match m with
    | 0 => false
    | m + 1 => (Region.ready .any ops L).contains i && Region.free .any ops L i && closedB ops i blk && withinB L ops.size blk && treeOk ops r m (L.setIfInBounds i true)
  | .one i r, m, L => match m with
    | 0 => false
    | m + 1 => only (Region.ready .any ops L) i && treeOk ops r m (L.setIfInBounds i true)
  | .two i j x y, m, L => match m with
    | 0 => false
    | m + 1 => only2 (Region.ready .any ops L) i j && treeOk ops x m (L.setIfInBounds i true) && treeOk ops y m (L.setIfInBounds j true)
def prL (pr : Owe → Prop) : List Owe → Prop → Prop
  | [], p => p
  | o :: os, p => pr o ∧ prL pr os p
theorem prL_spec {pr : Owe → Prop} : ∀ {os : List Owe} {p : Prop}, prL pr os p → (∀ q ∈ os, pr q) ∧ p
  | [], _, h => ⟨fun _ h => absurd h List.not_mem_nil, h⟩
  | o :: os, p, ⟨h1, h2⟩ => by
    obtain ⟨h3, h4⟩ := prL_spec h2
    exact ⟨fun q hq => by rcases List.mem_cons.1 hq with rfl | h; exact h1; exact h3 q h, h4⟩
def stepT (pr : Owe → Prop) (td : List (Nat × SV)) (T : Tab) (n : Nat) (all : Array Oper) (K : KW) (i : Nat) (c : St → Prop) (s : St) : Prop :=
  match qP td T n all s.rg i s.fr with
  | some (f, o) => prL pr o (c ⟨f, s.rg⟩)
  | none => match opE T n all i s with
    | some s' => (match stR s.fr all i with | some k => memN (lookK K i) k | none => true) = true ∧ c s'
    | none => match pcall td n all i s.fr with
      | some (f, gk, g, l, v) => pr (.call s.rg gk g l v) ∧ c ⟨f, s.rg⟩
      | none => False
end Go.Eng

namespace Go.Eng
open Go
structure Ef where
  r : List Rg → SV
  sets : List (Nat × Rg)
  news : List Rg
def setsE : List (Nat × Rg) → List Rg → List Rg
  | [], rg => rg
  | (r, g) :: l, rg => setsE l (rg.set r g)
def snoc (rg : List Rg) : List Rg → List Rg
  | [] => rg
  | g :: l => rg ++ (g :: l)
def fsts : List (Nat × Rg) → List Nat
  | [] => []
  | (r, _) :: l => r :: fsts l
def Ef.up (e : Ef) (rg : List Rg) : List Rg := snoc (setsE e.sets rg) e.news
def Ef.ks (e : Ef) : List Nat := fsts e.sets
theorem snoc_eq (rg l : List Rg) : snoc rg l = rg ++ l := by cases l <;> simp [snoc]
theorem setsE_length : ∀ (l : List (Nat × Rg)) (rg : List Rg), (setsE l rg).length = rg.length
  | [], _ => rfl
  | (r, g) :: l, rg => by simp [setsE, setsE_length l]
theorem setsE_get : ∀ (l : List (Nat × Rg)) (rg : List Rg) (r : Nat), memN (fsts l) r = false → (setsE l rg)[r]? = rg[r]?
  | [], _, _, _ => rfl
  | (q, g) :: l, rg, r, h => by
    simp only [fsts, memN, Bool.or_eq_false_iff] at h
    have hne : q ≠ r := fun e => by subst e; simp at h
    rw [setsE, setsE_get l _ r h.2, List.getElem?_set_ne hne]
theorem Ef.keeps (e : Ef) (rg : List Rg) : Agree e.ks rg (e.up rg) ∧ rg.length ≤ (e.up rg).length := by
  constructor
  · intro r g hg hm
    have hl := (List.getElem?_eq_some_iff.1 hg).1
    rw [Ef.up, snoc_eq, List.getElem?_append_left (by rw [setsE_length]; exact hl), setsE_get _ _ _ hm]
    exact hg
  · rw [Ef.up, snoc_eq, List.length_append, setsE_length]; omega
def Effs (P : Program) (ρ : Operand → Value) (o : Oper) (w : World) (K : Value → World → Prop) : Prop :=
  (∃ v w', Yields P ρ o w v w' ∧ K v w') ∨ ∃ g args, (execOp ρ o).run P w = .ok (.enter g args) w ∧ Calls P g args w fun e w' => ∃ v, e = .returned v ∧ K v w'
theorem wp_of_effs {P : Program} {o : Oper} {a : Act} {w : World} {K' : Value → World → Prop} (h : Effs P a.eval o w K') {K : Act → World → Prop} {Q : Exit → Act → World → Prop} (hK : ∀ v w', K' v w' → K (a.put o.dst v) w') : o.wp P a w K Q := by
  rcases h with ⟨v, w', hy, hv⟩ | ⟨g, args, he, hc⟩
  · exact wp_of_yields hy (hK v w' hv)
  · unfold Oper.wp
    rw [he]
    refine Calls.mono hc fun e w' ⟨v, he, hv⟩ => ?_
    subst he
    exact hK v w' hv
def EffOk (E : Env) (N0 : Nums) (rg : List Rg) (f : Fr) (op : Op) (r : SV) (rg' : List Rg) : Prop :=
  ∀ (N : Nums) (ρ : Operand → Value) (o : Oper) (w : World), N0.le N → o.op = op → (∀ x s, ev f x = some s → s.den N = some (ρ x)) → Sat E N rg w →
    Effs E.P ρ o w fun v w' => ∃ N', N.le N' ∧ r.den N' = some v ∧ Sat E N' rg' w'
def lookE : List (Nat × Ef) → Nat → Option Ef
  | [], _ => none
  | (k, v) :: r, t => bif Nat.beq k t then some v else lookE r t
def keyE (o : Oper) (i : Nat) : Nat := match o.dst with
  | some d => d
  | none => 1000 + i
def effQ (tx : List (Nat × Ef)) (n : Nat) (all : Array Oper) (i : Nat) (s : St) : Option (Fr × Op × Ef) :=
  match nth all.toList i with
  | none => none
  | some o => match lookE tx (keyE o i) with
    | some e => bif sure all s.fr o then match putO n s.fr o.dst (.val (e.r s.rg)) with
        | some f => some (f, o.op, e)
        | none => none
      else none
    | none => none
theorem effQ_sound {E : Env} {tx : List (Nat × Ef)} {N N0 : Nums} {s : St} {a : Act} {all : Array Oper} {i : Nat} {o : Oper} {w : World} {f : Fr} {op : Op} {e : Ef} (ho : all[i]? = some o) (hq : effQ tx E.n all i s = some (f, op, e))
    (hob : EffOk E N0 s.rg s.fr op (e.r s.rg) (e.up s.rg)) (hN0 : N0.le N) (hf : FrOk E.n N s.fr a) (hS : Sat E N s.rg w) :
    Region.wanted o (yielded all a.tmps) = true ∧ ∀ (K : Act → World → Prop) (Q : Exit → Act → World → Prop), (∀ N' x w', N.le N' → FrOk E.n N' f (a.put o.dst x) → Sat E N' (e.up s.rg) w' → K (a.put o.dst x) w') → o.wp E.P a w K Q := by
  have ho' : nth all.toList i = some o := by rw [nth_eq]; simpa using ho
  unfold effQ at hq
  simp only [ho'] at hq
  split at hq
  · rename_i e0 _
    obtain ⟨hsu, hq⟩ := bif_none hq
    split at hq
    · rename_i f1 hp
      simp only [Option.some.injEq, Prod.mk.injEq] at hq
      obtain ⟨rfl, rfl, rfl⟩ := hq
      refine ⟨sure_sound hf hsu, fun K Q hK => ?_⟩
      exact wp_of_effs (hob N a.eval o w hN0 rfl (fun x s hx => ev_sound hf hx) hS) fun v w' ⟨N', h1, h2, h3⟩ => hK N' v w' h1 (putO_sound (hf.mono h1) h2 hp) h3
    · cases hq
  · cases hq
abbrev PE := List Rg → Fr → Op → SV → List Rg → Prop
def stepX (pe : PE) (pr : Owe → Prop) (td : List (Nat × SV)) (tx : List (Nat × Ef)) (T : Tab) (n : Nat) (all : Array Oper) (K : KW) (i : Nat) (c : St → Prop) (s : St) : Prop :=
  match effQ tx n all i s with
  | some (f, op, e) => allN (lookK K i) e.ks = true ∧ pe s.rg s.fr op (e.r s.rg) (e.up s.rg) ∧ c ⟨f, e.up s.rg⟩
  | none => stepT pr td T n all K i c s
def anyX (pe : PE) (pr : Owe → Prop) (fin : St → Prop) (td : List (Nat × SV)) (tx : List (Nat × Ef)) (T : Tab) (n : Nat) (all : Array Oper) (K : KW) (rg : List Rg) : STree → St → Prop
  | .nil, s => fin s
  | .q i blk r, s => quietK K i = true ∧ match qP td T n all (maskRg (flatK (memB blk) K) rg 0) i s.fr with
    | some (f, o) => prL pr o (anyX pe pr fin td tx T n all K rg r ⟨f, s.rg⟩)
    | none => False
  | .one i r, s => stepX pe pr td tx T n all K i (fun s' => anyX pe pr fin td tx T n all K rg r s') s
  | .two i j x y, s => stepX pe pr td tx T n all K i (fun s' => anyX pe pr fin td tx T n all K rg x s') s ∧ stepX pe pr td tx T n all K j (fun s' => anyX pe pr fin td tx T n all K rg y s') s
def dry1 (td : List (Nat × SV)) (tx : List (Nat × Ef)) (T : Tab) (n : Nat) (all : Array Oper) (i : Nat) (c : St → KW) (s : St) : KW :=
  match effQ tx n all i s with
  | some (f, _, e) => (i, e.ks) :: c ⟨f, e.up s.rg⟩
  | none => match qP td T n all s.rg i s.fr with
    | some (f, _) => c ⟨f, s.rg⟩
    | none => match opE T n all i s with
      | some s' => match stR s.fr all i with
        | some k => (i, [k]) :: c s'
        | none => c s'
      | none => match pcall td n all i s.fr with
        | some (f, _) => c ⟨f, s.rg⟩
        | none => []
def addK (i : Nat) (ks : List Nat) : KW → KW
  | [] => [(i, ks)]
  | (j, l) :: r => bif Nat.beq j i then (j, app ks l) :: r else (j, l) :: addK i ks r
def mergeK : KW → KW → KW
  | [], K => K
  | (i, ks) :: r, K => mergeK r (addK i ks K)
def dryX (td : List (Nat × SV)) (tx : List (Nat × Ef)) (T : Tab) (n : Nat) (all : Array Oper) : STree → St → KW
  | .nil, _ => []
  | .q i _ r, s => match qP td T n all s.rg i s.fr with
    | some (f, _) => dryX td tx T n all r ⟨f, s.rg⟩
    | none => []
  | .one i r, s => dry1 td tx T n all i (fun s' => dryX td tx T n all r s') s
  | .two i j x y, s => mergeK (dry1 td tx T n all i (fun s' => dryX td tx T n all x s') s) (dry1 td tx T n all j (fun s' => dryX td tx T n all y s') s)
theorem anyX_sound {E : Env} {T : Tab} (hT : TabOk E.P T) {td : List (Nat × SV)} {tx : List (Nat × Ef)} {all : Array Oper} (hsel : Region.noSelect all = true) {Q : Exit → Act → World → Prop} (hQ : PanicOk Q) {N0 : Nums} {K : KW} {rg : List Rg} {fin : St → Prop} {Nf : Nums} (wf : World) (hV : Vis Nf rg wf) : ∀ (t : STree) (m : Nat) (listed : Array Bool) {s : St} {N : Nums} {a : Act} {w : World},
    treeOk all t m listed = true → listed.size = all.size → anyX (EffOk E N0) (Owe.Ok E N0) fin td tx T E.n all K rg t s → Nf.le N → N0.le N → FrOk E.n N s.fr a → Sat E N s.rg w → Agree (wrL K listed) rg s.rg → rg.length ≤ s.rg.length →
    (∀ s' N' a' w', fin s' → N.le N' → FrOk E.n N' s'.fr a' → Sat E N' s'.rg w' → Q .normal a' w') → wpF E.P all Q (fun L => VI E.im Nf (maskRg (wrL K L) rg 0)) m listed a w := by
  have emp : ∀ {l : List Nat}, l.isEmpty = true → l = [] := by intro l h; cases l <;> simp at h ⊢
  have see : ∀ (L : Array Bool) {N : Nums} {rg' : List Rg} {w : World}, Nf.le N → Agree (wrL K L) rg rg' → Sat E N rg' w → VI E.im Nf (maskRg (wrL K L) rg 0) w := fun L _ _ _ hN ha hS => ⟨vis_of_agree (hV.mask _) hN ha hS, hS.imm⟩
  -- one operation that is ready
  have step : ∀ (m : Nat) (listed : Array Bool) (i : Nat) (c : St → Prop) {s : St} {N : Nums} {a : Act} {w : World}, i ∈ Region.ready .any all listed → listed.size = all.size → stepX (EffOk E N0) (Owe.Ok E N0) td tx T E.n all K i c s → Nf.le N → N0.le N → FrOk E.n N s.fr a → Sat E N s.rg w → Agree (wrL K listed) rg s.rg → rg.length ≤ s.rg.length →
      (∀ s' N' a' w', c s' → N.le N' → FrOk E.n N' s'.fr a' → Sat E N' s'.rg w' → Agree (wrL K (listed.setIfInBounds i true)) rg s'.rg → rg.length ≤ s'.rg.length → wpF E.P all Q (fun L => VI E.im Nf (maskRg (wrL K L) rg 0)) m (listed.setIfInBounds i true) a' w') →
      wpOp E.P all Q i (fun a' w' => VI E.im Nf (maskRg (wrL K (listed.setIfInBounds i true)) rg 0) w' ∧ wpF E.P all Q (fun L => VI E.im Nf (maskRg (wrL K L) rg 0)) m (listed.setIfInBounds i true) a' w') a w := by
    intro m listed i c s N a w hrm hn hg hN hN0 hf hS ha hl hk
    have hlt : i < listed.size := by
      obtain ⟨_, o, ho, _⟩ := mem_ready.1 hrm
      rw [hn]; exact (Array.getElem?_eq_some_iff.1 ho).1
    have hset : (listed.setIfInBounds i true).getD i false = true := by simp [hlt]
    have grow : ∀ r, memN (wrL K listed) r = true → memN (wrL K (listed.setIfInBounds i true)) r = true := fun r h => by
      obtain ⟨p, h1, h2, h3⟩ := memN_flat.1 h
      refine memN_flat.2 ⟨p, h1, ?_, h3⟩
      by_cases e : i = p.1
      · rw [← e]; exact hset
      · rw [getD_set_ne false e]; exact h2
    have own : ∀ k, memN (lookK K i) k = true → memN (wrL K (listed.setIfInBounds i true)) k = true := fun k hk => by
      obtain ⟨p, h1, h2, h3⟩ := lookK_mem hk
      exact memN_flat.2 ⟨p, h1, by rw [h2]; exact hset, h3⟩
    have ha1 : Agree (wrL K (listed.setIfInBounds i true)) rg s.rg := ha.mono fun r hr => by
      cases hx : memN (wrL K listed) r with
      | true => rw [grow r hx] at hr; cases hr
      | false => rfl
    obtain ⟨_, o, ho, _⟩ := mem_ready.1 hrm
    unfold stepX at hg
    unfold wpOp
    simp only [ho]
    split at hg
    · rename_i f op e hq
      obtain ⟨hmk, hob, hg⟩ := hg
      obtain ⟨hw, hx⟩ := effQ_sound ho hq hob hN0 hf hS
      obtain ⟨hk1, hk2⟩ := e.keeps s.rg
      have ha2 : Agree (wrL K (listed.setIfInBounds i true)) rg (e.up s.rg) := fun r g hg hr => hk1 r g (ha1 r g hg hr) (allN_spec hmk r (by
        cases hx : memN (lookK K i) r with
        | true => rw [own r hx] at hr; cases hr
        | false => rfl))
      rw [hw, if_pos rfl]
      exact .inl (hx _ _ fun N' x w' hN' hf' hS' => ⟨see _ (hN.trans hN') ha2 hS', hk _ N' _ w' hg hN' hf' hS' ha2 (Nat.le_trans hl hk2)⟩)
    unfold stepT at hg
    split at hg
    · rename_i f ob hq
      obtain ⟨hob, hg⟩ := prL_spec hg
      obtain ⟨v, hv, hfr⟩ := qP_sound hT ho hq hob hN0 hf hS.vi
      have hnext := hk _ N _ w hg (Nums.le.refl N) hfr hS ha1 hl
      rcases hv with ⟨hw, hrun⟩ | ⟨hw, rfl⟩
      · rw [hw, if_pos rfl]
        exact .inl (wp_of_yields (.inl (hrun w hS.vi)) ⟨see _ hN ha1 hS, hnext⟩)
      · rw [hw]
        exact ⟨see _ hN ha1 hS, hnext⟩
    · split at hg
      · rename_i s1 he
        obtain ⟨hmk, hg2⟩ := hg
        obtain ⟨hw, N', x, w', hN', hy, hf', hS'⟩ := opE_sound hT (by simpa using ho) he hf hS
        have ha2 := stepE_agree (ks := wrL K (listed.setIfInBounds i true)) ha1 hl (by
          split
          · rename_i k hk'
            rw [hk'] at hmk
            exact own k hmk
          · rfl) he
        rw [hw, if_pos rfl]
        exact .inl (wp_of_yields hy ⟨see _ (hN.trans hN') ha2.1 hS', hk _ N' _ _ hg2 hN' hf' hS' ha2.1 ha2.2⟩)
      · split at hg
        · rename_i f gk g l v hpc
          obtain ⟨hob, hg⟩ := hg
          rcases pcall_sound ho hpc hob hN0 hf hS with ⟨hw, hx⟩ | ⟨hw, hf'⟩
          · rw [hw, if_pos rfl]
            exact .inl (hx _ _ fun x w' hf' hS' => ⟨see _ hN ha1 hS', hk _ N _ w' hg (Nums.le.refl N) hf' hS' ha1 hl⟩)
          · rw [hw]
            exact ⟨see _ hN ha1 hS, hk _ N _ w hg (Nums.le.refl N) hf' hS ha1 hl⟩
        · exact hg.elim
  intro t
  induction t with
  | nil =>
    intro m listed s N a w hs hn hg hN hN0 hf hS ha hl hk
    simp only [treeOk, Bool.and_eq_true] at hs
    obtain rfl := Nat.eq_of_beq_eq_true hs.1
    exact wpF.done (emp hs.2) (hk s N a w hg (Nums.le.refl N) hf hS)
  | q i blk r ih =>
    intro m listed s N a w hs hn hg hN hN0 hf hS ha hl hk
    cases m with
    | zero => simp [treeOk] at hs
    | succ m =>
      have hS0 := see listed hN ha hS
      simp only [treeOk, Bool.and_eq_true] at hs
      obtain ⟨⟨⟨⟨hr, hfree⟩, hclosed⟩, hwithin⟩, hs⟩ := hs
      simp only [anyX] at hg
      obtain ⟨hqk, hg⟩ := hg
      have hqk := quietK_spec hqk
      have hrm : i ∈ Region.ready .any all listed := by simpa using hr
      have hi0 : listed.getD i false = false := by
        have h1 := (mem_ready.1 hrm).1
        rcases Nat.lt_or_ge i listed.size with h' | h'
        · simp [h'] at h1 ⊢; exact h1
        · rw [Array.getD_eq_getD_getElem?, Array.getElem?_eq_none h']; rfl
      have same : ∀ (L : Array Bool) (r : Nat), memN (wrL K (L.setIfInBounds i true)) r = true ↔ memN (wrL K L) r = true := fun L r => by
        simp only [wrL, memN_flat]
        constructor
        · rintro ⟨p, h1, h2, h3⟩
          exact ⟨p, h1, by rwa [getD_set_ne false (fun e => hqk p h1 e.symm)] at h2, h3⟩
        · rintro ⟨p, h1, h2, h3⟩
          exact ⟨p, h1, by rwa [getD_set_ne false (fun e => hqk p h1 e.symm)], h3⟩
      split at hg
      · rename_i f ob hq
        obtain ⟨_, o, ho, _⟩ := mem_ready.1 hrm
        obtain ⟨hob, hg⟩ := prL_spec hg
        have wide : ∀ {L' : Array Bool} {w' : World}, Up all i listed L' → VI E.im Nf (maskRg (wrL K L') rg 0) w' → VI E.im Nf (maskRg (flatK (memB blk) K) rg 0) w' := fun hup hv =>
          ⟨hv.1.more fun r hr => by
            obtain ⟨p, h1, h2, h3⟩ := memN_flat.1 hr
            exact memN_flat.2 ⟨p, h1, (hup.within hclosed hn hi0 hwithin).2.2 _ h2, h3⟩, hv.2⟩
        obtain ⟨v, hv, hfr⟩ := qP_sound hT ho hq hob hN0 hf ((wide .here hS0).mono hN)
        refine wpF.take (S := fun L => VI E.im Nf (maskRg (wrL K L) rg 0)) ho hsel hfree hr (fun c a w h => hQ c a o.dst v w h) (fun L w => ⟨fun h => ⟨h.1.more fun r hr => (same L r).1 hr, h.2⟩, fun h => ⟨h.1.more fun r hr => (same L r).2 hr, h.2⟩⟩) ?_ hS0
          (ih m _ hs (by simpa using hn) hg hN hN0 hfr hS (fun r g hg hm => ha r g hg (by
            cases hx : memN (wrL K listed) r with
            | true => rw [(same listed r).2 hx] at hm; cases hm
            | false => rfl)) hl hk)
        rcases hv with ⟨hw, hrun⟩ | ⟨hw, rfl⟩
        · exact .inl ⟨hw, fun w ⟨L', hup, hw⟩ => hrun w ((wide hup hw).mono hN)⟩
        · exact .inr ⟨hw, rfl⟩
      · exact hg.elim
  | one i r ih =>
    intro m listed s N a w hs hn hg hN hN0 hf hS ha hl hk
    cases m with
    | zero => simp [treeOk] at hs
    | succ m =>
      simp only [treeOk, Bool.and_eq_true] at hs
      have hr := only_spec hs.1
      refine wpF.all hr (by simp) fun j hj => ?_
      simp only [List.mem_singleton] at hj; subst hj
      refine step m listed j _ (by rw [hr]; simp) hn hg hN hN0 hf hS ha hl fun s' N' a' w' hc hN' hf' hS' ha' hl' => ?_
      exact ih m _ hs.2 (by simpa using hn) hc (hN.trans hN') (hN0.trans hN') hf' hS' ha' hl' fun s2 N2 a2 w2 h1 h2 => hk s2 N2 a2 w2 h1 (hN'.trans h2)
  | two i j x y ihx ihy =>
    intro m listed s N a w hs hn hg hN hN0 hf hS ha hl hk
    cases m with
    | zero => simp [treeOk] at hs
    | succ m =>
      simp only [treeOk, Bool.and_eq_true] at hs
      obtain ⟨⟨h2, hx⟩, hy⟩ := hs
      have hr := only2_spec h2
      have hmi : i ∈ Region.ready .any all listed := by rcases hr with h | h <;> rw [h] <;> simp
      have hmj : j ∈ Region.ready .any all listed := by rcases hr with h | h <;> rw [h] <;> simp
      have si := step m listed i _ hmi hn hg.1 hN hN0 hf hS ha hl fun s' N' a' w' hc hN' hf' hS' ha' hl' => ihx m _ hx (by simpa using hn) hc (hN.trans hN') (hN0.trans hN') hf' hS' ha' hl' fun s2 N2 a2 w2 h1 h2 => hk s2 N2 a2 w2 h1 (hN'.trans h2)
      have sj := step m listed j _ hmj hn hg.2 hN hN0 hf hS ha hl fun s' N' a' w' hc hN' hf' hS' ha' hl' => ihy m _ hy (by simpa using hn) hc (hN.trans hN') (hN0.trans hN') hf' hS' ha' hl' fun s2 N2 a2 w2 h1 h2 => hk s2 N2 a2 w2 h1 (hN'.trans h2)
      rcases hr with h | h
      · exact wpF.all h (by simp) fun q hq => by
          simp only [List.mem_cons, List.not_mem_nil, or_false] at hq
          rcases hq with rfl | rfl
          · exact si
          · exact sj
      · exact wpF.all h (by simp) fun q hq => by
          simp only [List.mem_cons, List.not_mem_nil, or_false] at hq
          rcases hq with rfl | rfl
          · exact sj
          · exact si
def treeS : Sch → STree
  | [] => .nil
  | (i, some blk) :: r => .q i blk (treeS r)
  | (i, none) :: r => .one i (treeS r)
theorem treeS_ok {ops : Array Oper} : ∀ (sch : Sch) (L : Array Bool), schOk ops sch L = true → treeOk ops (treeS sch) sch.length L = true
  | [], L, h => by
    simp only [schOk] at h
    simp only [treeS, treeOk, List.length_nil]
    simp [h]
  | (i, some blk) :: r, L, h => by
    simp only [schOk, Bool.and_eq_true] at h
    simp only [treeS, treeOk, List.length_cons, Bool.and_eq_true]
    exact ⟨h.1, treeS_ok r _ h.2⟩
  | (i, none) :: r, L, h => by
    simp only [schOk, Bool.and_eq_true] at h
    simp only [treeS, treeOk, List.length_cons, Bool.and_eq_true]
    exact ⟨h.1, treeS_ok r _ h.2⟩
def runX (pe : PE) (pr : Owe → Prop) (fin : List It → St → Prop) (td : List (Nat × SV)) (tx : List (Nat × Ef)) (T : Tab) (B : SchT) (n : Nat) (rs : List ResultVar) : Nat → List It → St → Prop
  | 0, t, s => fin t s
  | m + 1, t, s =>
    match t with
    | .ops all (i :: rest) :: k => match effQ tx n all i s with
      | some (f, op, e) => pe s.rg s.fr op (e.r s.rg) (e.up s.rg) ∧ runX pe pr fin td tx T B n rs m (.ops all rest :: k) ⟨f, e.up s.rg⟩
      | none => match qP td T n all s.rg i s.fr with
        | some (f, o) => prL pr o (runX pe pr fin td tx T B n rs m (.ops all rest :: k) ⟨f, s.rg⟩)
        | none => match opE T n all i s with
          | some s' => runX pe pr fin td tx T B n rs m (.ops all rest :: k) s'
          | none => match pcall td n all i s.fr with
            | some (f, gk, g, l, v) => pr (.call s.rg gk g l v) ∧ runX pe pr fin td tx T B n rs m (.ops all rest :: k) ⟨f, s.rg⟩
            | none => fin t s
    | _ => match adv T n rs t s with
      | some (t', s') => runX pe pr fin td tx T B n rs m t' s'
      | none => match t with
        | .code c :: k => match c with
          | .region id ops d => match d with
            | true => match lookS B id with
              | some sch => anyX pe pr (fun s' => runX pe pr fin td tx T B n rs m k s') td tx T n ops (dryX td tx T n ops (treeS sch) s) s.rg (treeS sch) s
              | none => fin t s
            | false => fin t s
          | _ => fin t s
        | _ => fin t s
theorem runX_sound {td : List (Nat × SV)} {tx : List (Nat × Ef)} {T : Tab} {B : SchT} {n : Nat} {rs : List ResultVar} (E : Ctx) (e1 : E.n = n) (e2 : E.B = B) (e3 : TabOk E.P T) (e4 : PanicOk E.Q) : ∀ (m : Nat) (t : List It) (s : St),
    runX (EffOk E.toEnv E.N0) (Owe.Ok E.toEnv E.N0) (fun t s => X E t s) td tx T B n rs m t s → X E t s := by
  subst e1
  subst e2
  intro m
  induction m with
  | zero => intro t s h; exact h
  | succ m ih =>
    intro t s h
    simp only [runX] at h
    split at h
    · rename_i all i rest k
      have there : ∀ {α : Type} {y : α} {f : Oper → Option α}, (match nth all.toList i with | none => none | some o => f o) = some y → ∃ op, all[i]? = some op := fun {α y f} h => by
        split at h
        · cases h
        · rename_i op hop; rw [nth_eq] at hop; exact ⟨op, by simpa using hop⟩
      split at h
      · rename_i f op e hq
        obtain ⟨hob, h⟩ := h
        have hx := ih _ _ h
        intro N a w hN hf hS
        show wpOps _ _ _ _ _ _
        obtain ⟨o, ho⟩ := there hq
        obtain ⟨hw, h2⟩ := effQ_sound (E := E.toEnv) ho hq hob hN hf hS
        rw [wpOps_cons]
        unfold wpOp
        simp only [ho]
        rw [hw, if_pos rfl]
        exact .inl (h2 _ _ fun N' x w' hN' hf' hS' => hx N' _ w' (hN.trans hN') hf' hS')
      · split at h
        · rename_i f o hq
          obtain ⟨hob, h⟩ := prL_spec h
          have hx := ih _ _ h
          intro N a w hN hf hS
          show wpOps _ _ _ _ _ _
          obtain ⟨op, hop⟩ := there hq
          obtain ⟨v, hv, hfr⟩ := qP_sound e3 hop hq hob hN hf hS.vi
          rw [wpOps_cons]
          unfold wpOp
          simp only [hop]
          rcases hv with ⟨hw, hrun⟩ | ⟨hw, rfl⟩
          · rw [hw, if_pos rfl]
            exact .inl (wp_of_yields (.inl (hrun w hS.vi)) (hx N _ w hN hfr hS))
          · rw [hw]
            exact hx N _ w hN hfr hS
        · split at h
          · rename_i s1 he
            exact X.opEq e3 ⟨he⟩ (ih _ _ h)
          · split at h
            · rename_i f gk g l v hpc
              obtain ⟨hob, h⟩ := h
              have hx := ih _ _ h
              intro N a w hN hf hS
              show wpOps _ _ _ _ _ _
              obtain ⟨op, hop⟩ := there hpc
              rw [wpOps_cons]
              unfold wpOp
              simp only [hop]
              rcases pcall_sound hop hpc hob hN hf hS with ⟨hw, hy⟩ | ⟨hw, hf'⟩
              · rw [hw, if_pos rfl]
                exact .inl (hy _ _ fun x w' hf' hS' => hx N _ w' hN hf' hS')
              · rw [hw]
                exact hx N _ w hN hf' hS
            · exact h
    · split at h
      · rename_i t1 s1 ha
        exact adv_sound e3 ha (ih _ _ h)
      · split at h
        · rename_i c k _
          split at h
          · rename_i id ops d _
            split at h
            · split at h
              · rename_i sch hsch
                intro N a w hN hf hS
                show _ → Code.wp _ _ _ _ _
                intro hreg
                simp only [regsB, hsch] at hreg
                have hS' : Sat E.toEnv N s.rg { w with drawn := w.drawn + 1 } := hS.drew
                simp only [anyOk, Bool.and_eq_true] at hreg
                obtain ⟨⟨hn, hlen⟩, hsch'⟩ := hreg
                have hlen := Nat.eq_of_beq_eq_true hlen
                have := anyX_sound (E := E.toEnv) e3 hn (e4.sem _) _ hS'.vis (treeS sch) _ _ (treeS_ok sch _ hsch') (by simp) h (Nums.le.refl N) hN hf hS' (fun r g hg _ => hg) (Nat.le_refl _) (fun s' N' a' w' hx hN' hf' hS' => ih _ _ hx N' a' w' (hN.trans hN') hf' hS')
                rw [hlen] at this
                exact wp_region_any e3.mixed this.any
              · exact h
            · exact h
          · exact h
        · exact h
theorem X.goX {P : Program} {fn : Func} {R : Ending → World → Prop} {W : World} {O : Nat → Nat → Prop} {im : Nat → Nat → Option Value} {D : Nat → Nat → Prop} {Rr : World → Prop} {N : Nums} {B : SchT} {T : Tab} (td : List (Nat × SV)) (tx : List (Nat × Ef)) (hT : TabOk P T) (m n : Nat) (hn : fn.ntmps = n) {t : List It} {s : St} {rs : Array ResultVar} (_hrs : fn.results = rs)
    (h : ∀ (pr : Owe → Prop) (pe : PE) (fin : List It → St → Prop), (∀ q, q.Ok (mkE P fn R W O im D Rr N B).toEnv N → pr q) → (∀ rg f op r rg', EffOk (mkE P fn R W O im D Rr N B).toEnv N rg f op r rg' → pe rg f op r rg') → (∀ t s, X (mkE P fn R W O im D Rr N B) t s → fin t s) → runX pe pr fin td tx T B n rs.toList m t s) : X (mkE P fn R W O im D Rr N B) t s := by
  subst hn
  exact runX_sound (mkE P fn R W O im D Rr N B) rfl rfl hT (fun _ _ d _ _ h => by cases d <;> exact h) m t s (h _ _ _ (fun _ h => h) (fun _ _ _ _ _ h => h) (fun _ _ h => h))
end Go.Eng

namespace Go.Eng
open Go
theorem EffOk.step {E : Env} {N0 : Nums} {T : Tab} (hT : TabOk E.P T) {rg rg' : List Rg} {f : Fr} {op : Op} {r : SV} (h : stepE T rg (ev f) op = some (r, rg')) : EffOk E N0 rg f op r rg' := by
  intro N a o w hN hop hf hS
  subst hop
  obtain ⟨N', x, w', h1, h2, h3, h4⟩ := stepE_sound hT hS hf h
  exact .inl ⟨x, w', h3, N', h1, h2, h4⟩
theorem stepE_append {T : Tab} {rg rg' : List Rg} {f : Fr} {x y : Operand} {ts tx e m : Nat} {ti te : TI} {sx sy r : SV} {new : List SV} (hx : ev f x = some sx) (hy : ev f y = some sy) (hti : lookT T ts = some ti) (hk : ti.kind = .slice e) (hte : lookT T e = some te)
    (hsrc : appSrc T rg te sy tx = some (new, m)) (happ : appV rg te sx new m = some (r, rg')) : stepE T rg (ev f) (.call { callee := .builtin .append, args := #[x, y], argTypes := #[ts, tx] }) = some (r, rg') := by
  simp only [stepE, hx, hy, hti, hk, hte, hsrc, happ]
theorem EffOk.call {E : Env} {N0 : Nums} {rg rg' : List Rg} {f : Fr} {g : Nat} {xs : Array Operand} {ts : Array TypeId} {l : List SV} {r : SV} (hl : evL f xs.toList = some l) (hc : ∀ args w, (callFunc g args).run E.P w = .ok (.enter g args) w)
    (h : ∀ (N : Nums) (w : World) (args : List Value), N0.le N → Sat E N rg w → SV.denL N l = some args → Calls E.P g args.toArray w fun e w' => ∃ v, e = .returned v ∧ ∃ N', N.le N' ∧ r.den N' = some v ∧ Sat E N' rg' w') :
    EffOk E N0 rg f (.call { callee := .value (.func g), args := xs, argTypes := ts }) r rg' := by
  intro N ρ o w hN hop hf hS
  have hargs : SV.denL N l = some (xs.toList.map ρ) := by
    have key : ∀ (ys : List Operand) {l : List SV}, evL f ys = some l → SV.denL N l = some (ys.map ρ) := fun ys => by
      induction ys with
      | nil => intro l h; simp only [evL, Option.some.injEq] at h; subst h; rfl
      | cons y ys ih =>
        intro l h
        simp only [evL] at h
        split at h
        · rename_i v q hv hq
          simp only [Option.some.injEq] at h; subst h
          simp [SV.denL, hf _ _ hv, ih hq]
        · cases h
    exact key _ hl
  refine .inr ⟨g, (xs.toList.map ρ).toArray, ?_, h N w _ hN hS hargs⟩
  have hfn := hf (.func g) _ rfl
  simp only [SV.den, one?, if_true, Option.some.injEq] at hfn
  simp only [execOp, hop, resolve, ← hfn, Deferred.ofValue, Sem.run_bind, Sem.run_pure, Result.andThen, invoke]
  rw [hc]
  congr 2
  apply Array.ext'
  simp
theorem EffOk.fresh {E : Env} {N0 : Nums} {rg : List Rg} {f : Fr} {g n sz : Nat} {xs : Array Operand} {ts : Array TypeId} {l : List SV} {cs : List SV} (hl : evL f xs.toList = some l) (hc : ∀ args w, (callFunc g args).run E.P w = .ok (.enter g args) w)
    (h : ∀ (N : Nums) (w : World) (args : List Value), N0.le N → Sat E N rg w → SV.denL N l = some args → Calls E.P g args.toArray w (FreshRet cs n sz w)) :
    EffOk E N0 rg f (.call { callee := .value (.func g), args := xs, argTypes := ts }) (.osl rg.length 0 n sz none) (rg ++ [⟨true, cs, none⟩]) :=
  EffOk.call hl hc fun N w args hN hS ha => (h N w args hN hS ha).mono fun e w' hf => by
    obtain ⟨p, v, h1, h2, _, h3⟩ := hf.sat hS
    exact ⟨v, h1, _, Nums.le_append _ _, h2, h3⟩
theorem Sat.cells {E : Env} {N : Nums} {rg : List Rg} {w w' : World} {r : Nat} {g : Rg} {p : Num} (h : Sat E N rg w) (hg : rg[r]? = some g) (hp : N[r]? = some p) (ho : g.own = true)
    (hc : Chg (fun k o => k = p.b ∧ p.o ≤ o ∧ o < p.o + p.x) w w') (cs' : List SV) (hl : cs'.length ≤ p.x) (hcs : ∀ (j : Nat) (c : SV), cs'[j]? = some c → ∃ v, c.den N = some v ∧ w'.cell? ⟨p.b, p.o + j, none⟩ = some v) : Sat E N (rg.set r { g with cells := cs' }) w' := by
  have hrl : r < rg.length := (List.getElem?_eq_some_iff.1 hg).1
  have hnd : ∀ k o, (k = p.b ∧ p.o ≤ o ∧ o < p.o + p.x) → ¬ E.D k o := fun k o ⟨e1, e2, e3⟩ hd => by
    subst e1
    have := h.dd r g p hg hp ho (o - p.o) (by omega)
    rw [show p.o + (o - p.o) = o by omega] at this
    exact this hd
  have keepD : ∀ k o, E.D k o → (w'.cell? ⟨k, o, none⟩ = w.cell? ⟨k, o, none⟩ ∧ w'.frozen? ⟨k, o, none⟩ = w.frozen? ⟨k, o, none⟩) ∧ objAt w' k = objAt w k := fun k o hd => by
    have hlt := (h.dlt k o hd).lt
    obtain ⟨x, hx⟩ : ∃ x, w.heap[k]? = some x := ⟨_, Array.getElem?_eq_getElem hlt⟩
    cases x with
    | cells c e f =>
      obtain ⟨c', h1, h2, h3⟩ := hc.cells k c e f hx
      have h4 := h3 o (fun e => hnd k o e hd)
      refine ⟨⟨by simp [World.cell?, hx, h1, h4], by simp [World.frozen?, hx, h1]⟩, by simp [objAt, hx, h1]⟩
    | _ =>
      have hne : ∀ o', ¬ (k = p.b ∧ p.o ≤ o' ∧ o' < p.o + p.x) := fun o' ⟨e1, e2, e3⟩ => by
        have := (h.room r g p hg hp ho (o' - p.o) (by omega)).1
        rw [← e1] at this
        simp [World.cell?, hx] at this
      have e := hc.same k hlt hne
      exact ⟨⟨by unfold World.cell?; simp only [e], by unfold World.frozen?; simp only [e]⟩, objAt_same e⟩
  refine h.after (m' := E.im) (D' := E.D) (R' := E.R) hc (fun k o _ ⟨e1, e2, e3⟩ => .inl ⟨r, g, p, hg, hp, ho, e1, e2, e3⟩) ⟨fun _ _ _ h => h, fun k o v hv => ?_, fun _ _ _ h => .inl h⟩
    (fun k o hd => ⟨.inl hd, (h.dlt k o hd).of (fun hs => by rw [(keepD k o hd).1.1]; exact hs) (keepD k o hd).2⟩) h.loc (h.loc w w' keepD hc.size h.res) (by simp) (fun q x x' pq hq1 hq2 hpq => ?_)
  · refine cell_of_chg hc (fun ⟨e1, e2, e3⟩ => ?_) (h.imm k o v hv)
    have := h.imd r g p hg hp ho (o - p.o) (by omega)
    rw [show p.o + (o - p.o) = o by omega, ← e1, hv] at this
    cases this
  · rcases get_set hrl hq2 with ⟨rfl, rfl⟩ | ⟨hi, hq2⟩
    · rw [hg] at hq1; cases hq1
      rw [hp] at hpq; cases hpq
      exact ⟨rfl, rfl, fun e => (by rw [ho] at e; cases e), fun _ => hl, .inr hcs⟩
    · rw [hq1] at hq2; cases hq2
      refine ⟨rfl, rfl, fun _ => rfl, fun e => h.ext q x pq hq1 hpq e, .inl ⟨rfl, fun j hj ⟨e1, e2, e3⟩ => ?_⟩⟩
      have hw : j < x.wid pq := by
        unfold Rg.wid
        cases hxo : x.own with
        | true => have := h.ext q x pq hq1 hpq hxo; simp; omega
        | false => simpa using hj
      rcases h.disj r q g x p pq hg hp hq1 hpq ho (fun e => hi e.symm) j hw e1 with h1 | h1 <;> omega
def TurnRet (b y K : Nat) (cs : List SV) (n sz : Nat) (w : World) (e : Ending) (w' : World) : Prop :=
  ∃ b' y' x' : Nat, e = .returned (.slice (some ⟨b', y', none⟩) n (x' / sz)) ∧ ((b' = b ∧ y' = y ∧ x' = K) ∨ w.heap.size ≤ b') ∧ cs.length ≤ x' ∧ 0 < x' ∧ (∀ (j : Nat) (c : SV), cs[j]? = some c → ∃ v, c.den [] = some v ∧ w'.cell? ⟨b', y' + j, none⟩ = some v) ∧
    (∀ j, j < x' → (w'.cell? ⟨b', y' + j, none⟩).isSome = true ∧ w'.frozen? ⟨b', y' + j, none⟩ = false) ∧ Chg (fun k o => k = b ∧ y ≤ o ∧ o < y + K) w w'
theorem TurnRet.sat {E : Env} {N : Nums} {rg : List Rg} {w w' : World} {r : Nat} {g : Rg} {p : Num} {cs : List SV} {n sz : Nat} {e : Ending} (h : Sat E N rg w) (hg : rg[r]? = some g) (hp : N[r]? = some p) (ho : g.own = true) (hob : g.ob = none) (hf : TurnRet p.b p.o p.x cs n sz w e w') :
    ∃ v N', e = .returned v ∧ N.le N' ∧ (SV.osl rg.length 0 n sz none).den N' = some v ∧ Sat E N' (rg.set r ⟨false, [], none⟩ ++ [⟨true, cs, none⟩]) w' := by
  obtain ⟨b', y', x', he, hcase, h1, h2, h3, h4, hc⟩ := hf
  have hrl : r < rg.length := (List.getElem?_eq_some_iff.1 hg).1
  have hget : ∀ q : Num, (N ++ [q])[rg.length]? = some q := fun q => by rw [← h.len]; simp
  rcases hcase with ⟨rfl, rfl, rfl⟩ | hnew
  · have hs := h.cells hg hp ho hc cs h1 (fun j c hj => by
      obtain ⟨v, k1, k2⟩ := h3 j c hj
      exact ⟨v, SV.den_mono (N := []) (N' := N) (fun r p h => by simp at h) c k1, k2⟩)
    have hs2 := hs.cut (c := 0) (n := cs.length) (g := { g with cells := cs }) (by rw [List.getElem?_set_self hrl]) hp ho (by simp)
    simp only [List.drop_zero, List.take_length, List.set_set, Nat.add_zero, Nat.sub_zero] at hs2
    exact ⟨_, _, he, Nums.le_append _ _, by simp only [SV.den, hget, Num.cap]; simp, hs2⟩
  · have hs := (h.cells hg hp ho hc [] (Nat.zero_le _) (fun j c hj => by simp at hj)).retire (r := r) (by simpa using hrl)
    rw [List.set_set] at hs
    refine ⟨_, _, he, Nums.le_append _ [⟨b', y', x'⟩], by simp only [SV.den, hget, Num.cap]; simp, ?_⟩
    refine hs.addFresh (s0 := w.heap.size) (fun r p hp => h.lt r p hp) hnew h.chg.size ?_ h1 (fun j c hj => ?_) h4 (fun i => ?_) (fun i hd => ?_)
    · obtain ⟨v, hv⟩ := Option.isSome_iff_exists.1 (h4 0 h2).1
      exact World.block_lt_of_cell? _ _ hv
    · obtain ⟨v, k1, k2⟩ := h3 j c hj
      exact ⟨v, SV.den_mono (N := []) (N' := N) (fun r p h => by simp at h) c k1, k2⟩
    · cases hi : E.im b' i with
      | none => rfl
      | some v => have := World.block_lt_of_cell? _ _ (h.imm _ _ _ hi); simp at this; omega
    · have := (h.dlt _ _ hd).lt
      omega
theorem EffOk.turn {E : Env} {N0 : Nums} {rg : List Rg} {f : Fr} {g n sz r : Nat} {xs : Array Operand} {ts : Array TypeId} {l : List SV} {cs : List SV} {gg : Rg} (hl : evL f xs.toList = some l) (hc : ∀ args w, (callFunc g args).run E.P w = .ok (.enter g args) w) (hg : rg[r]? = some gg) (ho : gg.own = true) (hob : gg.ob = none)
    (h : ∀ (N : Nums) (w : World) (args : List Value) (p : Num), N0.le N → Sat E N rg w → SV.denL N l = some args → N[r]? = some p → Calls E.P g args.toArray w (TurnRet p.b p.o p.x cs n sz w)) :
    EffOk E N0 rg f (.call { callee := .value (.func g), args := xs, argTypes := ts }) (.osl rg.length 0 n sz none) (rg.set r ⟨false, [], none⟩ ++ [⟨true, cs, none⟩]) :=
  EffOk.call hl hc fun N w args hN hS ha => by
    obtain ⟨p, hp⟩ : ∃ p, N[r]? = some p := ⟨_, List.getElem?_eq_getElem (by have := (List.getElem?_eq_some_iff.1 hg).1; rw [hS.len]; exact this)⟩
    refine (h N w args p hN hS ha hp).mono fun e w' hf => ?_
    obtain ⟨v, N', h1, h2, h3, h4⟩ := hf.sat hS hg hp ho hob
    exact ⟨v, h1, N', h2, h3, h4⟩
theorem EffOk.val {E : Env} {N0 : Nums} {rg : List Rg} {f : Fr} {op : Op} {r : SV} (h : ∀ (N : Nums) (ρ : Operand → Value) (o : Oper) (w : World), N0.le N → o.op = op → (∀ x s, ev f x = some s → s.den N = some (ρ x)) → Sat E N rg w → ∃ v, r.den N = some v ∧ (execOp ρ o).run E.P w = .ok (.value v) w) : EffOk E N0 rg f op r rg :=
  fun N ρ o w hN hop hf hS => by
    obtain ⟨v, h1, h2⟩ := h N ρ o w hN hop hf hS
    exact .inl ⟨v, w, .inl h2, N, Nums.le.refl N, h1, hS⟩
theorem EffOk.write {E : Env} {N0 : Nums} {rg : List Rg} {f : Fr} {op : Op} {rv : SV} {r : Nat} {g : Rg} {cs' : List SV} (hg : rg[r]? = some g) (ho : g.own = true)
    (h : ∀ (N : Nums) (ρ : Operand → Value) (o : Oper) (w : World) (p : Num), N0.le N → o.op = op → (∀ x s, ev f x = some s → s.den N = some (ρ x)) → Sat E N rg w → N[r]? = some p → ∃ v w', rv.den N = some v ∧ Yields E.P ρ o w v w' ∧ Chg (fun k o => k = p.b ∧ p.o ≤ o ∧ o < p.o + p.x) w w' ∧ cs'.length ≤ p.x ∧
      ∀ (j : Nat) (c : SV), cs'[j]? = some c → ∃ v, c.den N = some v ∧ w'.cell? ⟨p.b, p.o + j, none⟩ = some v) : EffOk E N0 rg f op rv (rg.set r { g with cells := cs' }) :=
  fun N ρ o w hN hop hf hS => by
    obtain ⟨p, hp⟩ : ∃ p, N[r]? = some p := ⟨_, List.getElem?_eq_getElem (by have := (List.getElem?_eq_some_iff.1 hg).1; rw [hS.len]; exact this)⟩
    obtain ⟨v, w', h1, h2, h3, h4, h5⟩ := h N ρ o w p hN hop hf hS hp
    exact .inl ⟨v, w', h2, N, Nums.le.refl N, h1, hS.cells hg hp ho h3 cs' h4 h5⟩
end Go.Eng

namespace Go.Eng
open Go
def Bnd (f : Fr) (g : GK) (o : Option Operand) (z : Option Nat) : Prop := match o, z with
  | none, none => True
  | some p, some n => ∃ kd s, evK f g p = some (.int kd s) ∧ (g.T → s.den = (n : Int))
  | _, _ => False
theorem Bnd.run {N : Nums} {f : Fr} {g : GK} {o : Option Operand} {z : Option Nat} {ρ : Operand → Value} (h : Bnd f g o z) (ht : g.T) (hρ : ∀ x s, evK f g x = some s → s.den N = some (ρ x)) : (o = none ∧ z = none) ∨ ∃ k n, o.map ρ = some (.int k (n : Nat)) ∧ z = some n := by
  cases o with
  | none => cases z with
    | none => exact .inl ⟨rfl, rfl⟩
    | some n => exact h.elim
  | some p => cases z with
    | none => exact h.elim
    | some n =>
      obtain ⟨kd, s, h1, h2⟩ := h
      have := hρ _ _ h1
      simp only [SV.den, h2 ht, Option.some.injEq] at this
      exact .inr ⟨kd, n, by simp [← this], rfl⟩
theorem vk_bin {E : Env} {N0 : Nums} {rg : List Rg} {f : Fr} {g : GK} {op : BinOp} {t ty : TypeId} {x y : Operand} {kd : IntKind} {s1 s2 : SI} {r r0 : SV} (hx : evK f g x = some (.int kd s1)) (hy : evK f g y = some (.int kd s2)) (h : intOp op kd (.v s1.den) (.v s2.den) = some r0) (hd : g.T → ∀ N v, r0.den N = some v → r.den N = some v) : ValOk E N0 rg f g (.binOp op t x y ty) r := by
  intro ht N ρ o w hN0 hop hρ hV
  have h1 := hρ _ _ hx
  have h2 := hρ _ _ hy
  simp only [SV.den, Option.some.injEq] at h1 h2
  obtain ⟨v, hv, _⟩ := intOp_sound (P := E.P) (w := w) (N := N) h t
  refine ⟨v, hd ht N v hv, fun w' _ => ?_⟩
  obtain ⟨v', hv', hrun⟩ := intOp_sound (P := E.P) (w := w') (N := N) h t
  rw [hv] at hv'; cases hv'
  simp only [SI.den] at hrun
  have h3 : (do eqGuard op t x y (ρ x) (ρ y); binOp op t (ρ x) (ρ y) : Sem Value).run E.P w' = .ok v w' := by
    rw [← h1, ← h2]
    simp only [Sem.run_bind]
    rw [eqGuard_none _ _ _ _ (by simp) (by simp)]
    simp [Result.andThen, hrun]
  simp only [execOp, hop]
  rw [Sem.run_bind, h3]
  rfl
theorem putAt_eq {α : Type} : ∀ (l : List α) (c : Nat) (s : α), c ≤ l.length → putAt l c s = l.take c ++ s :: l.drop (c + 1)
  | [], c, s, h => by
    obtain rfl : c = 0 := by simpa using h
    rfl
  | a :: l, 0, s, _ => rfl
  | a :: l, c + 1, s, h => by simp [putAt, putAt_eq l c s (by simpa using h)]
theorem setRow_eq : ∀ (r l : List SV) (c : Nat), c ≤ l.length → setRow l c r = l.take c ++ r ++ l.drop (c + r.length)
  | [], l, c, _ => by simp [setRow]
  | s :: r, l, c, h => by
    have h2 : (l.take c ++ [s]).length = c + 1 := by simp; omega
    have e : putAt l c s = (l.take c ++ [s]) ++ l.drop (c + 1) := by rw [putAt_eq l c s h]; simp
    rw [setRow, setRow_eq r _ (c + 1) (by rw [e, List.length_append, h2]; omega), e, List.take_append_of_le_length (by omega), List.take_of_length_le (by omega), List.drop_append, h2, List.drop_of_length_le (by omega), List.nil_append, List.drop_drop]
    simp only [List.length_cons, List.append_assoc, List.cons_append, List.nil_append]
    congr 4
    omega
theorem rep_len (z : List SV) : ∀ n, (rep n z).length = n * z.length
  | 0 => by simp [rep]
  | n + 1 => by simp [rep, rep_len z n, Nat.add_mul]; omega
end Go.Eng

namespace Go.Eng
open Go
theorem EffOk.clear {E : Env} {N0 : Nums} {T : Tab} (hT : TabOk E.P T) {rg : List Rg} {f : Fr} {x : Operand} {ts e r c n : Nat} {ti te : TI} {k : Option Nat} {g : Rg} {cs' : List SV} (hx : ev f x = some (.osl r c n te.size k)) (hti : lookT T ts = some ti) (hk : ti.kind = .slice e) (hte : lookT T e = some te) (hz : te.zero.length = te.size) (hz0 : 0 < te.size)
    (hg : rg[r]? = some g) (ho : g.own = true) (hn : n ≠ 0) (hc : c ≤ g.cells.length) (h1 : (rep n te.zero).all SV.one = true) (hp : ∀ (N : Nums) (p : Num), N0.le N → N[r]? = some p → g.cells.length ≤ p.x → c + n * te.size ≤ p.x) (hcs : cs' = setRow g.cells c (rep n te.zero)) :
    EffOk E N0 rg f (.call { callee := .builtin .clear, args := #[x], argTypes := #[ts] }) (.tup []) (rg.set r { g with cells := cs' }) := by
  intro N ρ o w hN hop hf h
  have ok := (hT.ok ts ti hti).kind
  rw [hk] at ok
  have ok' : E.P.underlying ts = some (.slice e) := ok
  have oke := hT.ok e te hte
  obtain ⟨z, hzr, hzd⟩ := oke.zero
  have hzd' : SV.denL N te.zero = some z.cells.toList := SV.denL_mono (N := []) (N' := N) (fun r p h => by simp at h) _ hzd
  have z2 : z.cells.size = te.size := by
    have := (SV.denL_get _ hzd').1
    simp at this; omega
  have hd := hf _ _ hx
  obtain ⟨p, hpn⟩ : ∃ p, N[r]? = some p := ⟨_, List.getElem?_eq_getElem (by rw [h.len]; exact (List.getElem?_eq_some_iff.1 hg).1)⟩
  have hext := h.ext r g p hg hpn ho
  have hpx := hp N p hN hpn hext
  simp only [SV.den, hpn, Option.some.injEq] at hd
  have hden := denL_rep hzd' n
  obtain ⟨w', hst, hsat⟩ := Sat.store hpn c (rep n te.zero) (repV n z.cells.toList) 0 h hg ho (by omega) (by rw [rep_len, hz]; omega) hden (one_cells h1 hden)
  have hrun : (Builtin.clear_ #[ts] o.type #[ρ x]).run E.P w = .ok (.tuple #[]) w' := by
    rw [← hd]
    simp only [Builtin.clear_, List.getElem?_toArray, List.getElem?_cons_zero, Sem.run_bind, run_underlying ok', Result.andThen]
    cases n with
    | zero => exact absurd rfl hn
    | succ n =>
      simp only [Sem.run_bind, hzr, Result.andThen, Builtin.zeroCells]
      rw [zeros_eq (by omega), hst]
      rfl
  subst hcs
  refine .inl ⟨_, w', .inl ?_, N, Nums.le.refl N, by simp only [SV.den, SV.denL]; rfl, by simpa using hsat⟩
  simp [execOp, hop, resolve, invoke, builtin, hrun]
end Go.Eng

namespace Go.Eng
open Go
theorem Sat.perm {E : Env} {N N' : Nums} {rg rg' : List Rg} {w : World} (h : Sat E N rg w) (hl : N'.length = rg'.length) (σ : Nat → Nat) (hσ : ∀ i j, σ i = σ j → i = j)
    (hm : ∀ (i : Nat) (x : Rg) (p : Num), rg'[i]? = some x → N'[i]? = some p → ∃ x0, rg[σ i]? = some x0 ∧ N[σ i]? = some p ∧ x.own = x0.own ∧ x.cells.length = x0.cells.length ∧ x.ob = none ∧ ∀ (j : Nat) (c : SV), x.cells[j]? = some c → ∃ c0, x0.cells[j]? = some c0 ∧ ∀ v, c0.den N = some v → c.den N' = some v) : Sat E N' rg' w := by
  refine { h with len := hl, lt := ?_, cell := ?_, ext := ?_, room := ?_, disj := ?_, obj := ?_, odisj := ?_, imd := ?_, dd := ?_, foot := ?_ }
  · intro i p hp
    obtain ⟨x, hx⟩ : ∃ x, rg'[i]? = some x := ⟨_, List.getElem?_eq_getElem (by have := (List.getElem?_eq_some_iff.1 hp).1; omega)⟩
    obtain ⟨x0, h1, h2, _⟩ := hm i x p hx hp
    exact h.lt _ _ h2
  · intro i x p hx hp j c hj
    obtain ⟨x0, h1, h2, _, _, _, h6⟩ := hm i x p hx hp
    obtain ⟨c0, h7, h8⟩ := h6 j c hj
    obtain ⟨v, h9, h10⟩ := h.cell _ _ _ h1 h2 j c0 h7
    exact ⟨v, h8 v h9, h10⟩
  · intro i x p hx hp ho
    obtain ⟨x0, h1, h2, h3, h4, _, _⟩ := hm i x p hx hp
    rw [h4]; exact h.ext _ _ _ h1 h2 (by rw [← h3]; exact ho)
  · intro i x p hx hp ho
    obtain ⟨x0, h1, h2, h3, h4, _, _⟩ := hm i x p hx hp
    exact h.room _ _ _ h1 h2 (by rw [← h3]; exact ho)
  · intro i i' x x' p p' hx hp hx' hp' ho hne j hj hb
    obtain ⟨x0, h1, h2, h3, h4, _, _⟩ := hm i x p hx hp
    obtain ⟨x1, k1, k2, k3, k4, _, _⟩ := hm i' x' p' hx' hp'
    exact h.disj _ _ _ _ _ _ h1 h2 k1 k2 (by rw [← h3]; exact ho) (fun e => hne (hσ _ _ e)) j (by unfold Rg.wid at hj ⊢; rw [← k3, ← k4]; exact hj) hb
  · intro i x p ob hx hp ho
    obtain ⟨x0, h1, h2, h3, h4, h5, _⟩ := hm i x p hx hp
    rw [h5] at ho; cases ho
  · intro i i' x x' p p' hx hp hx' hp' ho _ _
    obtain ⟨x0, h1, h2, h3, h4, h5, _⟩ := hm i x p hx hp
    rw [h5] at ho; cases ho
  · intro i x p hx hp ho
    obtain ⟨x0, h1, h2, h3, h4, _, _⟩ := hm i x p hx hp
    exact h.imd _ _ _ h1 h2 (by rw [← h3]; exact ho)
  · intro i x p hx hp ho
    obtain ⟨x0, h1, h2, h3, h4, _, _⟩ := hm i x p hx hp
    exact h.dd _ _ _ h1 h2 (by rw [← h3]; exact ho)
  · intro i x p hx hp ho
    obtain ⟨x0, h1, h2, h3, h4, _, _⟩ := hm i x p hx hp
    exact h.foot _ _ _ h1 h2 (by rw [← h3]; exact ho)
def CellsTo (N N' : Nums) : List SV → List SV → Prop
  | [], [] => True
  | c0 :: cs0, c :: cs => (∀ v, c0.den N = some v → c.den N' = some v) ∧ CellsTo N N' cs0 cs
  | _, _ => False
theorem CellsTo.get {N N' : Nums} : ∀ {cs0 cs : List SV}, CellsTo N N' cs0 cs → cs.length = cs0.length ∧ ∀ (j : Nat) (c : SV), cs[j]? = some c → ∃ c0, cs0[j]? = some c0 ∧ ∀ v, c0.den N = some v → c.den N' = some v
  | [], [], _ => ⟨rfl, fun j c h => by simp at h⟩
  | c0 :: cs0, c :: cs, ⟨h1, h2⟩ => by
    obtain ⟨k1, k2⟩ := CellsTo.get h2
    refine ⟨by simp [k1], fun j d hd => ?_⟩
    cases j with
    | zero => simp at hd; subst hd; exact ⟨c0, rfl, h1⟩
    | succ j => exact k2 j d (by simpa using hd)
theorem CellsTo.same {N N' : Nums} : ∀ {cs : List SV}, (∀ c ∈ cs, ∀ v, c.den N = some v → c.den N' = some v) → CellsTo N N' cs cs
  | [], _ => trivial
  | c :: cs, h => ⟨h c (by simp), CellsTo.same fun c hc => h c (by simp [hc])⟩
end Go.Eng

namespace Go.Eng
open Go
end Go.Eng

namespace Go.Eng
open Go
theorem flatten_get {α : Type} {K : Nat} (hK : 0 < K) : ∀ {vss : List (List α)}, (∀ v ∈ vss, v.length = K) → ∀ (j : Nat), vss.flatten[j]? = (vss[j / K]?).bind fun vs => vs[j % K]?
  | [], _, j => by simp
  | a :: l, h, j => by
    have ha : a.length = K := h a List.mem_cons_self
    have ih := flatten_get hK (vss := l) fun v hv => h v (List.mem_cons_of_mem _ hv)
    rw [List.flatten_cons]
    by_cases hj : j < K
    · rw [List.getElem?_append_left (by omega), Nat.div_eq_of_lt hj, Nat.mod_eq_of_lt hj]
      rfl
    · obtain ⟨m, rfl⟩ : ∃ m, j = m + K := ⟨j - K, by omega⟩
      rw [List.getElem?_append_right (by omega), ha, Nat.add_sub_cancel, ih m, Nat.add_div_right _ hK, Nat.add_mod_right]
      rfl
theorem flatten_len {α : Type} {K : Nat} : ∀ {vss : List (List α)}, (∀ v ∈ vss, v.length = K) → vss.flatten.length = vss.length * K
  | [], _ => by simp
  | a :: l, h => by
    rw [List.flatten_cons, List.length_append, flatten_len fun v hv => h v (List.mem_cons_of_mem _ hv), h a List.mem_cons_self, List.length_cons, Nat.add_mul]
    omega
theorem SlR.rows {α : Type} {f : α → List Dt} {l : List α} {M : Mem} {p : Option Addr} {c K : Nat} (hs : SlR M p c K (l.map f)) (hK : ∀ x : α, ∀ vs, RepL M (f x) vs → vs.length = K) :
    ∃ vss : List (List Value), vss.length = l.length ∧ (∀ v ∈ vss, v.length = K) ∧ (∀ (i : Nat) (x : α), l[i]? = some x → ∃ vs, vss[i]? = some vs ∧ RepL M (f x) vs) ∧
      (0 < l.length → ∃ b y, p = some ⟨b, y, none⟩ ∧ ∀ (i : Nat) (vs : List Value), vss[i]? = some vs → ∀ (j : Nat) (v : Value), vs[j]? = some v → M b (y + i * K + j) = some v) := by
  obtain ⟨_, h | ⟨b, y, hp, h⟩⟩ := hs
  · have hl : l = [] := List.map_eq_nil_iff.1 h
    subst hl
    exact ⟨[], rfl, fun v hv => by simp at hv, fun i x hx => by simp at hx, fun h => absurd h (Nat.lt_irrefl 0)⟩
  · have hch : ∀ i : Nat, ∃ vs : List Value, ∀ x, l[i]? = some x → RepL M (f x) vs ∧ ∀ (j : Nat) (v : Value), vs[j]? = some v → M b (y + i * K + j) = some v := fun i => by
      cases hx : l[i]? with
      | none => exact ⟨[], fun x e => by cases e⟩
      | some x =>
        obtain ⟨vs, h1, h2⟩ := h i (f x) (by rw [List.getElem?_map, hx]; rfl)
        exact ⟨vs, fun x' e => by cases e; exact ⟨h1, h2⟩⟩
    obtain ⟨g, hg⟩ := Classical.axiomOfChoice hch
    have hget : ∀ i x, l[i]? = some x → ((List.range l.length).map g)[i]? = some (g i) := fun i x hx => by
      have := (List.getElem?_eq_some_iff.1 hx).1
      simp [this]
    refine ⟨(List.range l.length).map g, by simp, fun v hv => ?_, fun i x hx => ⟨g i, hget i x hx, (hg i x hx).1⟩, fun _ => ⟨b, y, hp, fun i vs hi j v hj => ?_⟩⟩
    · obtain ⟨i, hi, rfl⟩ := List.mem_map.1 hv
      have hi : i < l.length := List.mem_range.1 hi
      exact hK l[i] _ (hg i l[i] (List.getElem?_eq_getElem hi)).1
    · have hil : i < l.length := by
        have := (List.getElem?_eq_some_iff.1 hi).1
        simpa using this
      have e := hget i l[i] (List.getElem?_eq_getElem hil)
      rw [e] at hi
      cases hi
      exact (hg i l[i] (List.getElem?_eq_getElem hil)).2 j v hj
theorem SlR.of {α : Type} {f : α → List Dt} {l : List α} {M : Mem} {p : Option Addr} {c K : Nat} {vss : List (List Value)} (hc : l.length ≤ c) (hm : l.length ≤ maxLen) (hl : vss.length = l.length) (hr : ∀ (i : Nat) (x : α), l[i]? = some x → ∃ vs, vss[i]? = some vs ∧ RepL M (f x) vs)
    (hM : 0 < l.length → ∃ b y, p = some ⟨b, y, none⟩ ∧ ∀ (i : Nat) (vs : List Value), vss[i]? = some vs → ∀ (j : Nat) (v : Value), vs[j]? = some v → M b (y + i * K + j) = some v) : SlR M p c K (l.map f) := by
  refine ⟨⟨by simpa using hc, by simpa using hm⟩, ?_⟩
  by_cases h0 : l = []
  · exact .inl (by simp [h0])
  · obtain ⟨b, y, hp, h⟩ := hM (List.length_pos_iff.2 h0)
    refine .inr ⟨b, y, hp, fun i d hd => ?_⟩
    rw [List.getElem?_map, Option.map_eq_some_iff] at hd
    obtain ⟨x, hx, rfl⟩ := hd
    obtain ⟨vs, h1, h2⟩ := hr i x hx
    exact ⟨vs, h2, h i vs h1⟩
end Go.Eng
namespace Go.Eng
open Go
theorem stepE_store {T : Tab} {rg : List Rg} {f : Fr} {t : TypeId} {x y : Operand} {r c : Nat} {v : SV} {ti : TI} {g : Rg} (hx : ev f x = some (.own r c)) (hy : ev f y = some v) (ht : lookT T t = some ti) (hg : nth rg r = some g) (hown : g.own = true) (hl : Nat.beq v.cells.length ti.size = true) (hle : c + ti.size ≤ g.cells.length) (h1 : v.cells.all SV.one = true) :
    stepE T rg (ev f) (.store t x y) = some (.tup [], rg.set r { g with cells := setRow g.cells c v.cells }) := by
  have hble : Nat.ble (c + ti.size) g.cells.length = true := Nat.ble_eq_true_of_le hle
  simp only [stepE, hx, hy, ht, hg, hown, hl, hble, h1, Bool.and_self, cond_true]
theorem ValOk.conv {E : Env} {N0 : Nums} {rg : List Rg} {f : Fr} {g : GK} {op : Op} {r r' : SV} (h : ValOk E N0 rg f g op r) (hr : ∀ N v, r.den N = some v → r'.den N = some v) : ValOk E N0 rg f g op r' := fun ht N ρ o w h1 h2 h3 h4 => by
  obtain ⟨v, k1, k2⟩ := h ht N ρ o w h1 h2 h3 h4
  exact ⟨v, hr N v k1, k2⟩
theorem ValOk.convN {E : Env} {N0 : Nums} {rg : List Rg} {f : Fr} {g : GK} {op : Op} {r r' : SV} (h : ValOk E N0 rg f g op r) (hr : ∀ N, N0.le N → ∀ v, r.den N = some v → r'.den N = some v) : ValOk E N0 rg f g op r' := fun ht N ρ o w h1 h2 h3 h4 => by
  obtain ⟨v, k1, k2⟩ := h ht N ρ o w h1 h2 h3 h4
  exact ⟨v, hr N h1 v k1, k2⟩
theorem X.noNames {P : Program} {fn : Func} {Q : Ending → World → Prop} {W : World} {O D : Nat → Nat → Prop} {Rr : World → Prop} {im : Mem} {B : SchT} {N0 : Nums} {k : List It} {s : St} (h : X (mkE P fn Q W O im D Rr [] B) k s) : X (mkE P fn Q W O im D Rr N0 B) k s :=
  X.conv fun N a w hN hf hS => ⟨mkE P fn Q W O im D Rr [] B, s, rfl, rfl, rfl, rfl, ⟨N, nil_le N, hf, hS.env rfl rfl rfl rfl rfl⟩, h⟩
theorem vk_load1 {E : Env} {N0 : Nums} {rg : List Rg} {f : Fr} {g : GK} {t : TypeId} {x : Operand} {r c : Nat} {gg : Rg} {rs : SV} (hx : evK f g x = some (.own r c)) (ha : ∀ w, (isAgg t).run E.P w = .ok false w) (hr : rg[r]? = some gg) (hc : gg.cells[c]? = some rs) : ValOk E N0 rg f g (.load t x) rs := by
  intro _ N ρ o w hN0 hop hρ hV
  have h1 := hρ _ _ hx
  obtain ⟨p, hp⟩ : ∃ p, N[r]? = some p := ⟨_, List.getElem?_eq_getElem (Nat.lt_of_lt_of_le (List.getElem?_eq_some_iff.1 hr).1 hV.1.len)⟩
  simp only [SV.den, hp, Option.some.injEq] at h1
  obtain ⟨v, hv, _⟩ := hV.1.cell r gg p hr hp c rs hc
  refine ⟨v, hv, fun w' hV' => ?_⟩
  obtain ⟨v', hv', hc'⟩ := hV'.1.cell r gg p hr hp c rs hc
  rw [hv] at hv'; cases hv'
  simp only [execOp, hop, ← h1, Instr.loadAt, Instr.sureAddr, loadVar, Sem.run_bind, Sem.run_pure, Result.andThen, ha, Bool.false_eq_true, if_false]
  simp [hc']
theorem vk_strSl {E : Env} {N0 : Nums} {rg : List Rg} {f : Fr} {g : GK} {t : TypeId} {x : Operand} {lo hi : Option Operand} {zl zh : Option Nat} {s : ByteArray} (hx : evK f g x = some (.raw (.string s))) (hl : Bnd f g lo zl) (hh : Bnd f g hi zh) (hu : E.P.underlying t = some .string)
    (h1 : zl.getD 0 ≤ zh.getD s.size) (h2 : zh.getD s.size ≤ s.size) : ValOk E N0 rg f g (.slice t x lo hi none) (.raw (.string (s.extract (zl.getD 0) (zh.getD s.size)))) := by
  intro ht N ρ o w hN0 hop hρ hV
  have e1 := hρ _ _ hx
  simp only [SV.den, one?, if_true, Option.some.injEq] at e1
  refine ⟨.string (s.extract (zl.getD 0) (zh.getD s.size)), by simp [SV.den, one?], fun w' _ => ?_⟩
  have hb := run_sliceBounds (P := E.P) (w := w') (ρ' := ρ) (b := false) (len := s.size) (cap := s.size) (mx := none) (m := none) (hl.run ht hρ) (hh.run ht hρ) (.inl ⟨rfl, rfl⟩) h1 (by simpa using h2) (by simp) (by simp)
  simp only [Option.map_none, Option.getD_none] at hb
  have hmap : (none : Option Operand).map ρ = none := rfl
  simp [execOp, hop, ← e1, Instr.sliceAt, run_underlying hu, Result.andThen, Instr.slice, hmap, hb]
theorem vk_strAdd {E : Env} {N0 : Nums} {rg : List Rg} {f : Fr} {g : GK} {t ty : TypeId} {x y : Operand} {u v : ByteArray} (hx : evK f g x = some (.raw (.string u))) (hy : evK f g y = some (.raw (.string v))) (hl : u.size + v.size ≤ 100000) :
    ValOk E N0 rg f g (.binOp .add t x y ty) (.raw (.string (u ++ v))) := by
  intro ht N ρ o w0 hN0 hop hρ hV
  have h1 := hρ _ _ hx
  have h2 := hρ _ _ hy
  simp only [SV.den, one?, if_true, Option.some.injEq] at h1 h2
  refine ⟨.string (u ++ v), by simp [SV.den, one?], fun w' _ => ?_⟩
  have hle : ¬ (((u.size + v.size : Nat) : Int) > IntKind.i64.max) := by
    have : IntKind.i64.max = 9223372036854775807 := by decide
    omega
  have hb' : ∀ w', (binOp .add t (.string u) (.string v)).run E.P w' = .ok (.string (u ++ v)) w' := fun w' => by
    simp only [binOp, Op.stringOp]
    rw [if_neg hle]
    rfl
  have hg : ∀ w', (eqGuard BinOp.add t x y (Value.string u) (Value.string v)).run E.P w' = .ok () w' := fun w' => by simp [eqGuard]
  simp [execOp, hop, ← h1, ← h2, Result.andThen, hb', hg]
theorem vk_strLen {E : Env} {N0 : Nums} {rg : List Rg} {f : Fr} {g : GK} {x : Operand} {ts : TypeId} {s : ByteArray} (hx : evK f g x = some (.raw (.string s))) (hu : E.P.underlying ts = some .string) : ValOk E N0 rg f g (.call { callee := .builtin .len, args := #[x], argTypes := #[ts] }) (.int .i64 (.nat s.size)) := by
  intro ht N ρ op w hN0 hop hρ hV
  have e1 := hρ _ _ hx
  simp only [SV.den, one?, if_true, Option.some.injEq] at e1
  refine ⟨.int .i64 s.size, rfl, fun w' _ => ?_⟩
  have h2 : (Builtin.len_ #[ts] op.type #[.string s]).run E.P w' = .ok (.int .i64 s.size) w' := by simp [Builtin.len_, run_underlying hu, Result.andThen, goInt]
  simp [execOp, hop, resolve, invoke, builtin, ← e1, h2]
end Go.Eng
namespace Go.Proofs.Ytkjhpaeminegoaa
open Go Go.Eng
def rawL (vs : List Value) : List SV := vs.map .raw
theorem rawL_len (vs : List Value) : (rawL vs).length = vs.length := by simp [rawL]
theorem rawL_den {vs : List Value} {c : SV} (hc : c ∈ rawL vs) {N N' : Nums} {v : Value} (h : c.den N = some v) : c.den N' = some v := by
  obtain ⟨u, _, rfl⟩ := List.mem_map.1 hc
  exact h
theorem rawL_bd {vs : List Value} {m : Nat} : (rawL vs).all (bd m) = true := List.all_eq_true.2 fun c hc => by
  obtain ⟨v, _, rfl⟩ := List.mem_map.1 hc
  rfl
def capV (p : Option Addr) (c : Nat) : Nat := match p with
  | none => 0
  | some _ => c
theorem cloned {α : Type} {f : α → List Dt} {l : List α} {P : Program} {fn : Func} {Q : Ending → World → Prop} {w w' : World} {im : Mem} {D : Nat → Nat → Prop} {Rr : World → Prop} {N0 N : Nums} {B : SchT} {rg : List Rg} {r n K : Nat} {q : Num} {p : Option Addr} {vss : List (List Value)} {M : Mem}
    (hS : Sat (mkE P fn Q w (InR [] []) im D Rr N0 B).toEnv N rg w') (hr : rg[r]? = some ⟨decide (n ≠ 0), rawL vss.flatten, none⟩) (hq : N[r]? = some q) (hK : 0 < K) (hn : n = l.length) (hle : n ≤ maxLen) (hl : vss.length = l.length) (hk : ∀ v ∈ vss, v.length = K) (hp : p = none → n = 0)
    (hrep : ∀ (i : Nat) (x : α), l[i]? = some x → ∃ vs, vss[i]? = some vs ∧ RepL M (f x) vs) (hM : ∀ j v, w.heap.size ≤ q.b → w'.cell? ⟨q.b, q.o + j, none⟩ = some v → j < n * K → M q.b (q.o + j) = some v) : SlR M (p.map fun _ => ⟨q.b, q.o, none⟩) (capV p (q.x / K)) K (l.map f) := by
  have hfl : (rawL vss.flatten).length = n * K := by rw [rawL_len, flatten_len hk, hl, hn]
  cases p with
  | none =>
    have h0 := hp rfl
    have : l = [] := List.eq_nil_of_length_eq_zero (by omega)
    subst this
    exact ⟨⟨by simp, by simp⟩, .inl rfl⟩
  | some a =>
    by_cases h0 : n = 0
    · have : l = [] := List.eq_nil_of_length_eq_zero (by omega)
      subst this
      exact ⟨⟨by simp, by simp⟩, .inl rfl⟩
    rw [decide_eq_true h0] at hr
    have hx := hS.ext r _ q hr hq rfl
    rw [hfl] at hx
    refine SlR.of (vss := vss) (by rw [← hn]; exact (Nat.le_div_iff_mul_le hK).2 hx) (by omega) hl hrep fun _ => ⟨q.b, q.o, rfl, fun i vs hi j v hj => ?_⟩
    have hb : w.heap.size ≤ q.b := by
      rcases hS.foot r _ _ hr hq rfl with h | h
      · exact h
      · exact absurd (h 0 (by have : 0 < n * K := Nat.mul_pos (by omega) hK; omega)) inR_nil
    have hil := (List.getElem?_eq_some_iff.1 hi).1
    have hjK : j < K := by
      have h1 := (List.getElem?_eq_some_iff.1 hj).1
      rwa [hk vs (List.mem_of_getElem? hi)] at h1
    have hf : vss.flatten[i * K + j]? = some v := by
      rw [flatten_get hK hk, show (i * K + j) / K = i by rw [Nat.mul_comm i K, Nat.mul_add_div hK, Nat.div_eq_of_lt hjK, Nat.add_zero], show (i * K + j) % K = j by rw [Nat.mul_comm i K, Nat.mul_add_mod, Nat.mod_eq_of_lt hjK], hi]
      exact hj
    obtain ⟨u, h1, h2⟩ := hS.cell r _ q hr hq (i * K + j) (.raw v) (by show (rawL vss.flatten)[i * K + j]? = _; rw [rawL, List.getElem?_map, hf]; rfl)
    have hu : u = v := by
      simp only [SV.den] at h1
      split at h1
      · exact (Option.some.inj h1).symm
      · cases h1
    rw [Nat.add_assoc]
    refine hM _ _ hb (by rw [h2, hu]) ?_
    have : i * K + K ≤ n * K := by rw [← Nat.succ_mul]; exact Nat.mul_le_mul_right K (by omega)
    omega
end Go.Proofs.Ytkjhpaeminegoaa
