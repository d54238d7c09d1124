/- What the records' data are. -/
import Derived.Test.YtkjhpaeminegoaaTab
import Derived.Test.YtkjhpaeminegoaaEE

namespace Go.Proofs.Ytkjhpaeminegoaa
open Go Go.Eng

abbrev inK (k : IntKind) (z : Int) : Prop := (Lit.int k z).wf = true

structure BalP where
  (count node life : Int)
  deriving DecidableEq
structure RepP where
  (err inc state : Int) (vars : List Int)
  deriving DecidableEq
structure DoneP where
  (client seq : Int) (reply : RepP)
  deriving DecidableEq
structure CellP where
  (n target action arg : Int)
  deriving DecidableEq
structure MarkP where
  (source inc cell : Int)
  deriving DecidableEq
structure RegP where
  (kind inc state : Int) (vars : List Int) (done : List DoneP) (out : List CellP) (last : Int) (marks : List MarkP)
  deriving DecidableEq
structure ConfP where
  (c : Int) (old new : List Int)
  deriving DecidableEq
structure RecP where
  (kind key : Int) (promise acc : BalP) (reg : RegP) (fence life : Int) (conf : ConfP)
  deriving DecidableEq
structure SlotP where
  (has : Bool) (promise acc : BalP) (reg : RegP)
  deriving DecidableEq
structure StateP where
  (slots : List SlotP) (fence life : Int) (conf : ConfP)
  deriving DecidableEq

def i64D (z : Int) : List Dt := [.int .i64 z]
def u8D (z : Int) : List Dt := [.int .u8 z]
def BalP.toD (x : BalP) : List Dt := [.int .u64 x.count, .int .u8 x.node, .int .u32 x.life]
def RepP.toD (x : RepP) : List Dt := [.int .i64 x.err, .int .u64 x.inc, .int .i64 x.state, .list (x.vars.map i64D)]
def DoneP.toD (x : DoneP) : List Dt := .int .u8 x.client :: .int .u64 x.seq :: x.reply.toD
def CellP.toD (x : CellP) : List Dt := [.int .u64 x.n, .int .u8 x.target, .int .i64 x.action, .int .i64 x.arg]
def MarkP.toD (x : MarkP) : List Dt := [.int .u8 x.source, .int .u64 x.inc, .int .u64 x.cell]
def RegP.toD (x : RegP) : List Dt := [.int .u8 x.kind, .int .u64 x.inc, .int .i64 x.state, .list (x.vars.map i64D), .list (x.done.map DoneP.toD), .list (x.out.map CellP.toD), .int .u64 x.last, .list (x.marks.map MarkP.toD)]
def ConfP.toD (x : ConfP) : List Dt := [.int .u64 x.c, .list (x.old.map u8D), .list (x.new.map u8D)]
def RecP.toD (x : RecP) : List Dt := .int .u8 x.kind :: .int .u8 x.key :: (x.promise.toD ++ (x.acc.toD ++ (x.reg.toD ++ .int .u64 x.fence :: .int .u32 x.life :: x.conf.toD)))
def SlotP.toD (x : SlotP) : List Dt := .bool x.has :: (x.promise.toD ++ (x.acc.toD ++ x.reg.toD))
def StateP.toD (x : StateP) : List Dt := (x.slots.map SlotP.toD).flatten ++ .int .u64 x.fence :: .int .u32 x.life :: x.conf.toD

/-! ### their sizes -/
theorem sz_i64 {l : List Int} : ∀ d ∈ l.map i64D, d.length = 1 := fun d hd => by obtain ⟨x, _, rfl⟩ := List.mem_map.1 hd; rfl
theorem sz_u8 {l : List Int} : ∀ d ∈ l.map u8D, d.length = 1 := fun d hd => by obtain ⟨x, _, rfl⟩ := List.mem_map.1 hd; rfl
theorem sz_done {l : List DoneP} : ∀ d ∈ l.map DoneP.toD, d.length = 6 := fun d hd => by obtain ⟨x, _, rfl⟩ := List.mem_map.1 hd; rfl
theorem sz_cell {l : List CellP} : ∀ d ∈ l.map CellP.toD, d.length = 4 := fun d hd => by obtain ⟨x, _, rfl⟩ := List.mem_map.1 hd; rfl
theorem sz_mark {l : List MarkP} : ∀ d ∈ l.map MarkP.toD, d.length = 3 := fun d hd => by obtain ⟨x, _, rfl⟩ := List.mem_map.1 hd; rfl
theorem sz_rec {l : List RecP} : ∀ d ∈ l.map RecP.toD, d.length = 21 := fun d hd => by obtain ⟨x, _, rfl⟩ := List.mem_map.1 hd; rfl

/-! ### opened -/
variable {M : Mem} {vs : List Value}

theorem i64D.open {x : Int} (h : RepL M (i64D x) vs) : vs = [.int .i64 x] := by
  simp only [i64D, RepL, RepC] at h
  obtain ⟨_, _, rfl, rfl, rfl⟩ := h
  rfl
theorem u8D.open {x : Int} (h : RepL M (u8D x) vs) : vs = [.int .u8 x] := by
  simp only [u8D, RepL, RepC] at h
  obtain ⟨_, _, rfl, rfl, rfl⟩ := h
  rfl
theorem BalP.open {x : BalP} (h : RepL M x.toD vs) : vs = [.int .u64 x.count, .int .u8 x.node, .int .u32 x.life] := by
  simp only [BalP.toD, RepL, RepC] at h
  obtain ⟨_, _, rfl, rfl, _, _, rfl, rfl, _, _, rfl, rfl, rfl⟩ := h
  rfl
theorem CellP.open {x : CellP} (h : RepL M x.toD vs) : vs = [.int .u64 x.n, .int .u8 x.target, .int .i64 x.action, .int .i64 x.arg] := by
  simp only [CellP.toD, RepL, RepC] at h
  obtain ⟨_, _, rfl, rfl, _, _, rfl, rfl, _, _, rfl, rfl, _, _, rfl, rfl, rfl⟩ := h
  rfl
theorem MarkP.open {x : MarkP} (h : RepL M x.toD vs) : vs = [.int .u8 x.source, .int .u64 x.inc, .int .u64 x.cell] := by
  simp only [MarkP.toD, RepL, RepC] at h
  obtain ⟨_, _, rfl, rfl, _, _, rfl, rfl, _, _, rfl, rfl, rfl⟩ := h
  rfl

theorem RepL.cons {d : Dt} {ds : List Dt} (h : RepL M (d :: ds) vs) : ∃ v r, vs = v :: r ∧ RepC M d v ∧ RepL M ds r := by simpa only [RepL] using h
theorem RepL.nil (h : RepL M [] vs) : vs = [] := by simpa only [RepL] using h
theorem RepC.int' {k : IntKind} {z : Int} {v : Value} (h : RepC M (.int k z) v) : v = .int k z := by simpa only [RepC] using h
theorem RepC.bool' {b : Bool} {v : Value} (h : RepC M (.bool b) v) : v = .bool b := by simpa only [RepC] using h

theorem RepP.open {x : RepP} (h : RepL M x.toD vs) : ∃ p c, vs = [.int .i64 x.err, .int .u64 x.inc, .int .i64 x.state, .slice p x.vars.length c] ∧ SlR M p c 1 (x.vars.map i64D) := by
  unfold RepP.toD at h
  obtain ⟨_, _, rfl, h0, h⟩ := RepL.cons h
  obtain ⟨_, _, rfl, h1, h⟩ := RepL.cons h
  obtain ⟨_, _, rfl, h2, h⟩ := RepL.cons h
  obtain ⟨_, _, rfl, h3, h⟩ := RepL.cons h
  have hn := RepL.nil h; subst hn
  obtain ⟨p, c, rfl, hs⟩ := h3.list sz_i64
  rw [RepC.int' h0, RepC.int' h1, RepC.int' h2, List.length_map]
  exact ⟨p, c, rfl, hs⟩

theorem DoneP.open {x : DoneP} (h : RepL M x.toD vs) : ∃ p c, vs = [.int .u8 x.client, .int .u64 x.seq, .int .i64 x.reply.err, .int .u64 x.reply.inc, .int .i64 x.reply.state, .slice p x.reply.vars.length c] ∧ SlR M p c 1 (x.reply.vars.map i64D) := by
  unfold DoneP.toD at h
  obtain ⟨_, _, rfl, h0, h⟩ := RepL.cons h
  obtain ⟨_, _, rfl, h1, h⟩ := RepL.cons h
  obtain ⟨p, c, rfl, hs⟩ := RepP.open h
  rw [RepC.int' h0, RepC.int' h1]
  exact ⟨p, c, rfl, hs⟩

theorem RegP.open {x : RegP} (h : RepL M x.toD vs) : ∃ vp vc dp dc op oc mp mc, vs = [.int .u8 x.kind, .int .u64 x.inc, .int .i64 x.state, .slice vp x.vars.length vc, .slice dp x.done.length dc, .slice op x.out.length oc, .int .u64 x.last, .slice mp x.marks.length mc] ∧
    SlR M vp vc 1 (x.vars.map i64D) ∧ SlR M dp dc 6 (x.done.map DoneP.toD) ∧ SlR M op oc 4 (x.out.map CellP.toD) ∧ SlR M mp mc 3 (x.marks.map MarkP.toD) := by
  unfold RegP.toD at h
  obtain ⟨_, _, rfl, h0, h⟩ := RepL.cons h
  obtain ⟨_, _, rfl, h1, h⟩ := RepL.cons h
  obtain ⟨_, _, rfl, h2, h⟩ := RepL.cons h
  obtain ⟨_, _, rfl, h3, h⟩ := RepL.cons h
  obtain ⟨_, _, rfl, h4, h⟩ := RepL.cons h
  obtain ⟨_, _, rfl, h5, h⟩ := RepL.cons h
  obtain ⟨_, _, rfl, h6, h⟩ := RepL.cons h
  obtain ⟨_, _, rfl, h7, h⟩ := RepL.cons h
  have hn := RepL.nil h; subst hn
  obtain ⟨p3, c3, rfl, hs3⟩ := h3.list sz_i64
  obtain ⟨p4, c4, rfl, hs4⟩ := h4.list sz_done
  obtain ⟨p5, c5, rfl, hs5⟩ := h5.list sz_cell
  obtain ⟨p7, c7, rfl, hs7⟩ := h7.list sz_mark
  rw [RepC.int' h0, RepC.int' h1, RepC.int' h2, RepC.int' h6, List.length_map, List.length_map, List.length_map, List.length_map]
  exact ⟨p3, c3, p4, c4, p5, c5, p7, c7, rfl, hs3, hs4, hs5, hs7⟩

theorem ConfP.open {x : ConfP} (h : RepL M x.toD vs) : ∃ op oc np nc, vs = [.int .u64 x.c, .slice op x.old.length oc, .slice np x.new.length nc] ∧ SlR M op oc 1 (x.old.map u8D) ∧ SlR M np nc 1 (x.new.map u8D) := by
  unfold ConfP.toD at h
  obtain ⟨_, _, rfl, h0, h⟩ := RepL.cons h
  obtain ⟨_, _, rfl, h1, h⟩ := RepL.cons h
  obtain ⟨_, _, rfl, h2, h⟩ := RepL.cons h
  have hn := RepL.nil h; subst hn
  obtain ⟨p1, c1, rfl, hs1⟩ := h1.list sz_u8
  obtain ⟨p2, c2, rfl, hs2⟩ := h2.list sz_u8
  rw [RepC.int' h0, List.length_map, List.length_map]
  exact ⟨p1, c1, p2, c2, rfl, hs1, hs2⟩

/-- a record: its parts -/
theorem RecP.open {x : RecP} (h : RepL M x.toD vs) : ∃ rv cv, vs = .int .u8 x.kind :: .int .u8 x.key :: .int .u64 x.promise.count :: .int .u8 x.promise.node :: .int .u32 x.promise.life :: .int .u64 x.acc.count :: .int .u8 x.acc.node :: .int .u32 x.acc.life :: (rv ++ .int .u64 x.fence :: .int .u32 x.life :: cv) ∧
    RepL M x.reg.toD rv ∧ RepL M x.conf.toD cv := by
  unfold RecP.toD at h
  obtain ⟨_, _, rfl, h0, h⟩ := RepL.cons h
  obtain ⟨_, _, rfl, h1, h⟩ := RepL.cons h
  obtain ⟨pv, _, rfl, h2, h⟩ := h.split
  obtain ⟨av, _, rfl, h3, h⟩ := h.split
  obtain ⟨rv, _, rfl, h4, h⟩ := h.split
  obtain ⟨_, _, rfl, h5, h⟩ := RepL.cons h
  obtain ⟨_, cv, rfl, h6, h⟩ := RepL.cons h
  rw [RepC.int' h0, RepC.int' h1, RepC.int' h5, RepC.int' h6, BalP.open h2, BalP.open h3]
  exact ⟨rv, cv, rfl, h4, h⟩

theorem SlotP.open {x : SlotP} (h : RepL M x.toD vs) : ∃ rv, vs = .bool x.has :: .int .u64 x.promise.count :: .int .u8 x.promise.node :: .int .u32 x.promise.life :: .int .u64 x.acc.count :: .int .u8 x.acc.node :: .int .u32 x.acc.life :: rv ∧ RepL M x.reg.toD rv := by
  unfold SlotP.toD at h
  obtain ⟨_, _, rfl, h0, h⟩ := RepL.cons h
  obtain ⟨pv, _, rfl, h2, h⟩ := h.split
  obtain ⟨av, rv, rfl, h3, h⟩ := h.split
  rw [RepC.bool' h0, BalP.open h2, BalP.open h3]
  exact ⟨rv, rfl, h⟩

end Go.Proofs.Ytkjhpaeminegoaa
