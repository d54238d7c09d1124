/- The ring: hashes. -/
import Derived.Test.YthaffebapmkppaaRi1
import Derived.Test.YthaffebapmkppaaEC

namespace Go.Proofs.Ythaffebapmkppaa
open Go Go.Eng

def xorU (a b : Int) : Int := bitsI .xor .u64 a b
def mulU (a b : Int) : Int := IntKind.u64.wrap (a * b)
def ofZ (l : List Int) : Int := l.foldl (fun h c => mulU (xorU h (IntKind.u64.wrap c)) 1099511628211) 14695981039346656037
def stirZ (h : Int) : Int := xorU (mulU (xorU h (h.fdiv (2 ^ 32))) 14029467366897019727) ((mulU (xorU h (h.fdiv (2 ^ 32))) 14029467366897019727).fdiv (2 ^ 29))
def placeZ (n v : Int) : Int := stirZ (ofZ [110, n, v])
def keyZ (k : Int) : Int := stirZ (ofZ [107, k])

theorem of110 : mulU (xorU 14695981039346656037 (IntKind.u64.wrap 110)) 1099511628211 = Int.ofNat 12638194897137039473 := by decide +kernel
theorem of107 : mulU (xorU 14695981039346656037 (IntKind.u64.wrap 107)) 1099511628211 = Int.ofNat 12638198195671924106 := by decide +kernel

set_option maxHeartbeats 4000000 in
set_option maxRecDepth 100000 in
set_option cbv.maxSteps 100000000 in
theorem place_ok (n v : Int) (w : World) : Calls Try.prog 38 #[.int .u8 n, .int .u8 v] w fun e w' => e = .returned (.int .u64 (placeZ n v)) ∧ Chg (fun _ _ => False) w w' := by
  refine X.begin (rg := []) (N := []) (ss := [.int .u8 (.v n), .int .u8 (.v v)]) Try.func38 rfl B38_ok rfl rfl Sat.std0 ?_
  refine X.goC FALL_ok true T38_ok 4000 _ rfl Try.results38 ?_
  conv => arg 2; cbv
  refine X.done T38_ok rfl (fun N w' v hN hS hv => ⟨fin_int hv ?_, hS.chg.mono fun k o _ h => inR_nil h⟩)
  simp only [SI.den]
  unfold placeZ ofZ
  simp only [List.foldl, of110]
  rfl

set_option maxHeartbeats 4000000 in
set_option maxRecDepth 100000 in
set_option cbv.maxSteps 100000000 in
theorem key_ok (k : Int) (w : World) : Calls Try.prog 41 #[.int .u8 k] w fun e w' => e = .returned (.int .u64 (keyZ k)) ∧ Chg (fun _ _ => False) w w' := by
  refine X.begin (rg := []) (N := []) (ss := [.int .u8 (.v k)]) Try.func41 rfl B41_ok rfl rfl Sat.std0 ?_
  refine X.goC FALL_ok true T41_ok 4000 _ rfl Try.results41 ?_
  conv => arg 2; cbv
  refine X.done T41_ok rfl (fun N w' v hN hS hv => ⟨fin_int hv ?_, hS.chg.mono fun k o _ h => inR_nil h⟩)
  simp only [SI.den]
  unfold keyZ ofZ
  simp only [List.foldl, of107]
  rfl

end Go.Proofs.Ythaffebapmkppaa
