/-
  The sum of bytes, over whole numbers as the machine writes them. No program in sight.
-/
import Derived.WalkKit
namespace Go.Proofs.YtckpeclkkmapiaaGreatDoor
open Go

/-- One place down; what falls off the end is taken against the polynomial (as the program's closure writes it). -/
def stI (x : Int) : Int := bits .xor .u32 (x / 2) (bits .and .u32 (-bits .and .u32 x 1 % 4294967296) 3988292384)
def stN : Nat → Int → Int
  | 0, x => x
  | n + 1, x => stI (stN n x)
/-- Rests: the cells of the first k. -/
def tabC (k : Nat) : Array Value := ((List.range 256).map fun i => Value.int .u32 (if i < k then stN 8 i else 0)).toArray

/-- One byte more, by the table; and a list of them. -/
def updI (x c : Int) : Int := bits .xor .u32 (x / 256) (stN 8 (bits .xor .u8 (x % 256) c))
def runI (x : Int) (cs : List Int) : Int := cs.foldl updI x
/-- All 32 bits turned (as the machine writes it). -/
def notI (x : Int) : Int := bits .xor .u32 IntKind.u32.max x
def moreI (s : Int) (cs : List Int) : Int := notI (runI (notI s) cs)
/-- The reference's step. -/
def rstI (x : Int) : Int := if x % 2 = 1 then bits .xor .u32 (x / 2) 3988292384 else x / 2
def rstN : Nat → Int → Int
  | 0, x => x
  | n + 1, x => rstI (rstN n x)
def rupdI (x c : Int) : Int := rstN 8 (bits .xor .u32 x c)
def rrunI (x : Int) (cs : List Int) : Int := cs.foldl rupdI x
def rmoreI (s : Int) (cs : List Int) : Int := notI (rrunI (notI s) cs)
end Go.Proofs.YtckpeclkkmapiaaGreatDoor
