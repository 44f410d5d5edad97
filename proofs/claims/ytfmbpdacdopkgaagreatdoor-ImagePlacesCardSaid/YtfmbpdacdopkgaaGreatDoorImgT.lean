/- Closed evaluations: the texts of the slots. Conditions: none. -/
import Derived.Test.YtfmbpdacdopkgaaGreatDoorImgA
namespace Go.Proofs.YtfmbpdacdopkgaaGreatDoor
open Go Go.Ai

def dig (n : Nat) : List UInt8 := if n < 10 then [UInt8.ofNat (48 + n)] else [UInt8.ofNat (48 + n / 10), UInt8.ofNat (48 + n % 10)]
def letter (i : Nat) : UInt8 := if i = 1 then 105 else if i = 2 then 113 else 109
def txt (i j : Nat) : ByteArray := ⟨(37 :: letter i :: dig j).toArray⟩

def strIs : Option (AEnd × St) → List UInt8 → Bool
  | some (.ret (.v (.string v)), _), u => v.data.toList == u
  | _, _ => false
def strErrIs : Option (AEnd × St) → List UInt8 → Int → Bool
  | some (.ret (.tup [.v (.string v), .v (.int .i64 e)]), _), u, f => v.data.toList == u && e == f
  | _, _, _ => false
def threeIs : Option (AEnd × St) → Int → Int → Int → Bool
  | some (.ret (.tup [.v (.int .i64 a), .v (.int .i64 b), .v (.int .i64 c)]), _), x, y, z => a == x && b == y && c == z
  | _, _, _, _ => false

def start : St := ⟨.nil, 0⟩
set_option maxRecDepth 100000
noncomputable def p13 (i j : Nat) : Bool := strIs ((evalK E0 1000 20).call 13 [.i ((i + 1 : Nat) : Int), .i (j : Int)] start) (37 :: letter (i + 1) :: dig j)
noncomputable def p10 (i j : Nat) : Bool := strErrIs ((evalK E0 1000 20).call 10 [.i ((i + 1 : Nat) : Int), .i (j : Int)] start) (37 :: letter (i + 1) :: dig j) 0
noncomputable def p37 (j : Nat) : Bool := strIs ((evalK E0 1000 20).call 37 [.i (j : Int)] start) (dig j)
theorem all13 : ((List.range 3).all fun i => (List.range 64).all fun j => p13 i j) = true := by kernel_rfl
theorem all10 : ((List.range 3).all fun i => (List.range 64).all fun j => p10 i j) = true := by kernel_rfl
theorem all37 : ((List.range 64).all fun j => p37 j) = true := by kernel_rfl
end Go.Proofs.YtfmbpdacdopkgaaGreatDoor
