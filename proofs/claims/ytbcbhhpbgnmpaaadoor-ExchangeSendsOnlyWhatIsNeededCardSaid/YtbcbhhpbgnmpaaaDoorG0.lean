/- The walks: each function of the program that the law reaches computes the Lean function that is printed beside it. No condition but that the Lean function has a result. -/
import Derived.Test.YtbcbhhpbgnmpaaaDoorX3
import Derived.Test.YtbcbhhpbgnmpaaaDoorProg
import Derived.Lib.Bytealg
set_option linter.unusedVariables false
namespace Go.Proofs.K1
open Go.Abs
set_option maxRecDepth 10000
theorem hm : Tryd.prog.follows .mixedOrders = true := by kernel_rfl
noncomputable abbrev P := Tryd.prog
def gK1 : List Int := [0x428a2f98, 0x71374491, 0xb5c0fbcf, 0xe9b5dba5, 0x3956c25b, 0x59f111f1, 0x923f82a4, 0xab1c5ed5,
  0xd807aa98, 0x12835b01, 0x243185be, 0x550c7dc3, 0x72be5d74, 0x80deb1fe, 0x9bdc06a7, 0xc19bf174,
  0xe49b69c1, 0xefbe4786, 0x0fc19dc6, 0x240ca1cc, 0x2de92c6f, 0x4a7484aa, 0x5cb0a9dc, 0x76f988da,
  0x983e5152, 0xa831c66d, 0xb00327c8, 0xbf597fc7, 0xc6e00bf3, 0xd5a79147, 0x06ca6351, 0x14292967,
  0x27b70a85, 0x2e1b2138, 0x4d2c6dfc, 0x53380d13, 0x650a7354, 0x766a0abb, 0x81c2c92e, 0x92722c85,
  0xa2bfe8a1, 0xa81a664b, 0xc24b8b70, 0xc76c51a3, 0xd192e819, 0xd6990624, 0xf40e3585, 0x106aa070,
  0x19a4c116, 0x1e376c08, 0x2748774c, 0x34b0bcb5, 0x391c0cb3, 0x4ed8aa4a, 0x5b9cca4f, 0x682e6ff3,
  0x748f82ee, 0x78a5636f, 0x84c87814, 0x8cc70208, 0x90befffa, 0xa4506ceb, 0xbef9a3f7, 0xc67178f2]
def gK2 : List Int := gK1
instance : Globs := ⟨fun | 1 => some ⟨.arr 64 (.int .u32), gK1⟩ | 2 => some ⟨.arr 64 (.int .u32), gK2⟩ | _ => none⟩
def cmpB (a b : List Int) : Int := Lib.compareBytes (a.map fun n => UInt8.ofNat n.toNat) (b.map fun n => UInt8.ofNat n.toNat)
abbrev KI : Kd := .pair (.arr 16 (.int .u8)) (.pair .str .unit)
abbrev It : Type := List Int × (ByteArray × Unit)
abbrev KX : Kd := .pair (.arr 16 (.int .u8)) (.pair (.int .i64) .unit)
abbrev Px : Type := List Int × (Int × Unit)
abbrev KP : Kd := .pair (.int .i64) (.pair KX (.pair (.arr 16 (.int .u8)) (.pair (.int .i64) (.pair (.sl (.arr 16 (.int .u8))) (.pair .str .unit)))))
abbrev Pt : Type := Int × (Px × (List Int × (Int × (List (List Int) × (ByteArray × Unit)))))
abbrev KSe : Kd := .pair (.int .i64) (.pair KP .unit)
abbrev Se : Type := Int × (Pt × Unit)
end Go.Proofs.K1
