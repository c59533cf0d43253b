/-
  THE MACHINE OF THE SEAT's PROGRAM.
-/
import Derived.Test.YtakinpjaklgacaaGreatDoorAbFast
namespace Go.Ab
open Go.Proofs
def sTable : List AVal := [.int .u32 0, .int .u32 498536548, .int .u32 997073096, .int .u32 651767980, .int .u32 1994146192, .int .u32 1802195444, .int .u32 1303535960, .int .u32 1342533948, .int .u32 3988292384, .int .u32 4027552580, .int .u32 3604390888, .int .u32 3412177804, .int .u32 2607071920, .int .u32 2262029012, .int .u32 2685067896, .int .u32 3183342108]
def sPol (f g : Nat) : Pol := if Nat.testBit 8771866186742219123006555369617613117814072133948513848414735206695535789465552697994250551547055598895740167803826096399737849578891034682527318016 g then ⟨true, Nat.testBit 8771866186742304299419558761054827612251191628458582358019669733923459856917207353547445549382307826201157574506681591968845730521762825181822189568 f⟩ else if Nat.testBit 85176413003391432486248883736875811337660119181071404869522203772015931781475973470979876254156830848431620638160423258098674050269184 g then ⟨true, true⟩ else ⟨false, Nat.testBit 110427941548649020598956093796432407239217743554745074348531866161643520 g⟩
def sGlob (g : Nat) : Option (List AVal) := if g = 0 then some sTable else none
noncomputable def sEnv (prim : FuncId → Option Prim) (H : Hidden) : Env where
  T := fastTab
  fn := fun f => if f < 515 then look fnL f else none
  prim := prim
  glob := sGlob
  pol := sPol
  plan := planOf
  hid := H.hid
  hint := H.hint
  orc := H.orc
  hlen := H.hlen
  hidx := H.hidx
  hidh := H.hidh
theorem sEnv_eq (prim : FuncId → Option Prim) (H : Hidden) : sEnv prim H = envOf Tryz.prog 515 planOf sPol sGlob prim H := by
  unfold sEnv envOf
  rw [fastTab_eq, fastFn_eq]
def prim0 (g : FuncId) : Option Prim := if g = 217 then some primClone else none
noncomputable def sE0 : Env := sEnv prim0 {}
end Go.Ab
