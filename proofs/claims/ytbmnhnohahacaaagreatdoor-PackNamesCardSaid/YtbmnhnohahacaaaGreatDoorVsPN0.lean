/-
  SEAT GreatDoor: the four tables of its rows, the table of its functions' codes, and what 'pack.caught' does.
-/
import Derived.Test.YtbmnhnohahacaaaGreatDoorVsK2
import Derived.Test.YtbmnhnohahacaaaGreatDoorVsLaid
import Derived.Test.YtbmnhnohahacaaaGreatDoorVsIrzk
namespace Go.Proofs.Tryzv
open Go.RowKit Go.VS
set_option maxRecDepth 100000
set_option linter.unusedSimpArgs false
set_option linter.unusedVariables false

def tabDB : List Int := [0, 1, 56, 2, 57, 49, 28, 3, 61, 58, 42, 50, 38, 29, 17, 4, 62, 47, 59, 36, 45, 43, 51, 22, 53, 39, 33, 30, 24, 18, 12, 5, 63, 55, 48, 27, 60, 41, 37, 16, 46, 35, 44, 21, 52, 32, 23, 11, 54, 26, 40, 15, 34, 20, 31, 10, 25, 14, 19, 9, 13, 8, 7, 6]
def tabNib : List Int := [0, 274646895, 549293790, 820201905, 1098587580, 1361435347, 1640403810, 1905808397, 2197175160, 2460548119, 2722870694, 2987750089, 3280807620, 3553878443, 3811616794, 4084100981]
def tabFirst : List Int := [240, 240, 240, 240, 240, 240, 240, 240, 240, 240, 240, 240, 240, 240, 240, 240, 240, 240, 240, 240, 240, 240, 240, 240, 240, 240, 240, 240, 240, 240, 240, 240, 240, 240, 240, 240, 240, 240, 240, 240, 240, 240, 240, 240, 240, 240, 240, 240, 240, 240, 240, 240, 240, 240, 240, 240, 240, 240, 240, 240, 240, 240, 240, 240, 240, 240, 240, 240, 240, 240, 240, 240, 240, 240, 240, 240, 240, 240, 240, 240, 240, 240, 240, 240, 240, 240, 240, 240, 240, 240, 240, 240, 240, 240, 240, 240, 240, 240, 240, 240, 240, 240, 240, 240, 240, 240, 240, 240, 240, 240, 240, 240, 240, 240, 240, 240, 240, 240, 240, 240, 240, 240, 240, 240, 240, 240, 240, 240, 241, 241, 241, 241, 241, 241, 241, 241, 241, 241, 241, 241, 241, 241, 241, 241, 241, 241, 241, 241, 241, 241, 241, 241, 241, 241, 241, 241, 241, 241, 241, 241, 241, 241, 241, 241, 241, 241, 241, 241, 241, 241, 241, 241, 241, 241, 241, 241, 241, 241, 241, 241, 241, 241, 241, 241, 241, 241, 241, 241, 241, 241, 241, 241, 241, 241, 2, 2, 2, 2, 2, 2, 2, 2, 2, 2, 2, 2, 2, 2, 2, 2, 2, 2, 2, 2, 2, 2, 2, 2, 2, 2, 2, 2, 2, 2, 19, 3, 3, 3, 3, 3, 3, 3, 3, 3, 3, 3, 3, 35, 3, 3, 52, 4, 4, 4, 68, 241, 241, 241, 241, 241, 241, 241, 241, 241, 241, 241]
def tabAcc : List (Int × Int) := [(128, 191), (160, 191), (128, 159), (144, 191), (128, 143), (0, 0), (0, 0), (0, 0), (0, 0), (0, 0), (0, 0), (0, 0), (0, 0), (0, 0), (0, 0), (0, 0)]
/-- The cells of the globals, as the rows lay them. -/
def glAV : Nat → List AV
  | 0 => tabDB.map (AV.int .u8)
  | 1 => tabNib.map (AV.int .u32)
  | 2 => tabFirst.map (AV.int .u8)
  | 3 => tabAcc.flatMap fun z => [AV.int .u8 z.1, AV.int .u8 z.2]
  | _ => []
def glV : Nat → List Value
  | 0 => tabDB.map (Value.int .u8)
  | 1 => tabNib.map (Value.int .u32)
  | 2 => tabFirst.map (Value.int .u8)
  | 3 => tabAcc.flatMap fun z => [Value.int .u8 z.1, Value.int .u8 z.2]
  | _ => []
def γZ (det : Bool) : Ctx := ⟨fun g => if g < 4 then .iptr (glAV g) else .any, det, false⟩

def tblZ : List (Option IFn) := [none, none, none, none, none, none, none, some i7, none, none, none, none, some i12, some i13, none, some i15, none, some i17, none, none, some i20, none, some i22, some i23, some i24, some i25, none, none, some i28, none, none, some i31, none, some i33, some i34, some i35, some i36, some i37, some i38, none, none, some i41, some i42, some i43, some i44, none, none, none, none, some i49, some i50, none, some i52, none, none, none, none, some i57, some i58, some i59, some i60, some i61, some i62, some i63, none, some i65, some i66, none, none, none, none, some i71, some i72, some i73, some i74, none, some i76, none, some i78, some i79, some i80, none, some i82, some i83, some i84, some i85, none, some i87, some i88, some i89, none, none, none, some i93, some i94, some i95, some i96, some i97, some i98, some i99, some i100, none, none, none, none, none, none, none, none, some i109, some i110, some i111, some i112, some i113, some i114, some i115, some i116, some i117, some i118, some i119, none, none, none, none, none, some i125, some i126, some i127, some i128, some i129, none, some i131, some i132, some i133, none, none, none, some i137, some i138, some i139, none, some i141, some i142, some i143, some i144, some i145, none, some i147, none, some i149, some i150, some i151, some i152, some i153, some i154, none, none, some i157, some i158, none, none, none, some i162, some i163, some i164, some i165, none, some i167, none, some i169, some i170, some i171, none, none, none, none, none, none, none, none, none, some i181]
theorem tblZ_ok : TbOkF Tryz.prog 0 tblZ := ⟨⟨_, _, i7_is⟩, ⟨⟨_, _, i12_is⟩, ⟨⟨_, _, i13_is⟩, ⟨⟨_, _, i15_is⟩, ⟨⟨_, _, i17_is⟩, ⟨⟨_, _, i20_is⟩, ⟨⟨_, _, i22_is⟩, ⟨⟨_, _, i23_is⟩, ⟨⟨_, _, i24_is⟩, ⟨⟨_, _, i25_is⟩, ⟨⟨_, _, i28_is⟩, ⟨⟨_, _, i31_is⟩, ⟨⟨_, _, i33_is⟩, ⟨⟨_, _, i34_is⟩, ⟨⟨_, _, i35_is⟩, ⟨⟨_, _, i36_is⟩, ⟨⟨_, _, i37_is⟩, ⟨⟨_, _, i38_is⟩, ⟨⟨_, _, i41_is⟩, ⟨⟨_, _, i42_is⟩, ⟨⟨_, _, i43_is⟩, ⟨⟨_, _, i44_is⟩, ⟨⟨_, _, i49_is⟩, ⟨⟨_, _, i50_is⟩, ⟨⟨_, _, i52_is⟩, ⟨⟨_, _, i57_is⟩, ⟨⟨_, _, i58_is⟩, ⟨⟨_, _, i59_is⟩, ⟨⟨_, _, i60_is⟩, ⟨⟨_, _, i61_is⟩, ⟨⟨_, _, i62_is⟩, ⟨⟨_, _, i63_is⟩, ⟨⟨_, _, i65_is⟩, ⟨⟨_, _, i66_is⟩, ⟨⟨_, _, i71_is⟩, ⟨⟨_, _, i72_is⟩, ⟨⟨_, _, i73_is⟩, ⟨⟨_, _, i74_is⟩, ⟨⟨_, _, i76_is⟩, ⟨⟨_, _, i78_is⟩, ⟨⟨_, _, i79_is⟩, ⟨⟨_, _, i80_is⟩, ⟨⟨_, _, i82_is⟩, ⟨⟨_, _, i83_is⟩, ⟨⟨_, _, i84_is⟩, ⟨⟨_, _, i85_is⟩, ⟨⟨_, _, i87_is⟩, ⟨⟨_, _, i88_is⟩, ⟨⟨_, _, i89_is⟩, ⟨⟨_, _, i93_is⟩, ⟨⟨_, _, i94_is⟩, ⟨⟨_, _, i95_is⟩, ⟨⟨_, _, i96_is⟩, ⟨⟨_, _, i97_is⟩, ⟨⟨_, _, i98_is⟩, ⟨⟨_, _, i99_is⟩, ⟨⟨_, _, i100_is⟩, ⟨⟨_, _, i109_is⟩, ⟨⟨_, _, i110_is⟩, ⟨⟨_, _, i111_is⟩, ⟨⟨_, _, i112_is⟩, ⟨⟨_, _, i113_is⟩, ⟨⟨_, _, i114_is⟩, ⟨⟨_, _, i115_is⟩, ⟨⟨_, _, i116_is⟩, ⟨⟨_, _, i117_is⟩, ⟨⟨_, _, i118_is⟩, ⟨⟨_, _, i119_is⟩, ⟨⟨_, _, i125_is⟩, ⟨⟨_, _, i126_is⟩, ⟨⟨_, _, i127_is⟩, ⟨⟨_, _, i128_is⟩, ⟨⟨_, _, i129_is⟩, ⟨⟨_, _, i131_is⟩, ⟨⟨_, _, i132_is⟩, ⟨⟨_, _, i133_is⟩, ⟨⟨_, _, i137_is⟩, ⟨⟨_, _, i138_is⟩, ⟨⟨_, _, i139_is⟩, ⟨⟨_, _, i141_is⟩, ⟨⟨_, _, i142_is⟩, ⟨⟨_, _, i143_is⟩, ⟨⟨_, _, i144_is⟩, ⟨⟨_, _, i145_is⟩, ⟨⟨_, _, i147_is⟩, ⟨⟨_, _, i149_is⟩, ⟨⟨_, _, i150_is⟩, ⟨⟨_, _, i151_is⟩, ⟨⟨_, _, i152_is⟩, ⟨⟨_, _, i153_is⟩, ⟨⟨_, _, i154_is⟩, ⟨⟨_, _, i157_is⟩, ⟨⟨_, _, i158_is⟩, ⟨⟨_, _, i162_is⟩, ⟨⟨_, _, i163_is⟩, ⟨⟨_, _, i164_is⟩, ⟨⟨_, _, i165_is⟩, ⟨⟨_, _, i167_is⟩, ⟨⟨_, _, i169_is⟩, ⟨⟨_, _, i170_is⟩, ⟨⟨_, _, i171_is⟩, ⟨⟨_, _, i181_is⟩, ⟨⟩⟩⟩⟩⟩⟩⟩⟩⟩⟩⟩⟩⟩⟩⟩⟩⟩⟩⟩⟩⟩⟩⟩⟩⟩⟩⟩⟩⟩⟩⟩⟩⟩⟩⟩⟩⟩⟩⟩⟩⟩⟩⟩⟩⟩⟩⟩⟩⟩⟩⟩⟩⟩⟩⟩⟩⟩⟩⟩⟩⟩⟩⟩⟩⟩⟩⟩⟩⟩⟩⟩⟩⟩⟩⟩⟩⟩⟩⟩⟩⟩⟩⟩⟩⟩⟩⟩⟩⟩⟩⟩⟩⟩⟩⟩⟩⟩⟩⟩⟩⟩⟩⟩

end Go.Proofs.Tryzv
