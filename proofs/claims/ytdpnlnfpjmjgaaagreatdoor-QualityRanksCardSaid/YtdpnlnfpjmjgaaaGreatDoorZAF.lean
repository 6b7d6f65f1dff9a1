/- Parts of the proof: QE2, QE3, QE4, QE, QDD, YC, YD, YE, YIa, YIb, YF, YGa, YB, YJ, YI, YGb, YK1, YGc. -/
import Derived.Test.YtdpnlnfpjmjgaaaGreatDoorZAE
import Derived.Test.YtdpnlnfpjmjgaaaGreatDoorZAD
import Derived.Test.YtdpnlnfpjmjgaaaGreatDoorZAC
section
/- Calls that awake makes, evaluated: part 2. -/
open Go Go.Vm Go.Proofs Sp
namespace Qq
noncomputable section
noncomputable def awk24 : Key := ([Value.agg #[Value.string { data := #[(110 : UInt8), (111 : UInt8), (114 : UInt8), (116 : UInt8), (104 : UInt8)] }, Value.slice (some { block := (0 : Nat), off := (0 : Nat) }) (6 : Nat) (6 : Nat), Value.slice (some { block := (1 : Nat), off := (0 : Nat) }) (1 : Nat) (1 : Nat)], Value.int IntKind.i64 (1 : Int), Value.int IntKind.i64 (1 : Int), Value.int IntKind.i64 (50 : Int)], some (AObj.row [Value.int IntKind.i64 (0 : Int), Value.int IntKind.i64 (100 : Int), Value.int IntKind.i64 (10 : Int), Value.int IntKind.i64 (120 : Int), Value.int IntKind.i64 (20 : Int), Value.int IntKind.i64 (140 : Int), Value.int IntKind.i64 (30 : Int), Value.int IntKind.i64 (60 : Int), Value.int IntKind.i64 (40 : Int), Value.int IntKind.i64 (66 : Int), Value.int IntKind.i64 (50 : Int), Value.int IntKind.i64 (75 : Int)] (2 : Nat) false true true) :: some (AObj.row [Value.int IntKind.i64 (25 : Int), Value.string { data := #[(116 : UInt8), (97 : UInt8), (109 : UInt8), (112 : UInt8), (105 : UInt8), (110 : UInt8), (103 : UInt8)] }] (2 : Nat) false true true) :: noH)
noncomputable def awr24 : Ans := (Value.tuple #[Value.agg #[Value.int IntKind.i64 (74 : Int), Value.int IntKind.i64 (1 : Int), Value.int IntKind.i64 (75 : Int), Value.int IntKind.i64 (1 : Int)], Value.int IntKind.i64 (0 : Int)], some (AObj.row [Value.int IntKind.i64 (0 : Int), Value.int IntKind.i64 (100 : Int), Value.int IntKind.i64 (10 : Int), Value.int IntKind.i64 (120 : Int), Value.int IntKind.i64 (20 : Int), Value.int IntKind.i64 (140 : Int), Value.int IntKind.i64 (30 : Int), Value.int IntKind.i64 (60 : Int), Value.int IntKind.i64 (40 : Int), Value.int IntKind.i64 (66 : Int), Value.int IntKind.i64 (50 : Int), Value.int IntKind.i64 (75 : Int)] (2 : Nat) false true true) :: some (AObj.row [Value.int IntKind.i64 (25 : Int), Value.string { data := #[(116 : UInt8), (97 : UInt8), (109 : UInt8), (112 : UInt8), (105 : UInt8), (110 : UInt8), (103 : UInt8)] }] (2 : Nat) false true true) :: noH)
theorem awt24 : runT Tryz.prog ctxA 29 awk24 = some awr24 := by kernel_rfl
noncomputable def awk25 : Key := ([Value.agg #[Value.string { data := #[(110 : UInt8), (111 : UInt8), (114 : UInt8), (116 : UInt8), (104 : UInt8)] }, Value.slice (some { block := (0 : Nat), off := (0 : Nat) }) (6 : Nat) (6 : Nat), Value.slice (some { block := (1 : Nat), off := (0 : Nat) }) (1 : Nat) (1 : Nat)], Value.int IntKind.i64 (1 : Int), Value.int IntKind.i64 (1 : Int), Value.int IntKind.i64 (60 : Int)], some (AObj.row [Value.int IntKind.i64 (0 : Int), Value.int IntKind.i64 (100 : Int), Value.int IntKind.i64 (10 : Int), Value.int IntKind.i64 (120 : Int), Value.int IntKind.i64 (20 : Int), Value.int IntKind.i64 (140 : Int), Value.int IntKind.i64 (30 : Int), Value.int IntKind.i64 (60 : Int), Value.int IntKind.i64 (40 : Int), Value.int IntKind.i64 (66 : Int), Value.int IntKind.i64 (50 : Int), Value.int IntKind.i64 (75 : Int)] (2 : Nat) false true true) :: some (AObj.row [Value.int IntKind.i64 (25 : Int), Value.string { data := #[(116 : UInt8), (97 : UInt8), (109 : UInt8), (112 : UInt8), (105 : UInt8), (110 : UInt8), (103 : UInt8)] }] (2 : Nat) false true true) :: noH)
noncomputable def awr25 : Ans := (Value.tuple #[Value.agg #[Value.int IntKind.i64 (81 : Int), Value.int IntKind.i64 (1 : Int), Value.int IntKind.i64 (83 : Int), Value.int IntKind.i64 (1 : Int)], Value.int IntKind.i64 (0 : Int)], some (AObj.row [Value.int IntKind.i64 (0 : Int), Value.int IntKind.i64 (100 : Int), Value.int IntKind.i64 (10 : Int), Value.int IntKind.i64 (120 : Int), Value.int IntKind.i64 (20 : Int), Value.int IntKind.i64 (140 : Int), Value.int IntKind.i64 (30 : Int), Value.int IntKind.i64 (60 : Int), Value.int IntKind.i64 (40 : Int), Value.int IntKind.i64 (66 : Int), Value.int IntKind.i64 (50 : Int), Value.int IntKind.i64 (75 : Int)] (2 : Nat) false true true) :: some (AObj.row [Value.int IntKind.i64 (25 : Int), Value.string { data := #[(116 : UInt8), (97 : UInt8), (109 : UInt8), (112 : UInt8), (105 : UInt8), (110 : UInt8), (103 : UInt8)] }] (2 : Nat) false true true) :: noH)
theorem awt25 : runT Tryz.prog ctxA 29 awk25 = some awr25 := by kernel_rfl
noncomputable def awk26 : Key := ([Value.agg #[Value.string { data := #[(110 : UInt8), (111 : UInt8), (114 : UInt8), (116 : UInt8), (104 : UInt8)] }, Value.slice (some { block := (0 : Nat), off := (0 : Nat) }) (6 : Nat) (6 : Nat), Value.slice (some { block := (1 : Nat), off := (0 : Nat) }) (1 : Nat) (1 : Nat)], Value.int IntKind.i64 (1 : Int), Value.int IntKind.i64 (0 : Int), Value.int IntKind.i64 (60 : Int)], some (AObj.row [Value.int IntKind.i64 (0 : Int), Value.int IntKind.i64 (100 : Int), Value.int IntKind.i64 (10 : Int), Value.int IntKind.i64 (120 : Int), Value.int IntKind.i64 (20 : Int), Value.int IntKind.i64 (140 : Int), Value.int IntKind.i64 (30 : Int), Value.int IntKind.i64 (60 : Int), Value.int IntKind.i64 (40 : Int), Value.int IntKind.i64 (66 : Int), Value.int IntKind.i64 (50 : Int), Value.int IntKind.i64 (75 : Int)] (2 : Nat) false true true) :: some (AObj.row [Value.int IntKind.i64 (25 : Int), Value.string { data := #[(116 : UInt8), (97 : UInt8), (109 : UInt8), (112 : UInt8), (105 : UInt8), (110 : UInt8), (103 : UInt8)] }] (2 : Nat) false true true) :: noH)
noncomputable def awr26 : Ans := (Value.tuple #[Value.agg #[Value.int IntKind.i64 (0 : Int), Value.int IntKind.i64 (0 : Int), Value.int IntKind.i64 (0 : Int), Value.int IntKind.i64 (0 : Int)], Value.int IntKind.i64 (18 : Int)], some (AObj.row [Value.int IntKind.i64 (0 : Int), Value.int IntKind.i64 (100 : Int), Value.int IntKind.i64 (10 : Int), Value.int IntKind.i64 (120 : Int), Value.int IntKind.i64 (20 : Int), Value.int IntKind.i64 (140 : Int), Value.int IntKind.i64 (30 : Int), Value.int IntKind.i64 (60 : Int), Value.int IntKind.i64 (40 : Int), Value.int IntKind.i64 (66 : Int), Value.int IntKind.i64 (50 : Int), Value.int IntKind.i64 (75 : Int)] (2 : Nat) false true true) :: some (AObj.row [Value.int IntKind.i64 (25 : Int), Value.string { data := #[(116 : UInt8), (97 : UInt8), (109 : UInt8), (112 : UInt8), (105 : UInt8), (110 : UInt8), (103 : UInt8)] }] (2 : Nat) false true true) :: noH)
theorem awt26 : runT Tryz.prog ctxA 29 awk26 = some awr26 := by kernel_rfl
noncomputable def awk27 : Key := ([Value.agg #[Value.string { data := #[(110 : UInt8), (111 : UInt8), (114 : UInt8), (116 : UInt8), (104 : UInt8)] }, Value.slice (some { block := (0 : Nat), off := (0 : Nat) }) (6 : Nat) (6 : Nat), Value.slice (some { block := (1 : Nat), off := (0 : Nat) }) (1 : Nat) (1 : Nat)], Value.int IntKind.i64 (1 : Int), Value.int IntKind.i64 (1 : Int), Value.int IntKind.i64 (90 : Int)], some (AObj.row [Value.int IntKind.i64 (0 : Int), Value.int IntKind.i64 (100 : Int), Value.int IntKind.i64 (10 : Int), Value.int IntKind.i64 (120 : Int), Value.int IntKind.i64 (20 : Int), Value.int IntKind.i64 (140 : Int), Value.int IntKind.i64 (30 : Int), Value.int IntKind.i64 (60 : Int), Value.int IntKind.i64 (40 : Int), Value.int IntKind.i64 (66 : Int), Value.int IntKind.i64 (50 : Int), Value.int IntKind.i64 (75 : Int)] (2 : Nat) false true true) :: some (AObj.row [Value.int IntKind.i64 (25 : Int), Value.string { data := #[(116 : UInt8), (97 : UInt8), (109 : UInt8), (112 : UInt8), (105 : UInt8), (110 : UInt8), (103 : UInt8)] }] (2 : Nat) false true true) :: noH)
noncomputable def awr27 : Ans := (Value.tuple #[Value.int IntKind.i64 (69 : Int), Value.int IntKind.i64 (0 : Int)], some (AObj.row [Value.int IntKind.i64 (0 : Int), Value.int IntKind.i64 (100 : Int), Value.int IntKind.i64 (10 : Int), Value.int IntKind.i64 (120 : Int), Value.int IntKind.i64 (20 : Int), Value.int IntKind.i64 (140 : Int), Value.int IntKind.i64 (30 : Int), Value.int IntKind.i64 (60 : Int), Value.int IntKind.i64 (40 : Int), Value.int IntKind.i64 (66 : Int), Value.int IntKind.i64 (50 : Int), Value.int IntKind.i64 (75 : Int)] (2 : Nat) false true true) :: some (AObj.row [Value.int IntKind.i64 (25 : Int), Value.string { data := #[(116 : UInt8), (97 : UInt8), (109 : UInt8), (112 : UInt8), (105 : UInt8), (110 : UInt8), (103 : UInt8)] }] (2 : Nat) false true true) :: noH)
theorem awt27 : runT Tryz.prog ctxA 30 awk27 = some awr27 := by kernel_rfl
end
end Qq
end
section
/- Calls that awake makes, evaluated: part 3. -/
open Go Go.Vm Go.Proofs Sp
namespace Qq
noncomputable section
noncomputable def awk28 : Key := ([Value.agg #[Value.string { data := #[(110 : UInt8), (111 : UInt8), (114 : UInt8), (116 : UInt8), (104 : UInt8)] }, Value.slice (some { block := (0 : Nat), off := (0 : Nat) }) (6 : Nat) (6 : Nat), Value.slice (some { block := (1 : Nat), off := (0 : Nat) }) (1 : Nat) (1 : Nat)], Value.int IntKind.i64 (1 : Int), Value.int IntKind.i64 (1 : Int), Value.int IntKind.i64 (90 : Int)], some (AObj.row [Value.int IntKind.i64 (0 : Int), Value.int IntKind.i64 (100 : Int), Value.int IntKind.i64 (10 : Int), Value.int IntKind.i64 (120 : Int), Value.int IntKind.i64 (20 : Int), Value.int IntKind.i64 (140 : Int), Value.int IntKind.i64 (30 : Int), Value.int IntKind.i64 (60 : Int), Value.int IntKind.i64 (40 : Int), Value.int IntKind.i64 (66 : Int), Value.int IntKind.i64 (50 : Int), Value.int IntKind.i64 (75 : Int)] (2 : Nat) false true true) :: some (AObj.row [Value.int IntKind.i64 (25 : Int), Value.string { data := #[(116 : UInt8), (97 : UInt8), (109 : UInt8), (112 : UInt8), (105 : UInt8), (110 : UInt8), (103 : UInt8)] }] (2 : Nat) false true true) :: noH)
noncomputable def awr28 : Ans := (Value.tuple #[Value.int IntKind.i64 (73 : Int), Value.int IntKind.i64 (0 : Int)], some (AObj.row [Value.int IntKind.i64 (0 : Int), Value.int IntKind.i64 (100 : Int), Value.int IntKind.i64 (10 : Int), Value.int IntKind.i64 (120 : Int), Value.int IntKind.i64 (20 : Int), Value.int IntKind.i64 (140 : Int), Value.int IntKind.i64 (30 : Int), Value.int IntKind.i64 (60 : Int), Value.int IntKind.i64 (40 : Int), Value.int IntKind.i64 (66 : Int), Value.int IntKind.i64 (50 : Int), Value.int IntKind.i64 (75 : Int)] (2 : Nat) false true true) :: some (AObj.row [Value.int IntKind.i64 (25 : Int), Value.string { data := #[(116 : UInt8), (97 : UInt8), (109 : UInt8), (112 : UInt8), (105 : UInt8), (110 : UInt8), (103 : UInt8)] }] (2 : Nat) false true true) :: noH)
theorem awt28 : runT Tryz.prog ctxA 31 awk28 = some awr28 := by kernel_rfl
noncomputable def awk29 : Key := ([Value.int IntKind.i64 (59 : Int)], noH)
noncomputable def awr29 : Ans := (Value.agg #[Value.int IntKind.i64 (59 : Int), Value.int IntKind.i64 (1 : Int)], noH)
theorem awt29 : runT Tryz.prog ctxA 25 awk29 = some awr29 := by kernel_rfl
noncomputable def awk30 : Key := ([Value.int IntKind.i64 (4 : Int), Value.int IntKind.i64 (5 : Int)], noH)
noncomputable def awr30 : Ans := (Value.agg #[Value.int IntKind.i64 (4 : Int), Value.int IntKind.i64 (5 : Int)], noH)
theorem awt30 : runT Tryz.prog ctxA 28 awk30 = some awr30 := by kernel_rfl
noncomputable def awk31 : Key := ([Value.agg #[Value.string { data := #[(110 : UInt8), (111 : UInt8), (114 : UInt8), (116 : UInt8), (104 : UInt8)] }, Value.slice (some { block := (0 : Nat), off := (0 : Nat) }) (6 : Nat) (6 : Nat), Value.slice (some { block := (1 : Nat), off := (0 : Nat) }) (1 : Nat) (1 : Nat)], Value.int IntKind.i64 (1 : Int), Value.int IntKind.i64 (1 : Int), Value.agg #[Value.int IntKind.i64 (30 : Int), Value.int IntKind.i64 (59 : Int), Value.int IntKind.i64 (1 : Int), Value.int IntKind.i64 (4 : Int), Value.int IntKind.i64 (5 : Int)]], some (AObj.row [Value.int IntKind.i64 (0 : Int), Value.int IntKind.i64 (100 : Int), Value.int IntKind.i64 (10 : Int), Value.int IntKind.i64 (120 : Int), Value.int IntKind.i64 (20 : Int), Value.int IntKind.i64 (140 : Int), Value.int IntKind.i64 (30 : Int), Value.int IntKind.i64 (60 : Int), Value.int IntKind.i64 (40 : Int), Value.int IntKind.i64 (66 : Int), Value.int IntKind.i64 (50 : Int), Value.int IntKind.i64 (75 : Int)] (2 : Nat) false true true) :: some (AObj.row [Value.int IntKind.i64 (25 : Int), Value.string { data := #[(116 : UInt8), (97 : UInt8), (109 : UInt8), (112 : UInt8), (105 : UInt8), (110 : UInt8), (103 : UInt8)] }] (2 : Nat) false true true) :: noH)
noncomputable def awr31 : Ans := (Value.tuple #[Value.bool true, Value.int IntKind.i64 (0 : Int)], some (AObj.row [Value.int IntKind.i64 (0 : Int), Value.int IntKind.i64 (100 : Int), Value.int IntKind.i64 (10 : Int), Value.int IntKind.i64 (120 : Int), Value.int IntKind.i64 (20 : Int), Value.int IntKind.i64 (140 : Int), Value.int IntKind.i64 (30 : Int), Value.int IntKind.i64 (60 : Int), Value.int IntKind.i64 (40 : Int), Value.int IntKind.i64 (66 : Int), Value.int IntKind.i64 (50 : Int), Value.int IntKind.i64 (75 : Int)] (2 : Nat) false true true) :: some (AObj.row [Value.int IntKind.i64 (25 : Int), Value.string { data := #[(116 : UInt8), (97 : UInt8), (109 : UInt8), (112 : UInt8), (105 : UInt8), (110 : UInt8), (103 : UInt8)] }] (2 : Nat) false true true) :: noH)
theorem awt31 : runT Tryz.prog ctxA 32 awk31 = some awr31 := by kernel_rfl
noncomputable def awk32 : Key := ([Value.int IntKind.i64 (60 : Int)], noH)
noncomputable def awr32 : Ans := (Value.agg #[Value.int IntKind.i64 (60 : Int), Value.int IntKind.i64 (1 : Int)], noH)
theorem awt32 : runT Tryz.prog ctxA 25 awk32 = some awr32 := by kernel_rfl
noncomputable def awk33 : Key := ([Value.agg #[Value.string { data := #[(110 : UInt8), (111 : UInt8), (114 : UInt8), (116 : UInt8), (104 : UInt8)] }, Value.slice (some { block := (0 : Nat), off := (0 : Nat) }) (6 : Nat) (6 : Nat), Value.slice (some { block := (1 : Nat), off := (0 : Nat) }) (1 : Nat) (1 : Nat)], Value.int IntKind.i64 (1 : Int), Value.int IntKind.i64 (1 : Int), Value.agg #[Value.int IntKind.i64 (30 : Int), Value.int IntKind.i64 (60 : Int), Value.int IntKind.i64 (1 : Int), Value.int IntKind.i64 (4 : Int), Value.int IntKind.i64 (5 : Int)]], some (AObj.row [Value.int IntKind.i64 (0 : Int), Value.int IntKind.i64 (100 : Int), Value.int IntKind.i64 (10 : Int), Value.int IntKind.i64 (120 : Int), Value.int IntKind.i64 (20 : Int), Value.int IntKind.i64 (140 : Int), Value.int IntKind.i64 (30 : Int), Value.int IntKind.i64 (60 : Int), Value.int IntKind.i64 (40 : Int), Value.int IntKind.i64 (66 : Int), Value.int IntKind.i64 (50 : Int), Value.int IntKind.i64 (75 : Int)] (2 : Nat) false true true) :: some (AObj.row [Value.int IntKind.i64 (25 : Int), Value.string { data := #[(116 : UInt8), (97 : UInt8), (109 : UInt8), (112 : UInt8), (105 : UInt8), (110 : UInt8), (103 : UInt8)] }] (2 : Nat) false true true) :: noH)
noncomputable def awr33 : Ans := (Value.tuple #[Value.bool false, Value.int IntKind.i64 (0 : Int)], some (AObj.row [Value.int IntKind.i64 (0 : Int), Value.int IntKind.i64 (100 : Int), Value.int IntKind.i64 (10 : Int), Value.int IntKind.i64 (120 : Int), Value.int IntKind.i64 (20 : Int), Value.int IntKind.i64 (140 : Int), Value.int IntKind.i64 (30 : Int), Value.int IntKind.i64 (60 : Int), Value.int IntKind.i64 (40 : Int), Value.int IntKind.i64 (66 : Int), Value.int IntKind.i64 (50 : Int), Value.int IntKind.i64 (75 : Int)] (2 : Nat) false true true) :: some (AObj.row [Value.int IntKind.i64 (25 : Int), Value.string { data := #[(116 : UInt8), (97 : UInt8), (109 : UInt8), (112 : UInt8), (105 : UInt8), (110 : UInt8), (103 : UInt8)] }] (2 : Nat) false true true) :: noH)
theorem awt33 : runT Tryz.prog ctxA 32 awk33 = some awr33 := by kernel_rfl
end
end Qq
end
section
/- Calls that awake makes, evaluated: part 4. -/
open Go Go.Vm Go.Proofs Sp
namespace Qq
noncomputable section
noncomputable def awk34 : Key := ([Value.slice (some { block := (0 : Nat), off := (0 : Nat) }) (3 : Nat) (3 : Nat), Value.int IntKind.i64 (90 : Int)], some (AObj.row [Value.string { data := #[(111 : UInt8), (110 : UInt8), (101 : UInt8)] }, Value.slice (some { block := (1 : Nat), off := (0 : Nat) }) (1 : Nat) (1 : Nat), Value.slice none (0 : Nat) (0 : Nat), Value.string { data := #[(110 : UInt8), (111 : UInt8), (114 : UInt8), (116 : UInt8), (104 : UInt8)] }, Value.slice (some { block := (2 : Nat), off := (0 : Nat) }) (6 : Nat) (6 : Nat), Value.slice (some { block := (3 : Nat), off := (0 : Nat) }) (1 : Nat) (1 : Nat), Value.string { data := #[(116 : UInt8), (119 : UInt8), (111 : UInt8)] }, Value.slice (some { block := (4 : Nat), off := (0 : Nat) }) (2 : Nat) (2 : Nat), Value.slice none (0 : Nat) (0 : Nat)] (3 : Nat) false true false) :: some (AObj.row [Value.int IntKind.i64 (5 : Int), Value.int IntKind.i64 (99 : Int)] (2 : Nat) false true true) :: some (AObj.row [Value.int IntKind.i64 (0 : Int), Value.int IntKind.i64 (100 : Int), Value.int IntKind.i64 (10 : Int), Value.int IntKind.i64 (120 : Int), Value.int IntKind.i64 (20 : Int), Value.int IntKind.i64 (140 : Int), Value.int IntKind.i64 (30 : Int), Value.int IntKind.i64 (60 : Int), Value.int IntKind.i64 (40 : Int), Value.int IntKind.i64 (66 : Int), Value.int IntKind.i64 (50 : Int), Value.int IntKind.i64 (75 : Int)] (2 : Nat) false true true) :: some (AObj.row [Value.int IntKind.i64 (25 : Int), Value.string { data := #[(116 : UInt8), (97 : UInt8), (109 : UInt8), (112 : UInt8), (105 : UInt8), (110 : UInt8), (103 : UInt8)] }] (2 : Nat) false true true) :: some (AObj.row [Value.int IntKind.i64 (0 : Int), Value.int IntKind.i64 (80 : Int), Value.int IntKind.i64 (10 : Int), Value.int IntKind.i64 (85 : Int)] (2 : Nat) false true true) :: noH)
noncomputable def awr34 : Ans := (Value.tuple #[Value.slice (some { block := (5 : Nat), off := (0 : Nat) }) (3 : Nat) (0 : Nat), Value.int IntKind.i64 (0 : Int)], some (AObj.row [Value.string { data := #[(111 : UInt8), (110 : UInt8), (101 : UInt8)] }, Value.slice (some { block := (1 : Nat), off := (0 : Nat) }) (1 : Nat) (1 : Nat), Value.slice none (0 : Nat) (0 : Nat), Value.string { data := #[(110 : UInt8), (111 : UInt8), (114 : UInt8), (116 : UInt8), (104 : UInt8)] }, Value.slice (some { block := (2 : Nat), off := (0 : Nat) }) (6 : Nat) (6 : Nat), Value.slice (some { block := (3 : Nat), off := (0 : Nat) }) (1 : Nat) (1 : Nat), Value.string { data := #[(116 : UInt8), (119 : UInt8), (111 : UInt8)] }, Value.slice (some { block := (4 : Nat), off := (0 : Nat) }) (2 : Nat) (2 : Nat), Value.slice none (0 : Nat) (0 : Nat)] (3 : Nat) false true false) :: some (AObj.row [Value.int IntKind.i64 (5 : Int), Value.int IntKind.i64 (99 : Int)] (2 : Nat) false true true) :: some (AObj.row [Value.int IntKind.i64 (0 : Int), Value.int IntKind.i64 (100 : Int), Value.int IntKind.i64 (10 : Int), Value.int IntKind.i64 (120 : Int), Value.int IntKind.i64 (20 : Int), Value.int IntKind.i64 (140 : Int), Value.int IntKind.i64 (30 : Int), Value.int IntKind.i64 (60 : Int), Value.int IntKind.i64 (40 : Int), Value.int IntKind.i64 (66 : Int), Value.int IntKind.i64 (50 : Int), Value.int IntKind.i64 (75 : Int)] (2 : Nat) false true true) :: some (AObj.row [Value.int IntKind.i64 (25 : Int), Value.string { data := #[(116 : UInt8), (97 : UInt8), (109 : UInt8), (112 : UInt8), (105 : UInt8), (110 : UInt8), (103 : UInt8)] }] (2 : Nat) false true true) :: some (AObj.row [Value.int IntKind.i64 (0 : Int), Value.int IntKind.i64 (80 : Int), Value.int IntKind.i64 (10 : Int), Value.int IntKind.i64 (85 : Int)] (2 : Nat) false true true) :: some (AObj.row [Value.int IntKind.i64 (2 : Int), Value.int IntKind.i64 (1 : Int), Value.int IntKind.i64 (0 : Int)] (1 : Nat) true true true) :: noH)
theorem awt34 : runT Tryz.prog ctxA 6 awk34 = some awr34 := by kernel_rfl
noncomputable def awk35 : Key := ([Value.agg #[Value.string { data := #[(110 : UInt8), (111 : UInt8), (114 : UInt8), (116 : UInt8), (104 : UInt8)] }, Value.slice (some { block := (0 : Nat), off := (0 : Nat) }) (1 : Nat) (6 : Nat), Value.slice (some { block := (1 : Nat), off := (0 : Nat) }) (1 : Nat) (1 : Nat)]], some (AObj.row [Value.int IntKind.i64 (0 : Int), Value.int IntKind.i64 (100 : Int), Value.int IntKind.i64 (10 : Int), Value.int IntKind.i64 (120 : Int), Value.int IntKind.i64 (20 : Int), Value.int IntKind.i64 (140 : Int), Value.int IntKind.i64 (30 : Int), Value.int IntKind.i64 (60 : Int), Value.int IntKind.i64 (40 : Int), Value.int IntKind.i64 (66 : Int), Value.int IntKind.i64 (50 : Int), Value.int IntKind.i64 (75 : Int)] (2 : Nat) false true true) :: some (AObj.row [Value.int IntKind.i64 (25 : Int), Value.string { data := #[(116 : UInt8), (97 : UInt8), (109 : UInt8), (112 : UInt8), (105 : UInt8), (110 : UInt8), (103 : UInt8)] }] (2 : Nat) false true true) :: noH)
noncomputable def awr35 : Ans := (Value.tuple #[Value.string { data := #[(115 : UInt8), (101 : UInt8), (99 : UInt8), (116 : UInt8), (105 : UInt8), (111 : UInt8), (110 : UInt8), (32 : UInt8), (110 : UInt8), (111 : UInt8), (114 : UInt8), (116 : UInt8), (104 : UInt8), (10 : UInt8), (109 : UInt8), (101 : UInt8), (97 : UInt8), (115 : UInt8), (117 : UInt8), (114 : UInt8), (101 : UInt8), (100 : UInt8), (32 : UInt8), (48 : UInt8), (32 : UInt8), (49 : UInt8), (48 : UInt8), (48 : UInt8), (10 : UInt8), (97 : UInt8), (99 : UInt8), (116 : UInt8), (32 : UInt8), (50 : UInt8), (53 : UInt8), (32 : UInt8), (116 : UInt8), (97 : UInt8), (109 : UInt8), (112 : UInt8), (105 : UInt8), (110 : UInt8), (103 : UInt8), (10 : UInt8)] }, Value.int IntKind.i64 (0 : Int)], some (AObj.row [Value.int IntKind.i64 (0 : Int), Value.int IntKind.i64 (100 : Int), Value.int IntKind.i64 (10 : Int), Value.int IntKind.i64 (120 : Int), Value.int IntKind.i64 (20 : Int), Value.int IntKind.i64 (140 : Int), Value.int IntKind.i64 (30 : Int), Value.int IntKind.i64 (60 : Int), Value.int IntKind.i64 (40 : Int), Value.int IntKind.i64 (66 : Int), Value.int IntKind.i64 (50 : Int), Value.int IntKind.i64 (75 : Int)] (2 : Nat) false true true) :: some (AObj.row [Value.int IntKind.i64 (25 : Int), Value.string { data := #[(116 : UInt8), (97 : UInt8), (109 : UInt8), (112 : UInt8), (105 : UInt8), (110 : UInt8), (103 : UInt8)] }] (2 : Nat) false true true) :: noH)
theorem awt35 : runT Tryz.prog ctxA 33 awk35 = some awr35 := by kernel_rfl
noncomputable def awk36 : Key := ([Value.int IntKind.i64 (74 : Int)], noH)
noncomputable def awr36 : Ans := (Value.agg #[Value.int IntKind.i64 (74 : Int), Value.int IntKind.i64 (1 : Int)], noH)
theorem awt36 : runT Tryz.prog ctxA 25 awk36 = some awr36 := by kernel_rfl
noncomputable def awk37 : Key := ([Value.int IntKind.i64 (75 : Int)], noH)
noncomputable def awr37 : Ans := (Value.agg #[Value.int IntKind.i64 (75 : Int), Value.int IntKind.i64 (1 : Int)], noH)
theorem awt37 : runT Tryz.prog ctxA 25 awk37 = some awr37 := by kernel_rfl
noncomputable def awk38 : Key := ([Value.int IntKind.i64 (81 : Int)], noH)
noncomputable def awr38 : Ans := (Value.agg #[Value.int IntKind.i64 (81 : Int), Value.int IntKind.i64 (1 : Int)], noH)
theorem awt38 : runT Tryz.prog ctxA 25 awk38 = some awr38 := by kernel_rfl
noncomputable def awk39 : Key := ([Value.int IntKind.i64 (83 : Int)], noH)
noncomputable def awr39 : Ans := (Value.agg #[Value.int IntKind.i64 (83 : Int), Value.int IntKind.i64 (1 : Int)], noH)
theorem awt39 : runT Tryz.prog ctxA 25 awk39 = some awr39 := by kernel_rfl
noncomputable def awk40 : Key := ([Value.slice (some { block := (0 : Nat), off := (0 : Nat) }) (3 : Nat) (0 : Nat), Value.slice (some { block := (1 : Nat), off := (0 : Nat) }) (3 : Nat) (3 : Nat)], some (AObj.row [Value.int IntKind.i64 (2 : Int), Value.int IntKind.i64 (1 : Int), Value.int IntKind.i64 (0 : Int)] (1 : Nat) true true true) :: some (AObj.row [Value.int IntKind.i64 (2 : Int), Value.int IntKind.i64 (1 : Int), Value.int IntKind.i64 (0 : Int)] (1 : Nat) false true true) :: noH)
noncomputable def awr40 : Ans := (Value.bool true, some (AObj.row [Value.int IntKind.i64 (2 : Int), Value.int IntKind.i64 (1 : Int), Value.int IntKind.i64 (0 : Int)] (1 : Nat) true true true) :: some (AObj.row [Value.int IntKind.i64 (2 : Int), Value.int IntKind.i64 (1 : Int), Value.int IntKind.i64 (0 : Int)] (1 : Nat) false true true) :: noH)
theorem awt40 : runT Tryz.prog ctxA 26 awk40 = some awr40 := by kernel_rfl
end
end Qq
end
section
/- awake returns true. -/
open Go Go.Vm Go.Proofs Sp
namespace Qq
noncomputable section
noncomputable def awo102 : Orc := orcC [(awk0, awr0)]
theorem awok102 : Ok Tryz.prog 14 awo102 := okC (allC_cons (runT_ok hm ctxA_ok awt0) allC_nil)
noncomputable def awo20 : Orc := orcC [(awk1, awr1)]
theorem awok20 : Ok Tryz.prog 13 awo20 := okC (allC_cons (runT_ok hm ctxA_ok awt1) allC_nil)
noncomputable def awo78 : Orc := orcC [(awk2, awr2)]
theorem awok78 : Ok Tryz.prog 15 awo78 := okC (allC_cons (runT_ok hm ctxA_ok awt2) allC_nil)
noncomputable def awo25 : Orc := orcC [(awk3, awr3)]
theorem awok25 : Ok Tryz.prog 16 awo25 := okC (allC_cons (runT_ok hm ctxA_ok awt3) allC_nil)
noncomputable def awo26 : Orc := orcC [(awk4, awr4)]
theorem awok26 : Ok Tryz.prog 17 awo26 := okC (allC_cons (runT_ok hm ctxA_ok awt4) allC_nil)
noncomputable def awo27 : Orc := orcC [(awk5, awr5)]
theorem awok27 : Ok Tryz.prog 18 awo27 := okC (allC_cons (runT_ok hm ctxA_ok awt5) allC_nil)
noncomputable def awo103 : Orc := orcC [(awk6, awr6)]
theorem awok103 : Ok Tryz.prog 20 awo103 := okC (allC_cons (runT_ok hm ctxA_ok awt6) allC_nil)
noncomputable def awo36 : Orc := orcC [(awk7, awr7)]
theorem awok36 : Ok Tryz.prog 19 awo36 := okC (allC_cons (runT_ok hm ctxA_ok awt7) allC_nil)
noncomputable def awo41 : Orc := orcC [(awk8, awr8), (awk9, awr9)]
theorem awok41 : Ok Tryz.prog 21 awo41 := okC (allC_cons (runT_ok hm ctxA_ok awt8) (allC_cons (runT_ok hm ctxA_ok awt9) allC_nil))
noncomputable def awo42 : Orc := orcC [(awk10, awr10)]
theorem awok42 : Ok Tryz.prog 22 awo42 := okC (allC_cons (runT_ok hm ctxA_ok awt10) allC_nil)
noncomputable def awo52 : Orc := orcC [(awk11, awr11)]
theorem awok52 : Ok Tryz.prog 23 awo52 := okC (allC_cons (runT_ok hm ctxA_ok awt11) allC_nil)
noncomputable def awo43 : Orc := orcC [(awk12, awr12), (awk13, awr13)]
theorem awok43 : Ok Tryz.prog 24 awo43 := okC (allC_cons (runT_ok hm ctxA_ok awt12) (allC_cons (runT_ok hm ctxA_ok awt13) allC_nil))
noncomputable def awo75 : Orc := orcC [(awk14, awr14), (awk18, awr18), (awk19, awr19), (awk22, awr22), (awk29, awr29), (awk32, awr32), (awk36, awr36), (awk37, awr37), (awk38, awr38), (awk39, awr39)]
theorem awok75 : Ok Tryz.prog 25 awo75 := okC (allC_cons (runT_ok hm ctxA_ok awt14) (allC_cons (runT_ok hm ctxA_ok awt18) (allC_cons (runT_ok hm ctxA_ok awt19) (allC_cons (runT_ok hm ctxA_ok awt22) (allC_cons (runT_ok hm ctxA_ok awt29) (allC_cons (runT_ok hm ctxA_ok awt32) (allC_cons (runT_ok hm ctxA_ok awt36) (allC_cons (runT_ok hm ctxA_ok awt37) (allC_cons (runT_ok hm ctxA_ok awt38) (allC_cons (runT_ok hm ctxA_ok awt39) allC_nil))))))))))
noncomputable def awo104 : Orc := orcC [(awk15, awr15), (awk40, awr40)]
theorem awok104 : Ok Tryz.prog 26 awo104 := okC (allC_cons (runT_ok hm ctxA_ok awt15) (allC_cons (runT_ok hm ctxA_ok awt40) allC_nil))
noncomputable def awo34 : Orc := orcC [(awk16, awr16), (awk17, awr17)]
theorem awok34 : Ok Tryz.prog 27 awo34 := okC (allC_cons (runT_ok hm ctxA_ok awt16) (allC_cons (runT_ok hm ctxA_ok awt17) allC_nil))
noncomputable def awo105 : Orc := orcC [(awk20, awr20), (awk21, awr21), (awk23, awr23), (awk30, awr30)]
theorem awok105 : Ok Tryz.prog 28 awo105 := okC (allC_cons (runT_ok hm ctxA_ok awt20) (allC_cons (runT_ok hm ctxA_ok awt21) (allC_cons (runT_ok hm ctxA_ok awt23) (allC_cons (runT_ok hm ctxA_ok awt30) allC_nil))))
noncomputable def awo58 : Orc := orcC [(awk24, awr24), (awk25, awr25), (awk26, awr26)]
theorem awok58 : Ok Tryz.prog 29 awo58 := okC (allC_cons (runT_ok hm ctxA_ok awt24) (allC_cons (runT_ok hm ctxA_ok awt25) (allC_cons (runT_ok hm ctxA_ok awt26) allC_nil)))
noncomputable def awo59 : Orc := orcC [(awk27, awr27)]
theorem awok59 : Ok Tryz.prog 30 awo59 := okC (allC_cons (runT_ok hm ctxA_ok awt27) allC_nil)
noncomputable def awo60 : Orc := orcC [(awk28, awr28)]
theorem awok60 : Ok Tryz.prog 31 awo60 := okC (allC_cons (runT_ok hm ctxA_ok awt28) allC_nil)
noncomputable def awo54 : Orc := orcC [(awk31, awr31), (awk33, awr33)]
theorem awok54 : Ok Tryz.prog 32 awo54 := okC (allC_cons (runT_ok hm ctxA_ok awt31) (allC_cons (runT_ok hm ctxA_ok awt33) allC_nil))
noncomputable def awo66 : Orc := orcC [(awk34, awr34)]
theorem awok66 : Ok Tryz.prog 6 awo66 := okC (allC_cons (runT_ok hm ctxA_ok awt34) allC_nil)
noncomputable def awo97 : Orc := orcC [(awk35, awr35)]
theorem awok97 : Ok Tryz.prog 33 awo97 := okC (allC_cons (runT_ok hm ctxA_ok awt35) allC_nil)
noncomputable def awtab : List (Nat × Orc) := [(14, awo102), (13, awo20), (15, awo78), (16, awo25), (17, awo26), (18, awo27), (20, awo103), (19, awo36), (21, awo41), (22, awo42), (23, awo52), (24, awo43), (25, awo75), (26, awo104), (27, awo34), (28, awo105), (29, awo58), (30, awo59), (31, awo60), (32, awo54), (6, awo66), (33, awo97)]
theorem awall : ∀ p ∈ awtab, Ok Tryz.prog p.1 p.2 := (all_cons awok102 (all_cons awok20 (all_cons awok78 (all_cons awok25 (all_cons awok26 (all_cons awok27 (all_cons awok103 (all_cons awok36 (all_cons awok41 (all_cons awok42 (all_cons awok52 (all_cons awok43 (all_cons awok75 (all_cons awok104 (all_cons awok34 (all_cons awok105 (all_cons awok58 (all_cons awok59 (all_cons awok60 (all_cons awok54 (all_cons awok66 (all_cons awok97 all_nil))))))))))))))))))))))
noncomputable def cAw : CallF := ctx Tryz.prog awtab
theorem cAw_ok : CallOK Tryz.prog cAw := ctx_ok hm awall
theorem awake_t : runT Tryz.prog cAw 4 ([], []) = some (.bool true, []) := by kernel_rfl
theorem okTrue : Ok Tryz.prog 4 orcTrue := by
  intro args H ret H' h
  unfold orcTrue at h
  split at h
  · cases h; exact runT_ok hm cAw_ok awake_t
  · cases h
end
end Qq
end
section
/- The law about lines: its own functions. -/
open Go Go.Vm Go.Proofs Sp
namespace Qq
noncomputable section
noncomputable def orcReRV (zs : List Int) (ks : List (Int × ByteArray)) : OrcV
  | [.agg ⟨[.string _nm, .slice (some ⟨0, 0, none⟩) n _c, .slice (some ⟨1, 0, none⟩) k _d]⟩, .int .i64 p, .int .i64 l], [some (.row e1 2 false false true), some (.row e2 2 false false true)] =>
    some (.tuple #[.int .i64 (gz (wh (!rdB zs ks n k p l) 7) (rdN zs ks n k p l)), .int .i64 (wh (!rdB zs ks n k p l) 7)], [some (.row e1 2 false false true), some (.row e2 2 false false true)], isPer zs ks n k p e1 e2 ∧ 2 ≤ pm zs ks n k p ∧ 0 ≤ l ∧ l ≤ 100000)
  | _, _ => none
theorem reR_okV (zs : List Int) (ks : List (Int × ByteArray)) : OkV Tryz.prog 94 (orcReRV zs ks) := by
  intro args H ret H' vc h hv
  unfold orcReRV at h
  split at h
  · cases h
    obtain ⟨⟨⟨rfl, rfl, h1⟩, h2⟩, h3, h4, h5⟩ := hv
    exact reR_ok ⟨⟨rfl, rfl, h1⟩, h2⟩ h3 h4 h5
  · cases h
noncomputable def orcFewV (zs : List Int) (ks : List (Int × ByteArray)) : OrcV
  | [.agg ⟨[.string _nm, .slice (some ⟨0, 0, none⟩) n _c, .slice (some ⟨1, 0, none⟩) k _d]⟩, .int .i64 p], [some (.row e1 2 false false true), some (.row e2 2 false false true)] =>
    some (.int .i64 (wh (decide (pm zs ks n k p < 2)) 16), [some (.row e1 2 false false true), some (.row e2 2 false false true)], isPer zs ks n k p e1 e2)
  | _, _ => none
theorem few_okV (zs : List Int) (ks : List (Int × ByteArray)) : OkV Tryz.prog 93 (orcFewV zs ks) := by
  intro args H ret H' vc h hv
  unfold orcFewV at h
  split at h
  · rename_i nm n c k d p e1 e2
    cases h
    obtain ⟨⟨rfl, rfl, h1⟩, h2⟩ := hv
    refine fnP_res hm cr2_ok (hs := hsFew zs ks) ?_
    show fnP Tryz.prog cr2 (hsFew zs ks) 93 [.agg (secA nm 0 n c 1 k d).toArray, .int .i64 p] (hp2 zs ks false false false false []) _
    rw [few_t]
    have e : decide ((pm zs ks n k p : Int) < 2) = decide (pm zs ks n k p < 2) := by
      rw [decide_eq_decide]; omega
    rw [e]
    exact ⟨⟨⟨rfl, rfl, h1⟩, h2⟩, by first | trivial | rfl, by first | trivial | rfl⟩
  · cases h
noncomputable def i0 : Value := .int .i64 0
end
end Qq
end
section
/- The day on which a section is due. -/
open Go Go.Vm Go.Proofs Sp
namespace Qq
noncomputable section
noncomputable def hsDu (zs : List Int) (ks : List (Int × ByteArray)) : Hs Tryz.prog where
  au := auCalls [(93, hCa Tryz.prog 93 (orcFewV zs ks) (few_okV zs ks)), (94, hCa Tryz.prog 94 (orcReRV zs ks) (reR_okV zs ks))]
theorem du_t (nm : ByteArray) (zs : List Int) (ks : List (Int × ByteArray)) (n : Nat) (c : Nat) (k : Nat) (d : Nat) (x : Int) (K : Value → Heap → Prop) :
    (fnP Tryz.prog c0 (hsDu zs ks) (47 : FuncId) [Value.agg (List.toArray (secA nm (0 : Nat) n c (1 : Nat) k d)), Value.int IntKind.i64 x] (hp2 zs ks false false false false []) K) =
    (Is (isPer zs ks n k (↑k : Int) (ints zs) (acs ks)) ∧ br (wh (decide (pm zs ks n k (↑k : Int) < (2 : Nat))) (16 : Int) != (0 : Int)) (K (Value.int IntKind.i64 (100001 : Int)) (some (AObj.row (ints zs) (2 : Nat) false false true) :: some (AObj.row (acs ks) (2 : Nat) false false true) :: noH)) (Is (isPer zs ks n k (↑k : Int) (ints zs) (acs ks) ∧ (2 : Nat) ≤ pm zs ks n k (↑k : Int) ∧ (0 : Int) ≤ x ∧ x ≤ (100000 : Int)) ∧ br (wh (!rdB zs ks n k (↑k : Int) x) (7 : Int) != (0 : Int)) (K (Value.int IntKind.i64 (100001 : Int)) (some (AObj.row (ints zs) (2 : Nat) false false true) :: some (AObj.row (acs ks) (2 : Nat) false false true) :: noH)) (K (Value.int IntKind.i64 (gz (wh (!rdB zs ks n k (↑k : Int) x) (7 : Int)) (rdN zs ks n k (↑k : Int) x))) (some (AObj.row (ints zs) (2 : Nat) false false true) :: some (AObj.row (acs ks) (2 : Nat) false false true) :: noH)))) := by kernel_rfl
theorem du_ok {nm : ByteArray} {zs : List Int} {ks : List (Int × ByteArray)} {n c k d : Nat} {x : Int} (h : isPer zs ks n k (k : Int) (ints zs) (acs ks)) (h0 : 0 ≤ x) (h1 : x ≤ 100000) :
    SmallRes Tryz.prog 47 [.agg (secA nm 0 n c 1 k d).toArray, .int .i64 x] (hp2 zs ks false false false false []) (.int .i64 (duN zs ks n k x)) (hp2 zs ks false false false false []) := by
  refine fnP_res hm c0_ok (hs := hsDu zs ks) ?_
  show fnP Tryz.prog c0 (hsDu zs ks) 47 _ _ _
  rw [du_t, duN, rdE]
  refine ⟨⟨h⟩, ?_⟩
  by_cases h2 : pm zs ks n k (k : Int) < 2
  · rw [decide_eq_true h2]
    have e : sel (wh true 16) (wh (!rdB zs ks n k (k : Int) x) 7) = 16 := by rw [sel]; exact if_neg (by decide)
    exact ⟨by rw [e, if_neg (by decide)], rfl⟩
  · rw [decide_eq_false h2]
    refine ⟨⟨h, by omega, h0, h1⟩, ?_⟩
    cases rdB zs ks n k (k : Int) x
    · exact ⟨by rw [if_neg (by decide)], rfl⟩
    · exact ⟨by rw [if_pos (by decide), gz, if_pos (by decide)], rfl⟩
/-- A good section of a list. -/
def okP (l : Ls) (i : Nat) : Prop := isPer (l.zs i) (l.ks i) (l.N i) (l.K i) (l.K i : Int) (ints (l.zs i)) (acs (l.ks i))
def oneI : List Value → Option (List Value)
  | [.int .i64 x] => some [.int .i64 x]
  | _ => none
def limIs (x : Int) : List Value → Prop
  | [.int .i64 y] => y = x
  | _ => False
noncomputable def selDu (l : Ls) (x : Int) : Sel := selS (fun i => .int .i64 (dI l x i)) oneI (fun i t => okP l i ∧ limIs x t ∧ 0 ≤ x ∧ x ≤ 100000) l
theorem selDu_ok (l : Ls) (x : Int) : ∀ ar ids a0 H0 ret vc, selDu l x ar = some (ids, a0, H0, ret, vc) → vc → SmallRes Tryz.prog 47 a0 H0 ret H0 := by
  intro ar ids a0 H0 ret vc h hv
  unfold selDu selS at h
  split at h
  · rename_i nm j n c k m d t
    split at h
    · rename_i t' ht
      cases h
      obtain ⟨⟨rfl, rfl, rfl⟩, h1, h2, h3, h4⟩ := hv
      unfold oneI at ht
      split at ht
      · rename_i y
        cases ht
        have h2 : y = x := h2
        subst h2
        exact du_ok h1 h3 h4
      · cases ht
    · cases h
  · cases h

end
end Qq
end
section
/- Comparing what is due. -/
open Go Go.Vm Go.Proofs Sp
namespace Sp
noncomputable section
noncomputable def cmI (a b : Int) : Int := if a < b then -1 else if b < a then 1 else 0
noncomputable def dueV (d k : Int) : Value := .agg #[poi, poi, poi, .int .i64 d, .int .i64 k]
end
end Sp
namespace Qq
noncomputable section
noncomputable def orcNan : OrcV
  | [.int .i64 _], [] => some (.bool false, [], True)
  | _, _ => none
noncomputable def orcCmI : OrcV
  | [.int .i64 a, .int .i64 b], [] => some (.int .i64 (cmI a b), [], True)
  | _, _ => none
noncomputable def orcOr : OrcV
  | [.slice (some ⟨0, 0, none⟩) 2 _], [some (.row [.int .i64 a, .int .i64 b] 1 false true true)] => some (.int .i64 (sel a b), [some (.row [.int .i64 a, .int .i64 b] 1 false true true)], True)
  | _, _ => none
noncomputable def hsNo : Hs Tryz.prog where
  au := au0 Tryz.prog
theorem nan_t (a : Int) (K : Value → Heap → Prop) :
    (fnP Tryz.prog c0 hsNo (128 : FuncId) [Value.int IntKind.i64 a] [] K) =
    (K (Value.bool (a != a)) noH) := by kernel_rfl
theorem or_t (a : Int) (b : Int) (c : Nat) (K : Value → Heap → Prop) :
    (fnP Tryz.prog c0 hsNo (87 : FuncId) [Value.slice (some { block := (0 : Nat), off := (0 : Nat) }) (2 : Nat) c] [some (AObj.row [Value.int IntKind.i64 a, Value.int IntKind.i64 b] (1 : Nat) false true true)] K) =
    (br (a != (0 : Int)) (K (Value.int IntKind.i64 a) (some (AObj.row [Value.int IntKind.i64 a, Value.int IntKind.i64 b] (1 : Nat) false true true) :: noH)) (br (b != (0 : Int)) (K (Value.int IntKind.i64 b) (some (AObj.row [Value.int IntKind.i64 a, Value.int IntKind.i64 b] (1 : Nat) false true true) :: noH)) (K (Value.int IntKind.i64 (0 : Int)) (some (AObj.row [Value.int IntKind.i64 a, Value.int IntKind.i64 b] (1 : Nat) false true true) :: noH)))) := by kernel_rfl
theorem okNan : OkV Tryz.prog 128 orcNan := by
  intro args H ret H' vc h hv
  unfold orcNan at h
  split at h
  · rename_i a
    cases h
    refine fnP_res hm c0_ok (hs := hsNo) ?_
    rw [nan_t]
    exact ⟨by simp, rfl⟩
  · cases h
noncomputable def hsCm : Hs Tryz.prog where
  au := auCalls [(128, hCa Tryz.prog 128 orcNan okNan)]
theorem cm_t (a : Int) (b : Int) (K : Value → Heap → Prop) :
    (fnP Tryz.prog c0 hsCm (88 : FuncId) [Value.int IntKind.i64 a, Value.int IntKind.i64 b] [] K) =
    (Is True ∧ Is True ∧ br (decide (a < b)) (K (Value.int IntKind.i64 (-1 : Int)) noH) (br (decide (b < a)) (K (Value.int IntKind.i64 (1 : Int)) noH) (K (Value.int IntKind.i64 (0 : Int)) noH))) := by kernel_rfl
theorem okOr : OkV Tryz.prog 87 orcOr := by
  intro args H ret H' vc h hv
  unfold orcOr at h
  split at h
  · rename_i c a b
    cases h
    refine fnP_res hm c0_ok (hs := hsNo) ?_
    rw [or_t, sel]
    refine br_of (fun h => ?_) (fun h => br_of (fun h2 => ?_) (fun h2 => ?_))
    · have h : a ≠ 0 := by simpa using h
      rw [if_neg h]; exact ⟨rfl, rfl⟩
    · have h : a = 0 := by simpa using h
      rw [if_pos h]; exact ⟨rfl, rfl⟩
    · have h : a = 0 := by simpa using h
      have h2 : b = 0 := by simpa using h2
      rw [if_pos h, h2]; exact ⟨rfl, rfl⟩
  · cases h
theorem okCmI : OkV Tryz.prog 88 orcCmI := by
  intro args H ret H' vc h hv
  unfold orcCmI at h
  split at h
  · rename_i a b
    cases h
    refine fnP_res hm c0_ok (hs := hsCm) ?_
    rw [cm_t, cmI]
    refine ⟨⟨trivial⟩, ⟨trivial⟩, br_of (fun h => ?_) (fun h => br_of (fun h2 => ?_) (fun h2 => ?_))⟩
    · rw [if_pos (of_decide_eq_true h)]; exact ⟨rfl, rfl⟩
    · rw [if_neg (of_decide_eq_false h), if_pos (of_decide_eq_true h2)]; exact ⟨rfl, rfl⟩
    · rw [if_neg (of_decide_eq_false h), if_neg (of_decide_eq_false h2)]; exact ⟨rfl, rfl⟩
  · cases h
noncomputable def hsDc : Hs Tryz.prog where
  au := auCalls [(88, hCa Tryz.prog 88 orcCmI okCmI), (87, hCa Tryz.prog 87 orcOr okOr)]
theorem dc_t (a : Int) (i : Int) (b : Int) (k : Int) (K : Value → Heap → Prop) :
    (fnP Tryz.prog c0 hsDc (41 : FuncId) [dueV a i, dueV b k] [] K) =
    (Is True ∧ Is True ∧ Is True ∧ K (Value.int IntKind.i64 (sel (cmI a b) (cmI i k))) noH) := by kernel_rfl
noncomputable def orcDc : OrcV
  | [.agg ⟨[x1, x2, x3, .int .i64 a, .int .i64 i]⟩, .agg ⟨[y1, y2, y3, .int .i64 b, .int .i64 k]⟩], [] => some (.int .i64 (sel (cmI a b) (cmI i k)), [], [x1, x2, x3, y1, y2, y3] = [poi, poi, poi, poi, poi, poi])
  | _, _ => none
theorem okDc : OkV Tryz.prog 41 orcDc := by
  intro args H ret H' vc h hv
  unfold orcDc at h
  split at h
  · rename_i x1 x2 x3 a i y1 y2 y3 b k
    cases h
    cases hv
    refine fnP_res hm c0_ok (hs := hsDc) ?_
    show fnP Tryz.prog c0 hsDc 41 [dueV a i, dueV b k] [] _
    rw [dc_t]
    exact ⟨⟨trivial⟩, ⟨trivial⟩, ⟨trivial⟩, rfl, rfl⟩
  · cases h
end
end Qq
end
section
/- The sort of what is due. -/
open Go Go.Vm Go.Proofs Sp
namespace Sp
noncomputable section
/-- Where i stands among the first k of r: behind all that are not due later. -/
def ipos (d : Nat → Int) (r : List Nat) (i : Nat) : Nat → Nat
  | 0 => 0
  | k + 1 => if d i < d (r.getD k 0) then ipos d r i k else k + 1
noncomputable def insD (r : List Nat) (i k : Nat) : List Nat := r.take k ++ i :: r.drop k
/-- The first n, in order. -/
noncomputable def rk (d : Nat → Int) : Nat → List Nat
  | 0 => []
  | n + 1 => insD (rk d n) n (ipos d (rk d n) n n)
noncomputable def dzC (d : Nat → Int) (r : List Nat) : List Value := r.flatMap fun m => [poi, poi, poi, .int .i64 (d m), .int .i64 (m : Int)]
noncomputable def gDue (cells : List Value) (off : Nat) : Value := dueV (iAt cells (off + 3)) (iAt cells (off + 4))
/-- The rest, from i on. -/
def rst (n i : Nat) : List Nat := List.range' i (n - i)
end
end Sp
namespace Qq
noncomputable section
noncomputable def dzR (m : Bool) (d : Nat → Int) (r : List Nat) : Option AObj := some (.row (dzC d r) 5 m true false)
noncomputable def lpSo (m : Bool) (d : Nat → Int) (n c : Nat) : Lp where
  σ := Nat
  E i := slots 53 [(0, .slice (some ⟨0, 0, none⟩) n c), (1, .int .i64 0), (2, .int .i64 (n : Int)), (3, .func (.func 41) #[] #[]), (8, .int .i64 (i : Int))]
  Hp i := [dzR m d (rk d i ++ rst n i)]
  I i := 1 ≤ i ∧ (i ≤ n ∨ i = 1)
  m i := n - i
noncomputable def lpSi (m : Bool) (d : Nat → Int) (n c : Nat) (i : Nat) : Lp where
  σ := Nat
  E j := slots 53 [(0, .slice (some ⟨0, 0, none⟩) n c), (1, .int .i64 0), (2, .int .i64 (n : Int)), (3, .func (.func 41) #[] #[]), (8, .int .i64 (i : Int)), (9, .int .i64 (j : Int))]
  Hp j := [dzR m d (insD (rk d i) i j ++ rst n (i + 1))]
  I j := (1 ≤ i ∧ i < n) ∧ j ≤ i ∧ ipos d (rk d i) i j = ipos d (rk d i) i i
  m j := j
noncomputable def hsSo (m : Bool) (d : Nat → Int) (n c : Nat) : Hs Tryz.prog where
  op y := if [407, 412, 608, 612, 614, 616].contains y then some (hIa Tryz.prog) else if [408, 413, 609, 613].contains y then some (hLc Tryz.prog gDue) else if [615, 617].contains y then some (hSp Tryz.prog) else if y = 414 then some (hCa Tryz.prog 41 orcDc okDc) else none
  lp y := if y = 1 then some (lpSo m d n c) else none
  lq y := if y = 4 then some ⟨Nat, lpSi m d n c⟩ else none
  cl y := if y = 4 then keep 53 [0, 1, 2, 3, 8, 9] else keep 53 [0, 1, 2, 3, 8]
  nl _ := [.stay]
  rn := [.stay]
  sm := true
  au := au0 Tryz.prog
theorem so_t (m : Bool) (d : Nat → Int) (n : Nat) (c : Nat) (r0 : List Nat) (K : Value → Heap → Prop) :
    (fnP Tryz.prog c0 (hsSo m d n c) (118 : FuncId) [Value.slice (some { block := (0 : Nat), off := (0 : Nat) }) n c, Value.int IntKind.i64 (0 : Int), Value.int IntKind.i64 (↑n : Int), Value.func (Fn.func (41 : FuncId)) #[] #[]] [dzR m d r0] K) =
    ((∃ (s : Nat), Is ((1 : Nat) ≤ s ∧ (s ≤ n ∨ s = (1 : Nat))) ∧ (Value.slice (some { block := (0 : Nat), off := (0 : Nat) }) n c = Value.slice (some { block := (0 : Nat), off := (0 : Nat) }) n c ∧ Value.int IntKind.i64 (0 : Int) = Value.int IntKind.i64 (0 : Int) ∧ Value.int IntKind.i64 (↑n : Int) = Value.int IntKind.i64 (↑n : Int) ∧ Value.func (Fn.func (41 : Nat)) #[] #[] = Value.func (Fn.func (41 : Nat)) #[] #[] ∧ Value.int IntKind.i64 (1 : Int) = Value.int IntKind.i64 (↑s : Int) ∧ True) ∧ some (AObj.row (dzC d r0) (5 : Nat) m true false) :: noH = some (AObj.row (dzC d (rk d s ++ rst n s)) (5 : Nat) m true false) :: noH) ∧ ∀ (s : Nat), Is ((1 : Nat) ≤ s ∧ (s ≤ n ∨ s = (1 : Nat))) → br (decide ((↑s : Int) < (↑n : Int))) (∃ (p : Nat), (∃ (s_1 : Nat), Is (((1 : Nat) ≤ p ∧ p < n) ∧ s_1 ≤ p ∧ ipos d (rk d p) p s_1 = ipos d (rk d p) p p) ∧ (Value.slice (some { block := (0 : Nat), off := (0 : Nat) }) n c = Value.slice (some { block := (0 : Nat), off := (0 : Nat) }) n c ∧ Value.int IntKind.i64 (0 : Int) = Value.int IntKind.i64 (0 : Int) ∧ Value.int IntKind.i64 (↑n : Int) = Value.int IntKind.i64 (↑n : Int) ∧ Value.func (Fn.func (41 : Nat)) #[] #[] = Value.func (Fn.func (41 : Nat)) #[] #[] ∧ Value.int IntKind.i64 (↑s : Int) = Value.int IntKind.i64 (↑p : Int) ∧ Value.int IntKind.i64 (↑s : Int) = Value.int IntKind.i64 (↑s_1 : Int) ∧ True) ∧ some (AObj.row (dzC d (rk d s ++ rst n s)) (5 : Nat) m true false) :: noH = some (AObj.row (dzC d (insD (rk d p) p s_1 ++ rst n (p + (1 : Nat)))) (5 : Nat) m true false) :: noH) ∧ ∀ (s_1 : Nat), Is (((1 : Nat) ≤ p ∧ p < n) ∧ s_1 ≤ p ∧ ipos d (rk d p) p s_1 = ipos d (rk d p) p p) → br (decide ((0 : Int) < (↑s_1 : Int))) (Is ((0 : Int) ≤ (↑s_1 : Int) ∧ (↑s_1 : Int) < (↑n : Int)) ∧ Is ((if (0 : Nat) + Int.toNat (↑s_1 : Int) * (5 : Nat) + (5 : Nat) ≤ List.length (dzC d (insD (rk d p) p s_1 ++ rst n (p + (1 : Nat)))) then some (Value.agg (List.toArray (List.take (5 : Nat) (List.drop ((0 : Nat) + Int.toNat (↑s_1 : Int) * (5 : Nat)) (dzC d (insD (rk d p) p s_1 ++ rst n (p + (1 : Nat)))))))) else none) = some (Value.agg #[poi, poi, poi, Value.int IntKind.i64 (iAt (dzC d (insD (rk d p) p s_1 ++ rst n (p + (1 : Nat)))) ((0 : Nat) + Int.toNat (↑s_1 : Int) * (5 : Nat) + (3 : Nat))), Value.int IntKind.i64 (iAt (dzC d (insD (rk d p) p s_1 ++ rst n (p + (1 : Nat)))) ((0 : Nat) + Int.toNat (↑s_1 : Int) * (5 : Nat) + (4 : Nat)))])) ∧ Is ((0 : Int) ≤ IntKind.wrap IntKind.i64 ((↑s_1 : Int) - (1 : Int)) ∧ IntKind.wrap IntKind.i64 ((↑s_1 : Int) - (1 : Int)) < (↑n : Int)) ∧ Is ((if (0 : Nat) + Int.toNat (IntKind.wrap IntKind.i64 ((↑s_1 : Int) - (1 : Int))) * (5 : Nat) + (5 : Nat) ≤ List.length (dzC d (insD (rk d p) p s_1 ++ rst n (p + (1 : Nat)))) then some (Value.agg (List.toArray (List.take (5 : Nat) (List.drop ((0 : Nat) + Int.toNat (IntKind.wrap IntKind.i64 ((↑s_1 : Int) - (1 : Int))) * (5 : Nat)) (dzC d (insD (rk d p) p s_1 ++ rst n (p + (1 : Nat)))))))) else none) = some (Value.agg #[poi, poi, poi, Value.int IntKind.i64 (iAt (dzC d (insD (rk d p) p s_1 ++ rst n (p + (1 : Nat)))) ((0 : Nat) + Int.toNat (IntKind.wrap IntKind.i64 ((↑s_1 : Int) - (1 : Int))) * (5 : Nat) + (3 : Nat))), Value.int IntKind.i64 (iAt (dzC d (insD (rk d p) p s_1 ++ rst n (p + (1 : Nat)))) ((0 : Nat) + Int.toNat (IntKind.wrap IntKind.i64 ((↑s_1 : Int) - (1 : Int))) * (5 : Nat) + (4 : Nat)))])) ∧ Is ([poi, poi, poi, poi, poi, poi] = [poi, poi, poi, poi, poi, poi]) ∧ br (decide (sel (cmI (iAt (dzC d (insD (rk d p) p s_1 ++ rst n (p + (1 : Nat)))) ((0 : Nat) + Int.toNat (↑s_1 : Int) * (5 : Nat) + (3 : Nat))) (iAt (dzC d (insD (rk d p) p s_1 ++ rst n (p + (1 : Nat)))) ((0 : Nat) + Int.toNat (IntKind.wrap IntKind.i64 ((↑s_1 : Int) - (1 : Int))) * (5 : Nat) + (3 : Nat)))) (cmI (iAt (dzC d (insD (rk d p) p s_1 ++ rst n (p + (1 : Nat)))) ((0 : Nat) + Int.toNat (↑s_1 : Int) * (5 : Nat) + (4 : Nat))) (iAt (dzC d (insD (rk d p) p s_1 ++ rst n (p + (1 : Nat)))) ((0 : Nat) + Int.toNat (IntKind.wrap IntKind.i64 ((↑s_1 : Int) - (1 : Int))) * (5 : Nat) + (4 : Nat)))) < (0 : Int))) (Is ((0 : Int) ≤ IntKind.wrap IntKind.i64 ((↑s_1 : Int) - (1 : Int)) ∧ IntKind.wrap IntKind.i64 ((↑s_1 : Int) - (1 : Int)) < (↑n : Int)) ∧ Is ((if (0 : Nat) + Int.toNat (IntKind.wrap IntKind.i64 ((↑s_1 : Int) - (1 : Int))) * (5 : Nat) + (5 : Nat) ≤ List.length (dzC d (insD (rk d p) p s_1 ++ rst n (p + (1 : Nat)))) then some (Value.agg (List.toArray (List.take (5 : Nat) (List.drop ((0 : Nat) + Int.toNat (IntKind.wrap IntKind.i64 ((↑s_1 : Int) - (1 : Int))) * (5 : Nat)) (dzC d (insD (rk d p) p s_1 ++ rst n (p + (1 : Nat)))))))) else none) = some (Value.agg #[poi, poi, poi, Value.int IntKind.i64 (iAt (dzC d (insD (rk d p) p s_1 ++ rst n (p + (1 : Nat)))) ((0 : Nat) + Int.toNat (IntKind.wrap IntKind.i64 ((↑s_1 : Int) - (1 : Int))) * (5 : Nat) + (3 : Nat))), Value.int IntKind.i64 (iAt (dzC d (insD (rk d p) p s_1 ++ rst n (p + (1 : Nat)))) ((0 : Nat) + Int.toNat (IntKind.wrap IntKind.i64 ((↑s_1 : Int) - (1 : Int))) * (5 : Nat) + (4 : Nat)))])) ∧ Is ((0 : Int) ≤ (↑s_1 : Int) ∧ (↑s_1 : Int) < (↑n : Int)) ∧ Is ((if (0 : Nat) + Int.toNat (↑s_1 : Int) * (5 : Nat) + (5 : Nat) ≤ List.length (dzC d (insD (rk d p) p s_1 ++ rst n (p + (1 : Nat)))) then some (Value.agg (List.toArray (List.take (5 : Nat) (List.drop ((0 : Nat) + Int.toNat (↑s_1 : Int) * (5 : Nat)) (dzC d (insD (rk d p) p s_1 ++ rst n (p + (1 : Nat)))))))) else none) = some (Value.agg #[poi, poi, poi, Value.int IntKind.i64 (iAt (dzC d (insD (rk d p) p s_1 ++ rst n (p + (1 : Nat)))) ((0 : Nat) + Int.toNat (↑s_1 : Int) * (5 : Nat) + (3 : Nat))), Value.int IntKind.i64 (iAt (dzC d (insD (rk d p) p s_1 ++ rst n (p + (1 : Nat)))) ((0 : Nat) + Int.toNat (↑s_1 : Int) * (5 : Nat) + (4 : Nat)))])) ∧ Is ((0 : Int) ≤ (↑s_1 : Int) ∧ (↑s_1 : Int) < (↑n : Int)) ∧ Is ((0 : Nat) + Int.toNat (↑s_1 : Int) * (5 : Nat) + (5 : Nat) ≤ List.length (dzC d (insD (rk d p) p s_1 ++ rst n (p + (1 : Nat))))) ∧ Is ((0 : Int) ≤ IntKind.wrap IntKind.i64 ((↑s_1 : Int) - (1 : Int)) ∧ IntKind.wrap IntKind.i64 ((↑s_1 : Int) - (1 : Int)) < (↑n : Int)) ∧ Is ((0 : Nat) + Int.toNat (IntKind.wrap IntKind.i64 ((↑s_1 : Int) - (1 : Int))) * (5 : Nat) + (5 : Nat) ≤ List.length (putL (dzC d (insD (rk d p) p s_1 ++ rst n (p + (1 : Nat)))) ((0 : Nat) + Int.toNat (↑s_1 : Int) * (5 : Nat)) [poi, poi, poi, Value.int IntKind.i64 (iAt (dzC d (insD (rk d p) p s_1 ++ rst n (p + (1 : Nat)))) ((0 : Nat) + Int.toNat (IntKind.wrap IntKind.i64 ((↑s_1 : Int) - (1 : Int))) * (5 : Nat) + (3 : Nat))), Value.int IntKind.i64 (iAt (dzC d (insD (rk d p) p s_1 ++ rst n (p + (1 : Nat)))) ((0 : Nat) + Int.toNat (IntKind.wrap IntKind.i64 ((↑s_1 : Int) - (1 : Int))) * (5 : Nat) + (4 : Nat)))])) ∧ ∃ (s' : Nat), Is (((1 : Nat) ≤ p ∧ p < n) ∧ s' ≤ p ∧ ipos d (rk d p) p s' = ipos d (rk d p) p p) ∧ Is (s' < s_1) ∧ (Value.slice (some { block := (0 : Nat), off := (0 : Nat) }) n c = Value.slice (some { block := (0 : Nat), off := (0 : Nat) }) n c ∧ Value.int IntKind.i64 (0 : Int) = Value.int IntKind.i64 (0 : Int) ∧ Value.int IntKind.i64 (↑n : Int) = Value.int IntKind.i64 (↑n : Int) ∧ Value.func (Fn.func (41 : Nat)) #[] #[] = Value.func (Fn.func (41 : Nat)) #[] #[] ∧ Value.int IntKind.i64 (↑p : Int) = Value.int IntKind.i64 (↑p : Int) ∧ Value.int IntKind.i64 (IntKind.wrap IntKind.i64 ((↑s_1 : Int) - (1 : Int))) = Value.int IntKind.i64 (↑s' : Int) ∧ True) ∧ some (AObj.row (putL (putL (dzC d (insD (rk d p) p s_1 ++ rst n (p + (1 : Nat)))) ((0 : Nat) + Int.toNat (↑s_1 : Int) * (5 : Nat)) [poi, poi, poi, Value.int IntKind.i64 (iAt (dzC d (insD (rk d p) p s_1 ++ rst n (p + (1 : Nat)))) ((0 : Nat) + Int.toNat (IntKind.wrap IntKind.i64 ((↑s_1 : Int) - (1 : Int))) * (5 : Nat) + (3 : Nat))), Value.int IntKind.i64 (iAt (dzC d (insD (rk d p) p s_1 ++ rst n (p + (1 : Nat)))) ((0 : Nat) + Int.toNat (IntKind.wrap IntKind.i64 ((↑s_1 : Int) - (1 : Int))) * (5 : Nat) + (4 : Nat)))]) ((0 : Nat) + Int.toNat (IntKind.wrap IntKind.i64 ((↑s_1 : Int) - (1 : Int))) * (5 : Nat)) [poi, poi, poi, Value.int IntKind.i64 (iAt (dzC d (insD (rk d p) p s_1 ++ rst n (p + (1 : Nat)))) ((0 : Nat) + Int.toNat (↑s_1 : Int) * (5 : Nat) + (3 : Nat))), Value.int IntKind.i64 (iAt (dzC d (insD (rk d p) p s_1 ++ rst n (p + (1 : Nat)))) ((0 : Nat) + Int.toNat (↑s_1 : Int) * (5 : Nat) + (4 : Nat)))]) (5 : Nat) m true (false && List.all [poi, poi, poi, Value.int IntKind.i64 (iAt (dzC d (insD (rk d p) p s_1 ++ rst n (p + (1 : Nat)))) ((0 : Nat) + Int.toNat (IntKind.wrap IntKind.i64 ((↑s_1 : Int) - (1 : Int))) * (5 : Nat) + (3 : Nat))), Value.int IntKind.i64 (iAt (dzC d (insD (rk d p) p s_1 ++ rst n (p + (1 : Nat)))) ((0 : Nat) + Int.toNat (IntKind.wrap IntKind.i64 ((↑s_1 : Int) - (1 : Int))) * (5 : Nat) + (4 : Nat)))] atom && List.all [poi, poi, poi, Value.int IntKind.i64 (iAt (dzC d (insD (rk d p) p s_1 ++ rst n (p + (1 : Nat)))) ((0 : Nat) + Int.toNat (↑s_1 : Int) * (5 : Nat) + (3 : Nat))), Value.int IntKind.i64 (iAt (dzC d (insD (rk d p) p s_1 ++ rst n (p + (1 : Nat)))) ((0 : Nat) + Int.toNat (↑s_1 : Int) * (5 : Nat) + (4 : Nat)))] atom)) :: noH = some (AObj.row (dzC d (insD (rk d p) p s' ++ rst n (p + (1 : Nat)))) (5 : Nat) m true false) :: noH) (∃ (s' : Nat), Is ((1 : Nat) ≤ s' ∧ (s' ≤ n ∨ s' = (1 : Nat))) ∧ Is (n - s' < n - s) ∧ (Value.slice (some { block := (0 : Nat), off := (0 : Nat) }) n c = Value.slice (some { block := (0 : Nat), off := (0 : Nat) }) n c ∧ Value.int IntKind.i64 (0 : Int) = Value.int IntKind.i64 (0 : Int) ∧ Value.int IntKind.i64 (↑n : Int) = Value.int IntKind.i64 (↑n : Int) ∧ Value.func (Fn.func (41 : Nat)) #[] #[] = Value.func (Fn.func (41 : Nat)) #[] #[] ∧ Value.int IntKind.i64 (IntKind.wrap IntKind.i64 ((↑p : Int) + (1 : Int))) = Value.int IntKind.i64 (↑s' : Int) ∧ True) ∧ some (AObj.row (dzC d (insD (rk d p) p s_1 ++ rst n (p + (1 : Nat)))) (5 : Nat) m true false) :: noH = some (AObj.row (dzC d (rk d s' ++ rst n s')) (5 : Nat) m true false) :: noH)) (∃ (s' : Nat), Is ((1 : Nat) ≤ s' ∧ (s' ≤ n ∨ s' = (1 : Nat))) ∧ Is (n - s' < n - s) ∧ (Value.slice (some { block := (0 : Nat), off := (0 : Nat) }) n c = Value.slice (some { block := (0 : Nat), off := (0 : Nat) }) n c ∧ Value.int IntKind.i64 (0 : Int) = Value.int IntKind.i64 (0 : Int) ∧ Value.int IntKind.i64 (↑n : Int) = Value.int IntKind.i64 (↑n : Int) ∧ Value.func (Fn.func (41 : Nat)) #[] #[] = Value.func (Fn.func (41 : Nat)) #[] #[] ∧ Value.int IntKind.i64 (IntKind.wrap IntKind.i64 ((↑p : Int) + (1 : Int))) = Value.int IntKind.i64 (↑s' : Int) ∧ True) ∧ some (AObj.row (dzC d (insD (rk d p) p s_1 ++ rst n (p + (1 : Nat)))) (5 : Nat) m true false) :: noH = some (AObj.row (dzC d (rk d s' ++ rst n s')) (5 : Nat) m true false) :: noH)) (K undef (some (AObj.row (dzC d (rk d s ++ rst n s)) (5 : Nat) m true false) :: noH))) := by kernel_rfl
theorem rk_len (d : Nat → Int) : ∀ n, (rk d n).length = n
  | 0 => rfl
  | n + 1 => by
    have := rk_len d n
    rw [rk, insD, List.length_append, List.length_cons, List.length_take, List.length_drop]; omega
theorem rk_lt (d : Nat → Int) : ∀ n, ∀ m ∈ rk d n, m < n
  | 0, m, h => by cases h
  | n + 1, m, h => by
    rw [rk, insD, List.mem_append, List.mem_cons] at h
    rcases h with h | h | h
    · have := rk_lt d n m (List.mem_of_mem_take h); omega
    · omega
    · have := rk_lt d n m (List.mem_of_mem_drop h); omega
theorem dz_app (d : Nat → Int) (a b : List Nat) : dzC d (a ++ b) = dzC d a ++ dzC d b := List.flatMap_append ..
theorem dz_cons (d : Nat → Int) (x : Nat) (b : List Nat) : dzC d (x :: b) = [poi, poi, poi, .int .i64 (d x), .int .i64 (x : Int)] ++ dzC d b := List.flatMap_cons ..
theorem dz_len (d : Nat → Int) : ∀ L : List Nat, (dzC d L).length = L.length * 5
  | [] => rfl
  | x :: L => by rw [dz_cons, List.length_append, dz_len d L]; simp only [List.length_cons, List.length_nil]; omega
theorem split_at {L : List Nat} {p : Nat} (h : p < L.length) : ∃ A B, L = A ++ L.getD p 0 :: B ∧ A.length = p := by
  refine ⟨L.take p, L.drop (p + 1), ?_, by rw [List.length_take]; omega⟩
  have : L.getD p 0 = L[p] := by rw [List.getD_eq_getElem?_getD, List.getElem?_eq_getElem h]; rfl
  rw [this]
  conv => lhs; rw [← List.take_append_drop p L]
  rw [List.drop_eq_getElem_cons h]
theorem dz_ld (d : Nat → Int) {L : List Nat} {p : Nat} (h : p < L.length) : (if 0 + p * 5 + 5 ≤ (dzC d L).length then some (Value.agg (((dzC d L).drop (0 + p * 5)).take 5).toArray) else none) = some (dueV (d (L.getD p 0)) (L.getD p 0 : Nat)) := by
  rw [dz_len, if_pos (by omega)]
  obtain ⟨A, B, e, hA⟩ := split_at h
  generalize L.getD p 0 = x at *
  subst e
  rw [dz_app, dz_cons, Nat.zero_add, List.drop_append_of_le_length (by rw [dz_len]; omega), List.drop_eq_nil_of_le (by rw [dz_len]; omega), List.nil_append, List.take_append_of_le_length (by simp)]
  rfl
theorem dz_at (d : Nat → Int) {L : List Nat} {p : Nat} (h : p < L.length) : iAt (dzC d L) (0 + p * 5 + 3) = d (L.getD p 0) ∧ iAt (dzC d L) (0 + p * 5 + 4) = (L.getD p 0 : Nat) := by
  obtain ⟨A, B, e, hA⟩ := split_at h
  generalize L.getD p 0 = x at *
  subst e
  have hl := dz_len d A
  refine ⟨?_, ?_⟩
  · rw [iAt, dz_app, dz_cons, List.getElem?_append_right (by omega), show 0 + p * 5 + 3 - (dzC d A).length = 3 by omega]; rfl
  · rw [iAt, dz_app, dz_cons, List.getElem?_append_right (by omega), show 0 + p * 5 + 4 - (dzC d A).length = 4 by omega]; rfl
theorem dz_put (d : Nat → Int) {L : List Nat} {p m : Nat} (h : p < L.length) : putL (dzC d L) (0 + p * 5) [poi, poi, poi, .int .i64 (d m), .int .i64 (m : Int)] = dzC d (L.set p m) := by
  obtain ⟨A, B, e, hA⟩ := split_at h
  generalize L.getD p 0 = x at *
  subst e
  have hl := dz_len d A
  have e1 : (A ++ x :: B).set p m = A ++ m :: B := by rw [List.set_append_right _ _ (by omega), hA, Nat.sub_self]; rfl
  rw [e1, putL, splice, dz_app, dz_cons, dz_app, dz_cons, List.take_append_of_le_length (by omega), List.take_of_length_le (by omega)]
  congr 1
  congr 1
  rw [← List.append_assoc, List.drop_append_of_le_length (by rw [List.length_append]; simp only [List.length_cons, List.length_nil]; omega), List.drop_eq_nil_of_le (by rw [List.length_append]; simp only [List.length_cons, List.length_nil]; omega), List.nil_append]
theorem cm_lt {d : Nat → Int} {i m : Nat} (h : m < i) : decide (sel (cmI (d i) (d m)) (cmI (i : Int) (m : Int)) < 0) = decide (d i < d m) := by
  have e : cmI (i : Int) (m : Int) = 1 := by rw [cmI, if_neg (by omega), if_pos (by omega)]
  rw [e, cmI]
  by_cases h1 : d i < d m
  · rw [if_pos h1, decide_eq_true h1]; rfl
  · rw [if_neg h1, decide_eq_false h1]
    by_cases h2 : d m < d i
    · rw [if_pos h2]; rfl
    · rw [if_neg h2]; rfl
/-- The list in the midst of a round. -/
theorem ins_facts {r t : List Nat} {i j : Nat} (hr : r.length = i) (hj : j + 1 ≤ i) : (insD r i (j + 1) ++ t).getD (j + 1) 0 = i ∧ (insD r i (j + 1) ++ t).getD j 0 = r.getD j 0 ∧ ((insD r i (j + 1) ++ t).set (j + 1) (r.getD j 0)).set j i = insD r i j ++ t := by
  obtain ⟨A, B, e, hA⟩ := split_at (L := r) (p := j) (by omega)
  generalize r.getD j 0 = m at *
  have e1 : insD r i (j + 1) = A ++ m :: i :: B := by
    rw [insD, e, List.take_append, List.drop_append, List.take_of_length_le (by omega), List.drop_eq_nil_of_le (by omega), show j + 1 - A.length = 1 by omega]
    simp
  have e2 : insD r i j = A ++ i :: m :: B := by
    rw [insD, e, List.take_append, List.drop_append, List.take_of_length_le (by omega), List.drop_eq_nil_of_le (by omega), show j - A.length = 0 by omega]
    simp
  rw [e1, e2]
  subst hA
  refine ⟨?_, ?_, ?_⟩
  · rw [List.getD_eq_getElem?_getD, List.append_assoc, List.getElem?_append_right (by omega), show A.length + 1 - A.length = 1 by omega]; rfl
  · rw [List.getD_eq_getElem?_getD, List.append_assoc, List.getElem?_append_right (by omega), show A.length - A.length = 0 by omega]; rfl
  · rw [List.append_assoc, List.set_append_right _ _ (by omega), show A.length + 1 - A.length = 1 by omega, List.set_append_right _ _ (by omega), show A.length - A.length = 0 by omega, List.append_assoc]; rfl
theorem so_ok {m : Bool} {d : Nat → Int} {n c : Nat} (h1 : 1 ≤ n) (h9 : n ≤ 1000) : SmallRes Tryz.prog 118 [.slice (some ⟨0, 0, none⟩) n c, .int .i64 0, .int .i64 (n : Int), .func (.func 41) #[] #[]] [dzR m d (List.range n)] (.tuple #[]) [dzR m d (rk d n)] := by
  refine fnP_res hm c0_ok (hs := hsSo m d n c) ?_
  show fnP Tryz.prog c0 (hsSo m d n c) 118 _ _ _
  rw [so_t]
  have hlen : ∀ i j, j ≤ i → i < n → (insD (rk d i) i j ++ rst n (i + 1)).length = n := fun i j hj hi => by
    have := rk_len d i
    rw [insD, List.length_append, List.length_append, List.length_cons, List.length_take, List.length_drop, rst, List.length_range']; omega
  have hst : List.range n = rk d 1 ++ rst n 1 := by
    rw [rst]
    show List.range n = [0] ++ List.range' 1 (n - 1)
    rw [List.range_eq_range', show n = n - 1 + 1 by omega, List.range'_succ]; rfl
  refine ⟨⟨1, ⟨by omega, .inr rfl⟩, by (repeat' refine And.intro ?_ ?_) <;> first | exact rfl | trivial, by rw [← hst]⟩, fun i hi => br_of (fun hc => ?_) (fun hc => ?_)⟩
  · have hc := lt_of_dec hc
    have hi1 := hi.out.1
    refine ⟨i, ⟨i, ⟨⟨hi1, hc⟩, Nat.le_refl _, rfl⟩, by (repeat' refine And.intro ?_ ?_) <;> first | exact rfl | trivial, ?_⟩, fun j hj => br_of (fun hd => ?_) (fun hd => ?_)⟩
    · have hl := rk_len d i
      have e1 : insD (rk d i) i i = rk d i ++ [i] := by rw [insD, List.take_of_length_le (by omega), List.drop_eq_nil_of_le (by omega)]
      have e2 : rst n i = i :: rst n (i + 1) := by rw [rst, rst, show n - i = n - (i + 1) + 1 by omega, List.range'_succ]
      rw [e1, e2, List.append_assoc]; try rfl
    · obtain ⟨_, hj1, hj2⟩ := hj.out
      have hd := of_decide_eq_true hd
      obtain ⟨k, rfl⟩ : ∃ k, j = k + 1 := ⟨j - 1, by omega⟩
      have w : IntKind.wrap .i64 (((k + 1 : Nat) : Int) - 1) = (k : Int) := (wrap_eq (by omega) (by omega)).trans (by omega)
      have hL := hlen i (k + 1) hj1 hc
      obtain ⟨f1, f2, f3⟩ := ins_facts (r := rk d i) (t := rst n (i + 1)) (rk_len d i) hj1
      obtain ⟨a1, a2⟩ := dz_at d (L := insD (rk d i) i (k + 1) ++ rst n (i + 1)) (p := k + 1) (by omega)
      obtain ⟨b1, b2⟩ := dz_at d (L := insD (rk d i) i (k + 1) ++ rst n (i + 1)) (p := k) (by omega)
      have l1 := dz_ld d (L := insD (rk d i) i (k + 1) ++ rst n (i + 1)) (p := k + 1) (by omega)
      have l2 := dz_ld d (L := insD (rk d i) i (k + 1) ++ rst n (i + 1)) (p := k) (by omega)
      rw [f1] at a1 a2 l1
      rw [f2] at b1 b2 l2
      have hm : (rk d i).getD k 0 < i := rk_lt d i _ (by
        have : k < (rk d i).length := by rw [rk_len]; omega
        rw [List.getD_eq_getElem?_getD, List.getElem?_eq_getElem this]; exact List.getElem_mem _)
      simp only [w, Int.toNat_natCast, a1, a2, b1, b2]
      rw [cm_lt hm]
      refine ⟨⟨by omega, by omega⟩, ⟨l1⟩, ⟨by omega, by omega⟩, ⟨l2⟩, ⟨by trivial⟩, br_of (fun hq => ?_) (fun hq => ?_)⟩
      · have hq := of_decide_eq_true hq
        rw [dz_put d (by omega), dz_put d (by rw [List.length_set]; omega), f3]
        refine ⟨⟨by omega, by omega⟩, ⟨l2⟩, ⟨by omega, by omega⟩, ⟨l1⟩, ⟨by omega, by omega⟩, ⟨by rw [dz_len]; omega⟩, ⟨by omega, by omega⟩, ⟨by rw [dz_len, List.length_set]; omega⟩, k, ⟨⟨hi1, hc⟩, by omega, ?_⟩, ⟨by omega⟩, by (repeat' refine And.intro ?_ ?_) <;> first | exact rfl | trivial, rfl⟩
        rw [← hj2, ipos, if_pos hq]
      · have hq := of_decide_eq_false hq
        have e : ipos d (rk d i) i i = k + 1 := by rw [← hj2, ipos, if_neg hq]
        refine ⟨i + 1, ⟨by omega, .inl hc⟩, ⟨by omega⟩, by rw [up1 hc (by omega)]; ((repeat' refine And.intro ?_ ?_) <;> first | exact rfl | trivial), ?_⟩
        rw [rk, e]
    · obtain ⟨_, hj1, hj2⟩ := hj.out
      have hd := of_decide_eq_false hd
      have : j = 0 := by omega
      subst this
      have e : ipos d (rk d i) i i = 0 := by rw [← hj2, ipos]
      refine ⟨i + 1, ⟨by omega, .inl hc⟩, ⟨by omega⟩, by rw [up1 hc (by omega)]; ((repeat' refine And.intro ?_ ?_) <;> first | exact rfl | trivial), ?_⟩
      rw [rk, e]
  · have hc := ge_of_dec hc
    have : n = i := by
      have := hi.out.2; omega
    subst this
    refine ⟨rfl, ?_⟩
    rw [rst, Nat.sub_self]
    show [dzR m d (rk d n ++ [])] = _
    rw [List.append_nil]

end
end Qq
end
section
/- The reference's Ranked: what the loops keep. -/
open Go Go.Vm Go.Proofs Sp
namespace Sp
noncomputable section
/-- The list in the midst of a round: what stood at k stands behind it, too. -/
noncomputable def midD (r : List Nat) (i k : Nat) : List Nat := insD r (if k = i then i else r.getD k 0) k
noncomputable def nats (r : List Nat) : List Int := r.map fun m : Nat => (m : Int)
noncomputable def rkZ (d : Nat → Int) (n : Nat) : List Int := nats (rk d n)
noncomputable def midZ (d : Nat → Int) (i k : Nat) : List Int := nats (midD (rk d i) i k)
end
end Sp
namespace Qq
noncomputable section
noncomputable def lpRo (l : Ls) (x : Int) (n c : Nat) : Lp where
  σ := Nat
  E i := slots 55 [(0, .slice (some ⟨0, 0, none⟩) n c), (1, .int .i64 x), (5, .slice (some ⟨2 * n + 1, 0, none⟩) i 0), (6, .int .i64 (i : Int))]
  Hp i := lsG l n ++ [some (.row (ints (rkZ (dI l x) i)) 1 true true true)]
  I i := i ≤ n
  m i := n - i
noncomputable def lpRi (l : Ls) (x : Int) (n c i : Nat) : Lp where
  σ := Nat
  E k := slots 55 [(0, .slice (some ⟨0, 0, none⟩) n c), (1, .int .i64 x), (5, .slice (some ⟨2 * n + 1, 0, none⟩) (i + 1) 0), (6, .int .i64 (i : Int)), (7, .int .i64 (k : Int))]
  Hp k := lsG l n ++ [some (.row (ints (midZ (dI l x) i k)) 1 true true true)]
  I k := i < n ∧ k ≤ i ∧ ipos (dI l x) (rk (dI l x) i) i k = ipos (dI l x) (rk (dI l x) i) i i
  m k := k
noncomputable def hsRr (l : Ls) (x : Int) (n c : Nat) : Hs Tryz.prog where
  op y := if [705, 713, 715, 805, 807, 1003].contains y then some (hIa Tryz.prog) else if [706, 716].contains y then some (hLd Tryz.prog (secAt l)) else if [708, 718].contains y then some (hCi Tryz.prog 47 (selDu l x) (selDu_ok l x)) else if [714, 806].contains y then some (hLc Tryz.prog gI) else if [808, 1004].contains y then some (hSp Tryz.prog) else if y = 503 then some (hAp Tryz.prog) else none
  lp y := if y = 3 then some (lpRo l x n c) else none
  lq y := if y = 7 then some ⟨Nat, lpRi l x n c⟩ else none
  cl y := if y = 3 then keep 55 [0, 1, 5, 6] else keep 55 [0, 1, 5, 6, 7]
  nl y := if y = 3 then [.only (.slot 5 1)] else []
  rn := []
  sm := true
  au := au0 Tryz.prog
end
end Qq
end
section
/- The reference's Ranked: its tree, for any number of sections. -/
open Go Go.Vm Go.Proofs Sp
namespace Qq
noncomputable section
def rrT (l : Ls) (x : Int) (n c : Nat) (K : Value → Heap → Prop) : Prop :=
  ((∃ (s : Nat), Is (s ≤ n) ∧ (Value.slice (some { block := (0 : Nat), off := (0 : Nat) }) n c = Value.slice (some { block := (0 : Nat), off := (0 : Nat) }) n c ∧ Value.int IntKind.i64 x = Value.int IntKind.i64 x ∧ Value.slice (some { block := (2 * n + 1), off := (0 : Nat) }) (0 : Nat) (0 : Nat) = Value.slice (some { block := (2 * n + 1), off := (0 : Nat) }) s (0 : Nat) ∧ Value.int IntKind.i64 (0 : Int) = Value.int IntKind.i64 (↑s : Int) ∧ True) ∧ lsG l n ++ some (AObj.row [] (1 : Nat) true true true) :: noH = lsG l n ++ some (AObj.row (ints (rkZ (dI l x) s)) (1 : Nat) true true true) :: noH) ∧ ∀ (s : Nat), Is (s ≤ n) → br (decide ((↑s : Int) < (n : Int))) (Is (List.length (ints (rkZ (dI l x) s)) = s * (1 : Nat) ∧ (s + (1 : Nat)) * (8 : Nat) ≤ (140737488355328 : Nat) ∧ s + (1 : Nat) ≤ (9223372036854775807 : Nat)) ∧ ∃ (p : Nat), (∃ (s_1 : Nat), Is (p < n ∧ s_1 ≤ p ∧ ipos (dI l x) (rk (dI l x) p) p s_1 = ipos (dI l x) (rk (dI l x) p) p p) ∧ (Value.slice (some { block := (0 : Nat), off := (0 : Nat) }) n c = Value.slice (some { block := (0 : Nat), off := (0 : Nat) }) n c ∧ Value.int IntKind.i64 x = Value.int IntKind.i64 x ∧ Value.slice (some { block := (2 * n + 1), off := (0 : Nat) }) (s + (1 : Nat)) (0 : Nat) = Value.slice (some { block := (2 * n + 1), off := (0 : Nat) }) (p + (1 : Nat)) (0 : Nat) ∧ Value.int IntKind.i64 (↑s : Int) = Value.int IntKind.i64 (↑p : Int) ∧ Value.int IntKind.i64 (↑s : Int) = Value.int IntKind.i64 (↑s_1 : Int) ∧ True) ∧ lsG l n ++ some (AObj.row (ints (rkZ (dI l x) s) ++ [Value.int IntKind.i64 (↑s : Int)]) (1 : Nat) true true (List.all [Value.int IntKind.i64 (↑s : Int)] atom)) :: noH = lsG l n ++ some (AObj.row (ints (midZ (dI l x) p s_1)) (1 : Nat) true true true) :: noH) ∧ ∀ (s_1 : Nat), Is (p < n ∧ s_1 ≤ p ∧ ipos (dI l x) (rk (dI l x) p) p s_1 = ipos (dI l x) (rk (dI l x) p) p p) → br (decide ((0 : Int) < (↑s_1 : Int))) (Is ((0 : Int) ≤ (↑p : Int) ∧ (↑p : Int) < (n : Int)) ∧ Is ((if (0 : Nat) + Int.toNat (↑p : Int) * (3 : Nat) + (3 : Nat) ≤ (3 * n) then some (Value.agg (List.toArray (List.take (3 : Nat) (List.drop ((0 : Nat) + Int.toNat (↑p : Int) * (3 : Nat)) (lsC l n))))) else none) = some (Value.agg #[Value.string (Ls.nm l (((0 : Nat) + Int.toNat (↑p : Int) * (3 : Nat)) / (3 : Nat))), Value.slice (some { block := (1 : Nat) + (2 : Nat) * (((0 : Nat) + Int.toNat (↑p : Int) * (3 : Nat)) / (3 : Nat)), off := (0 : Nat) }) (Ls.N l (((0 : Nat) + Int.toNat (↑p : Int) * (3 : Nat)) / (3 : Nat))) (18446744073709551616 : Nat), Value.slice (some { block := (2 : Nat) + (2 : Nat) * (((0 : Nat) + Int.toNat (↑p : Int) * (3 : Nat)) / (3 : Nat)), off := (0 : Nat) }) (Ls.K l (((0 : Nat) + Int.toNat (↑p : Int) * (3 : Nat)) / (3 : Nat))) (18446744073709551616 : Nat)])) ∧ Is (CiOK (lsG l n ++ some (AObj.row (ints (midZ (dI l x) p s_1)) (1 : Nat) true true true) :: noH) [Value.agg #[Value.string (Ls.nm l (((0 : Nat) + Int.toNat (↑p : Int) * (3 : Nat)) / (3 : Nat))), Value.slice (some { block := (1 : Nat) + (2 : Nat) * (((0 : Nat) + Int.toNat (↑p : Int) * (3 : Nat)) / (3 : Nat)), off := (0 : Nat) }) (Ls.N l (((0 : Nat) + Int.toNat (↑p : Int) * (3 : Nat)) / (3 : Nat))) (18446744073709551616 : Nat), Value.slice (some { block := (2 : Nat) + (2 : Nat) * (((0 : Nat) + Int.toNat (↑p : Int) * (3 : Nat)) / (3 : Nat)), off := (0 : Nat) }) (Ls.K l (((0 : Nat) + Int.toNat (↑p : Int) * (3 : Nat)) / (3 : Nat))) (18446744073709551616 : Nat)], Value.int IntKind.i64 x] [(1 : Nat) + (2 : Nat) * (((0 : Nat) + Int.toNat (↑p : Int) * (3 : Nat)) / (3 : Nat)), (2 : Nat) + (2 : Nat) * (((0 : Nat) + Int.toNat (↑p : Int) * (3 : Nat)) / (3 : Nat))] [Value.agg #[Value.string (Ls.nm l (((0 : Nat) + Int.toNat (↑p : Int) * (3 : Nat)) / (3 : Nat))), Value.slice (some { block := (0 : Nat), off := (0 : Nat) }) (Ls.N l (((0 : Nat) + Int.toNat (↑p : Int) * (3 : Nat)) / (3 : Nat))) (18446744073709551616 : Nat), Value.slice (some { block := (1 : Nat), off := (0 : Nat) }) (Ls.K l (((0 : Nat) + Int.toNat (↑p : Int) * (3 : Nat)) / (3 : Nat))) (18446744073709551616 : Nat)], Value.int IntKind.i64 x] (some (AObj.row (ints (Ls.zs l (((1 : Nat) + (2 : Nat) * (((0 : Nat) + Int.toNat (↑p : Int) * (3 : Nat)) / (3 : Nat)) - (1 : Nat)) / (2 : Nat)))) (2 : Nat) false false true) :: some (AObj.row (acs (Ls.ks l (((1 : Nat) + (2 : Nat) * (((0 : Nat) + Int.toNat (↑p : Int) * (3 : Nat)) / (3 : Nat)) - (1 : Nat)) / (2 : Nat)))) (2 : Nat) false false true) :: noH) (Value.int IntKind.i64 (dI l x (((1 : Nat) + (2 : Nat) * (((0 : Nat) + Int.toNat (↑p : Int) * (3 : Nat)) / (3 : Nat)) - (1 : Nat)) / (2 : Nat)))) ∧ (Ls.nm l (((0 : Nat) + Int.toNat (↑p : Int) * (3 : Nat)) / (3 : Nat)) = Ls.nm l (((1 : Nat) + (2 : Nat) * (((0 : Nat) + Int.toNat (↑p : Int) * (3 : Nat)) / (3 : Nat)) - (1 : Nat)) / (2 : Nat)) ∧ Ls.N l (((0 : Nat) + Int.toNat (↑p : Int) * (3 : Nat)) / (3 : Nat)) = Ls.N l (((1 : Nat) + (2 : Nat) * (((0 : Nat) + Int.toNat (↑p : Int) * (3 : Nat)) / (3 : Nat)) - (1 : Nat)) / (2 : Nat)) ∧ Ls.K l (((0 : Nat) + Int.toNat (↑p : Int) * (3 : Nat)) / (3 : Nat)) = Ls.K l (((1 : Nat) + (2 : Nat) * (((0 : Nat) + Int.toNat (↑p : Int) * (3 : Nat)) / (3 : Nat)) - (1 : Nat)) / (2 : Nat))) ∧ okP l (((1 : Nat) + (2 : Nat) * (((0 : Nat) + Int.toNat (↑p : Int) * (3 : Nat)) / (3 : Nat)) - (1 : Nat)) / (2 : Nat)) ∧ limIs x [Value.int IntKind.i64 x] ∧ (0 : Int) ≤ x ∧ x ≤ (100000 : Int)) ∧ Is ((0 : Int) ≤ IntKind.wrap IntKind.i64 ((↑s_1 : Int) - (1 : Int)) ∧ IntKind.wrap IntKind.i64 ((↑s_1 : Int) - (1 : Int)) < (↑(p + (1 : Nat)) : Int)) ∧ Is ((ints (midZ (dI l x) p s_1))[(0 : Nat) + Int.toNat (IntKind.wrap IntKind.i64 ((↑s_1 : Int) - (1 : Int))) * (1 : Nat)]? = some (Value.int IntKind.i64 (iAt (ints (midZ (dI l x) p s_1)) ((0 : Nat) + Int.toNat (IntKind.wrap IntKind.i64 ((↑s_1 : Int) - (1 : Int))) * (1 : Nat))))) ∧ Is ((0 : Int) ≤ iAt (ints (midZ (dI l x) p s_1)) ((0 : Nat) + Int.toNat (IntKind.wrap IntKind.i64 ((↑s_1 : Int) - (1 : Int))) * (1 : Nat)) ∧ iAt (ints (midZ (dI l x) p s_1)) ((0 : Nat) + Int.toNat (IntKind.wrap IntKind.i64 ((↑s_1 : Int) - (1 : Int))) * (1 : Nat)) < (n : Int)) ∧ Is ((if (0 : Nat) + Int.toNat (iAt (ints (midZ (dI l x) p s_1)) ((0 : Nat) + Int.toNat (IntKind.wrap IntKind.i64 ((↑s_1 : Int) - (1 : Int))) * (1 : Nat))) * (3 : Nat) + (3 : Nat) ≤ (3 * n) then some (Value.agg (List.toArray (List.take (3 : Nat) (List.drop ((0 : Nat) + Int.toNat (iAt (ints (midZ (dI l x) p s_1)) ((0 : Nat) + Int.toNat (IntKind.wrap IntKind.i64 ((↑s_1 : Int) - (1 : Int))) * (1 : Nat))) * (3 : Nat)) (lsC l n))))) else none) = some (Value.agg #[Value.string (Ls.nm l (((0 : Nat) + Int.toNat (iAt (ints (midZ (dI l x) p s_1)) ((0 : Nat) + Int.toNat (IntKind.wrap IntKind.i64 ((↑s_1 : Int) - (1 : Int))) * (1 : Nat))) * (3 : Nat)) / (3 : Nat))), Value.slice (some { block := (1 : Nat) + (2 : Nat) * (((0 : Nat) + Int.toNat (iAt (ints (midZ (dI l x) p s_1)) ((0 : Nat) + Int.toNat (IntKind.wrap IntKind.i64 ((↑s_1 : Int) - (1 : Int))) * (1 : Nat))) * (3 : Nat)) / (3 : Nat)), off := (0 : Nat) }) (Ls.N l (((0 : Nat) + Int.toNat (iAt (ints (midZ (dI l x) p s_1)) ((0 : Nat) + Int.toNat (IntKind.wrap IntKind.i64 ((↑s_1 : Int) - (1 : Int))) * (1 : Nat))) * (3 : Nat)) / (3 : Nat))) (18446744073709551616 : Nat), Value.slice (some { block := (2 : Nat) + (2 : Nat) * (((0 : Nat) + Int.toNat (iAt (ints (midZ (dI l x) p s_1)) ((0 : Nat) + Int.toNat (IntKind.wrap IntKind.i64 ((↑s_1 : Int) - (1 : Int))) * (1 : Nat))) * (3 : Nat)) / (3 : Nat)), off := (0 : Nat) }) (Ls.K l (((0 : Nat) + Int.toNat (iAt (ints (midZ (dI l x) p s_1)) ((0 : Nat) + Int.toNat (IntKind.wrap IntKind.i64 ((↑s_1 : Int) - (1 : Int))) * (1 : Nat))) * (3 : Nat)) / (3 : Nat))) (18446744073709551616 : Nat)])) ∧ Is (CiOK (lsG l n ++ some (AObj.row (ints (midZ (dI l x) p s_1)) (1 : Nat) true true true) :: noH) [Value.agg #[Value.string (Ls.nm l (((0 : Nat) + Int.toNat (iAt (ints (midZ (dI l x) p s_1)) ((0 : Nat) + Int.toNat (IntKind.wrap IntKind.i64 ((↑s_1 : Int) - (1 : Int))) * (1 : Nat))) * (3 : Nat)) / (3 : Nat))), Value.slice (some { block := (1 : Nat) + (2 : Nat) * (((0 : Nat) + Int.toNat (iAt (ints (midZ (dI l x) p s_1)) ((0 : Nat) + Int.toNat (IntKind.wrap IntKind.i64 ((↑s_1 : Int) - (1 : Int))) * (1 : Nat))) * (3 : Nat)) / (3 : Nat)), off := (0 : Nat) }) (Ls.N l (((0 : Nat) + Int.toNat (iAt (ints (midZ (dI l x) p s_1)) ((0 : Nat) + Int.toNat (IntKind.wrap IntKind.i64 ((↑s_1 : Int) - (1 : Int))) * (1 : Nat))) * (3 : Nat)) / (3 : Nat))) (18446744073709551616 : Nat), Value.slice (some { block := (2 : Nat) + (2 : Nat) * (((0 : Nat) + Int.toNat (iAt (ints (midZ (dI l x) p s_1)) ((0 : Nat) + Int.toNat (IntKind.wrap IntKind.i64 ((↑s_1 : Int) - (1 : Int))) * (1 : Nat))) * (3 : Nat)) / (3 : Nat)), off := (0 : Nat) }) (Ls.K l (((0 : Nat) + Int.toNat (iAt (ints (midZ (dI l x) p s_1)) ((0 : Nat) + Int.toNat (IntKind.wrap IntKind.i64 ((↑s_1 : Int) - (1 : Int))) * (1 : Nat))) * (3 : Nat)) / (3 : Nat))) (18446744073709551616 : Nat)], Value.int IntKind.i64 x] [(1 : Nat) + (2 : Nat) * (((0 : Nat) + Int.toNat (iAt (ints (midZ (dI l x) p s_1)) ((0 : Nat) + Int.toNat (IntKind.wrap IntKind.i64 ((↑s_1 : Int) - (1 : Int))) * (1 : Nat))) * (3 : Nat)) / (3 : Nat)), (2 : Nat) + (2 : Nat) * (((0 : Nat) + Int.toNat (iAt (ints (midZ (dI l x) p s_1)) ((0 : Nat) + Int.toNat (IntKind.wrap IntKind.i64 ((↑s_1 : Int) - (1 : Int))) * (1 : Nat))) * (3 : Nat)) / (3 : Nat))] [Value.agg #[Value.string (Ls.nm l (((0 : Nat) + Int.toNat (iAt (ints (midZ (dI l x) p s_1)) ((0 : Nat) + Int.toNat (IntKind.wrap IntKind.i64 ((↑s_1 : Int) - (1 : Int))) * (1 : Nat))) * (3 : Nat)) / (3 : Nat))), Value.slice (some { block := (0 : Nat), off := (0 : Nat) }) (Ls.N l (((0 : Nat) + Int.toNat (iAt (ints (midZ (dI l x) p s_1)) ((0 : Nat) + Int.toNat (IntKind.wrap IntKind.i64 ((↑s_1 : Int) - (1 : Int))) * (1 : Nat))) * (3 : Nat)) / (3 : Nat))) (18446744073709551616 : Nat), Value.slice (some { block := (1 : Nat), off := (0 : Nat) }) (Ls.K l (((0 : Nat) + Int.toNat (iAt (ints (midZ (dI l x) p s_1)) ((0 : Nat) + Int.toNat (IntKind.wrap IntKind.i64 ((↑s_1 : Int) - (1 : Int))) * (1 : Nat))) * (3 : Nat)) / (3 : Nat))) (18446744073709551616 : Nat)], Value.int IntKind.i64 x] (some (AObj.row (ints (Ls.zs l (((1 : Nat) + (2 : Nat) * (((0 : Nat) + Int.toNat (iAt (ints (midZ (dI l x) p s_1)) ((0 : Nat) + Int.toNat (IntKind.wrap IntKind.i64 ((↑s_1 : Int) - (1 : Int))) * (1 : Nat))) * (3 : Nat)) / (3 : Nat)) - (1 : Nat)) / (2 : Nat)))) (2 : Nat) false false true) :: some (AObj.row (acs (Ls.ks l (((1 : Nat) + (2 : Nat) * (((0 : Nat) + Int.toNat (iAt (ints (midZ (dI l x) p s_1)) ((0 : Nat) + Int.toNat (IntKind.wrap IntKind.i64 ((↑s_1 : Int) - (1 : Int))) * (1 : Nat))) * (3 : Nat)) / (3 : Nat)) - (1 : Nat)) / (2 : Nat)))) (2 : Nat) false false true) :: noH) (Value.int IntKind.i64 (dI l x (((1 : Nat) + (2 : Nat) * (((0 : Nat) + Int.toNat (iAt (ints (midZ (dI l x) p s_1)) ((0 : Nat) + Int.toNat (IntKind.wrap IntKind.i64 ((↑s_1 : Int) - (1 : Int))) * (1 : Nat))) * (3 : Nat)) / (3 : Nat)) - (1 : Nat)) / (2 : Nat)))) ∧ (Ls.nm l (((0 : Nat) + Int.toNat (iAt (ints (midZ (dI l x) p s_1)) ((0 : Nat) + Int.toNat (IntKind.wrap IntKind.i64 ((↑s_1 : Int) - (1 : Int))) * (1 : Nat))) * (3 : Nat)) / (3 : Nat)) = Ls.nm l (((1 : Nat) + (2 : Nat) * (((0 : Nat) + Int.toNat (iAt (ints (midZ (dI l x) p s_1)) ((0 : Nat) + Int.toNat (IntKind.wrap IntKind.i64 ((↑s_1 : Int) - (1 : Int))) * (1 : Nat))) * (3 : Nat)) / (3 : Nat)) - (1 : Nat)) / (2 : Nat)) ∧ Ls.N l (((0 : Nat) + Int.toNat (iAt (ints (midZ (dI l x) p s_1)) ((0 : Nat) + Int.toNat (IntKind.wrap IntKind.i64 ((↑s_1 : Int) - (1 : Int))) * (1 : Nat))) * (3 : Nat)) / (3 : Nat)) = Ls.N l (((1 : Nat) + (2 : Nat) * (((0 : Nat) + Int.toNat (iAt (ints (midZ (dI l x) p s_1)) ((0 : Nat) + Int.toNat (IntKind.wrap IntKind.i64 ((↑s_1 : Int) - (1 : Int))) * (1 : Nat))) * (3 : Nat)) / (3 : Nat)) - (1 : Nat)) / (2 : Nat)) ∧ Ls.K l (((0 : Nat) + Int.toNat (iAt (ints (midZ (dI l x) p s_1)) ((0 : Nat) + Int.toNat (IntKind.wrap IntKind.i64 ((↑s_1 : Int) - (1 : Int))) * (1 : Nat))) * (3 : Nat)) / (3 : Nat)) = Ls.K l (((1 : Nat) + (2 : Nat) * (((0 : Nat) + Int.toNat (iAt (ints (midZ (dI l x) p s_1)) ((0 : Nat) + Int.toNat (IntKind.wrap IntKind.i64 ((↑s_1 : Int) - (1 : Int))) * (1 : Nat))) * (3 : Nat)) / (3 : Nat)) - (1 : Nat)) / (2 : Nat))) ∧ okP l (((1 : Nat) + (2 : Nat) * (((0 : Nat) + Int.toNat (iAt (ints (midZ (dI l x) p s_1)) ((0 : Nat) + Int.toNat (IntKind.wrap IntKind.i64 ((↑s_1 : Int) - (1 : Int))) * (1 : Nat))) * (3 : Nat)) / (3 : Nat)) - (1 : Nat)) / (2 : Nat)) ∧ limIs x [Value.int IntKind.i64 x] ∧ (0 : Int) ≤ x ∧ x ≤ (100000 : Int)) ∧ br (decide (dI l x (((1 : Nat) + (2 : Nat) * (((0 : Nat) + Int.toNat (↑p : Int) * (3 : Nat)) / (3 : Nat)) - (1 : Nat)) / (2 : Nat)) < dI l x (((1 : Nat) + (2 : Nat) * (((0 : Nat) + Int.toNat (iAt (ints (midZ (dI l x) p s_1)) ((0 : Nat) + Int.toNat (IntKind.wrap IntKind.i64 ((↑s_1 : Int) - (1 : Int))) * (1 : Nat))) * (3 : Nat)) / (3 : Nat)) - (1 : Nat)) / (2 : Nat)))) (Is ((0 : Int) ≤ IntKind.wrap IntKind.i64 ((↑s_1 : Int) - (1 : Int)) ∧ IntKind.wrap IntKind.i64 ((↑s_1 : Int) - (1 : Int)) < (↑(p + (1 : Nat)) : Int)) ∧ Is ((ints (midZ (dI l x) p s_1))[(0 : Nat) + Int.toNat (IntKind.wrap IntKind.i64 ((↑s_1 : Int) - (1 : Int))) * (1 : Nat)]? = some (Value.int IntKind.i64 (iAt (ints (midZ (dI l x) p s_1)) ((0 : Nat) + Int.toNat (IntKind.wrap IntKind.i64 ((↑s_1 : Int) - (1 : Int))) * (1 : Nat))))) ∧ Is ((0 : Int) ≤ (↑s_1 : Int) ∧ (↑s_1 : Int) < (↑(p + (1 : Nat)) : Int)) ∧ Is ((0 : Nat) + Int.toNat (↑s_1 : Int) * (1 : Nat) + (1 : Nat) ≤ List.length (ints (midZ (dI l x) p s_1))) ∧ ∃ (s' : Nat), Is (p < n ∧ s' ≤ p ∧ ipos (dI l x) (rk (dI l x) p) p s' = ipos (dI l x) (rk (dI l x) p) p p) ∧ Is (s' < s_1) ∧ (Value.slice (some { block := (0 : Nat), off := (0 : Nat) }) n c = Value.slice (some { block := (0 : Nat), off := (0 : Nat) }) n c ∧ Value.int IntKind.i64 x = Value.int IntKind.i64 x ∧ Value.slice (some { block := (2 * n + 1), off := (0 : Nat) }) (p + (1 : Nat)) (0 : Nat) = Value.slice (some { block := (2 * n + 1), off := (0 : Nat) }) (p + (1 : Nat)) (0 : Nat) ∧ Value.int IntKind.i64 (↑p : Int) = Value.int IntKind.i64 (↑p : Int) ∧ Value.int IntKind.i64 (IntKind.wrap IntKind.i64 ((↑s_1 : Int) - (1 : Int))) = Value.int IntKind.i64 (↑s' : Int) ∧ True) ∧ lsG l n ++ some (AObj.row (putL (ints (midZ (dI l x) p s_1)) ((0 : Nat) + Int.toNat (↑s_1 : Int) * (1 : Nat)) [Value.int IntKind.i64 (iAt (ints (midZ (dI l x) p s_1)) ((0 : Nat) + Int.toNat (IntKind.wrap IntKind.i64 ((↑s_1 : Int) - (1 : Int))) * (1 : Nat)))]) (1 : Nat) true true (true && List.all [Value.int IntKind.i64 (iAt (ints (midZ (dI l x) p s_1)) ((0 : Nat) + Int.toNat (IntKind.wrap IntKind.i64 ((↑s_1 : Int) - (1 : Int))) * (1 : Nat)))] atom)) :: noH = lsG l n ++ some (AObj.row (ints (midZ (dI l x) p s')) (1 : Nat) true true true) :: noH) (Is ((0 : Int) ≤ (↑s_1 : Int) ∧ (↑s_1 : Int) < (↑(p + (1 : Nat)) : Int)) ∧ Is ((0 : Nat) + Int.toNat (↑s_1 : Int) * (1 : Nat) + (1 : Nat) ≤ List.length (ints (midZ (dI l x) p s_1))) ∧ ∃ (s' : Nat), Is (s' ≤ n) ∧ Is (n - s' < n - s) ∧ (Value.slice (some { block := (0 : Nat), off := (0 : Nat) }) n c = Value.slice (some { block := (0 : Nat), off := (0 : Nat) }) n c ∧ Value.int IntKind.i64 x = Value.int IntKind.i64 x ∧ Value.slice (some { block := (2 * n + 1), off := (0 : Nat) }) (p + (1 : Nat)) (0 : Nat) = Value.slice (some { block := (2 * n + 1), off := (0 : Nat) }) s' (0 : Nat) ∧ Value.int IntKind.i64 (IntKind.wrap IntKind.i64 ((↑p : Int) + (1 : Int))) = Value.int IntKind.i64 (↑s' : Int) ∧ True) ∧ lsG l n ++ some (AObj.row (putL (ints (midZ (dI l x) p s_1)) ((0 : Nat) + Int.toNat (↑s_1 : Int) * (1 : Nat)) [Value.int IntKind.i64 (↑p : Int)]) (1 : Nat) true true (true && List.all [Value.int IntKind.i64 (↑p : Int)] atom)) :: noH = lsG l n ++ some (AObj.row (ints (rkZ (dI l x) s')) (1 : Nat) true true true) :: noH)) (Is ((0 : Int) ≤ (↑s_1 : Int) ∧ (↑s_1 : Int) < (↑(p + (1 : Nat)) : Int)) ∧ Is ((0 : Nat) + Int.toNat (↑s_1 : Int) * (1 : Nat) + (1 : Nat) ≤ List.length (ints (midZ (dI l x) p s_1))) ∧ ∃ (s' : Nat), Is (s' ≤ n) ∧ Is (n - s' < n - s) ∧ (Value.slice (some { block := (0 : Nat), off := (0 : Nat) }) n c = Value.slice (some { block := (0 : Nat), off := (0 : Nat) }) n c ∧ Value.int IntKind.i64 x = Value.int IntKind.i64 x ∧ Value.slice (some { block := (2 * n + 1), off := (0 : Nat) }) (p + (1 : Nat)) (0 : Nat) = Value.slice (some { block := (2 * n + 1), off := (0 : Nat) }) s' (0 : Nat) ∧ Value.int IntKind.i64 (IntKind.wrap IntKind.i64 ((↑p : Int) + (1 : Int))) = Value.int IntKind.i64 (↑s' : Int) ∧ True) ∧ lsG l n ++ some (AObj.row (putL (ints (midZ (dI l x) p s_1)) ((0 : Nat) + Int.toNat (↑s_1 : Int) * (1 : Nat)) [Value.int IntKind.i64 (↑p : Int)]) (1 : Nat) true true (true && List.all [Value.int IntKind.i64 (↑p : Int)] atom)) :: noH = lsG l n ++ some (AObj.row (ints (rkZ (dI l x) s')) (1 : Nat) true true true) :: noH)) (K (Value.slice (some { block := (2 * n + 1), off := (0 : Nat) }) s (0 : Nat)) (lsG l n ++ some (AObj.row (ints (rkZ (dI l x) s)) (1 : Nat) true true true) :: noH)))
theorem rr0_t (l : Ls) (x : Int) (c : Nat) (K : Value → Heap → Prop) : fnP Tryz.prog c0 (hsRr l x 0 c) 11 [.slice (some ⟨0, 0, none⟩) 0 c, .int .i64 x] (lsG l 0) K = rrT l x 0 c K := by kernel_rfl
theorem rr1_t (l : Ls) (x : Int) (c : Nat) (K : Value → Heap → Prop) : fnP Tryz.prog c0 (hsRr l x 1 c) 11 [.slice (some ⟨0, 0, none⟩) 1 c, .int .i64 x] (lsG l 1) K = rrT l x 1 c K := by kernel_rfl
theorem rr2_t (l : Ls) (x : Int) (c : Nat) (K : Value → Heap → Prop) : fnP Tryz.prog c0 (hsRr l x 2 c) 11 [.slice (some ⟨0, 0, none⟩) 2 c, .int .i64 x] (lsG l 2) K = rrT l x 2 c K := by kernel_rfl
theorem rr3_t (l : Ls) (x : Int) (c : Nat) (K : Value → Heap → Prop) : fnP Tryz.prog c0 (hsRr l x 3 c) 11 [.slice (some ⟨0, 0, none⟩) 3 c, .int .i64 x] (lsG l 3) K = rrT l x 3 c K := by kernel_rfl
theorem rr4_t (l : Ls) (x : Int) (c : Nat) (K : Value → Heap → Prop) : fnP Tryz.prog c0 (hsRr l x 4 c) 11 [.slice (some ⟨0, 0, none⟩) 4 c, .int .i64 x] (lsG l 4) K = rrT l x 4 c K := by kernel_rfl
theorem rr5_t (l : Ls) (x : Int) (c : Nat) (K : Value → Heap → Prop) : fnP Tryz.prog c0 (hsRr l x 5 c) 11 [.slice (some ⟨0, 0, none⟩) 5 c, .int .i64 x] (lsG l 5) K = rrT l x 5 c K := by kernel_rfl
theorem rr6_t (l : Ls) (x : Int) (c : Nat) (K : Value → Heap → Prop) : fnP Tryz.prog c0 (hsRr l x 6 c) 11 [.slice (some ⟨0, 0, none⟩) 6 c, .int .i64 x] (lsG l 6) K = rrT l x 6 c K := by kernel_rfl
end
end Qq
end
section
/- The sort, told from the cells. -/
open Go Go.Vm Go.Proofs Sp
namespace Sp
noncomputable section
/-- The days in the cells; whether the cells are those of what is due, numbered from i on. -/
def dueDs : List Value → List Int
  | _ :: _ :: _ :: .int _ a :: _ :: r => a :: dueDs r
  | _ => []
def duesB : Nat → List Value → Bool
  | _, [] => true
  | i, p :: q :: s :: .int .i64 _ :: .int .i64 k :: r => isPoi p && isPoi q && isPoi s && k == (i : Int) && duesB (i + 1) r
  | _, _ => false
noncomputable def rkL (ds : List Int) (n : Nat) : List Nat := rk (fun i => ds.getD i 0) n
noncomputable def sN (ds : List Int) (n j : Nat) : Int := ((rkL ds n).getD j 0 : Nat)
noncomputable def sD (ds : List Int) (n j : Nat) : Int := ds.getD ((rkL ds n).getD j 0) 0
noncomputable def spC (ds : List Int) (n : Nat) : List Value := (List.range n).flatMap fun j => [poi, poi, poi, .int .i64 (sD ds n j), .int .i64 (sN ds n j)]
end
end Sp
namespace Qq
noncomputable section
def dzG : Nat → List Int → List Value
  | _, [] => []
  | i, a :: r => poi :: poi :: poi :: .int .i64 a :: .int .i64 (i : Int) :: dzG (i + 1) r
theorem dues_dz : ∀ (i : Nat) (cells : List Value), duesB i cells = true → cells = dzG i (dueDs cells)
  | _, [], _ => rfl
  | i, p :: q :: s :: .int .i64 a :: .int .i64 k :: r, h => by
    simp only [duesB, Bool.and_eq_true] at h
    obtain ⟨⟨⟨⟨h1, h2⟩, h3⟩, h4⟩, h5⟩ := h
    have h4 : k = (i : Int) := by simpa using h4
    rw [isPoi_eq h1, isPoi_eq h2, isPoi_eq h3, h4, dueDs, dzG, ← dues_dz (i + 1) r h5]
theorem dzG_len : ∀ (i : Nat) (ds : List Int), (dzG i ds).length = ds.length * 5
  | _, [] => rfl
  | i, a :: r => by rw [dzG]; simp only [List.length_cons]; rw [dzG_len (i + 1) r]; omega
theorem dzG_dz : ∀ (i : Nat) (ds : List Int), dzG i ds = dzC (fun m => ds.getD (m - i) 0) (List.range' i ds.length)
  | _, [] => rfl
  | i, a :: r => by
    rw [dzG, List.length_cons, List.range'_succ, dz_cons, dzG_dz (i + 1) r]
    have e : dzC (fun m => r.getD (m - (i + 1)) 0) (List.range' (i + 1) r.length) = dzC (fun m => (a :: r).getD (m - i) 0) (List.range' (i + 1) r.length) := by
      rw [dzC, dzC]
      rw [List.flatMap_def, List.flatMap_def]
      refine congrArg _ (List.map_congr_left fun m hm => ?_)
      have hm := (List.mem_range'_1.1 hm).1
      rw [show m - i = m - (i + 1) + 1 by omega, List.getD_cons_succ]
    rw [e, Nat.sub_self]; rfl
noncomputable def orcSoU : Orc
  | [.slice (some ⟨0, 0, none⟩) n _, .int .i64 lo, .int .i64 hi, .func (.func 41) xs us], [some (.row cells 5 m true false)] =>
    if (xs.toList.isEmpty && us.toList.isEmpty && lo == 0 && hi == (n : Int) && duesB 0 cells && Nat.beq cells.length (n * 5) && Nat.ble 1 n && Nat.ble n 1000) = true then some (.tuple #[], [some (.row (spC (dueDs cells) n) 5 m true false)]) else none
  | _, _ => none
theorem spC_eq {ds : List Int} {n : Nat} : spC ds n = dzC (fun i => ds.getD i 0) (rkL ds n) := by
  have hl : (rkL ds n).length = n := rk_len _ n
  have : rkL ds n = (List.range n).map fun j => (rkL ds n).getD j 0 := by
    apply List.ext_getElem
    · rw [List.length_map, List.length_range, hl]
    · intro i h1 h2
      rw [List.getElem_map, List.getElem_range, List.getD_eq_getElem?_getD, List.getElem?_eq_getElem h1]; rfl
  conv => rhs; rw [this]
  rw [dzC, List.flatMap_map, spC]; rfl
theorem okSoU : Ok Tryz.prog 118 orcSoU := by
  intro args H ret H' h
  unfold orcSoU at h
  split at h
  · rename_i n c lo hi xs us cells m
    split at h
    · rename_i hc
      cases h
      simp only [Bool.and_eq_true] at hc
      obtain ⟨⟨⟨⟨⟨⟨⟨c1, c2⟩, c3⟩, c4⟩, c5⟩, c6⟩, c7⟩, c8⟩ := hc
      have c3 : lo = 0 := by simpa using c3
      have c4 : hi = (n : Int) := by simpa using c4
      have c6 := Nat.eq_of_beq_eq_true c6
      have c7 := Nat.le_of_ble_eq_true c7
      have c8 := Nat.le_of_ble_eq_true c8
      have e1 := dues_dz 0 cells c5
      have hn : (dueDs cells).length = n := by rw [e1, dzG_len] at c6; omega
      have e2 : cells = dzC (fun m => (dueDs cells).getD m 0) (List.range n) := by
        conv => lhs; rw [e1, dzG_dz, hn]
        rw [List.range_eq_range']; rfl
      have x1 : xs = #[] := by simpa using c1
      have u1 : us = #[] := by simpa using c2
      have := so_ok (m := m) (d := fun i => (dueDs cells).getD i 0) (c := c) c7 c8
      rw [spC_eq, c3, c4, x1, u1]
      rw [dzR, dzR, ← e2] at this
      exact this
    · cases h
  · cases h
end
end Qq
end
section
/- The program's Ranked, few sections. -/
open Go Go.Vm Go.Proofs Sp
namespace Qq
noncomputable section
/-- The integers, the acts in cells. -/
noncomputable def deI : List Value → List Int
  | .int .i64 x :: r => x :: deI r
  | _ => []
noncomputable def deA : List Value → List (Int × ByteArray)
  | .int .i64 x :: .string s :: r => (x, s) :: deA r
  | _ => []
theorem deI_ints : ∀ zs, deI (ints zs) = zs
  | [] => rfl
  | x :: r => congrArg (x :: ·) (deI_ints r)
theorem deA_acs : ∀ ks, deA (acs ks) = ks
  | [] => rfl
  | (x, s) :: r => congrArg ((x, s) :: ·) (deA_acs r)
end
end Qq
namespace Sp
open Qq
noncomputable section
noncomputable def ckC (nm : ByteArray) (n k : Nat) (e1 e2 : List Value) : Int := secE nm (deI e1) n (deA e2) k
noncomputable def rdC (n k : Nat) (p x : Int) (e1 e2 : List Value) : Int := rdE (deI e1) (deA e2) n k p x
noncomputable def rnC (n k : Nat) (p x : Int) (e1 e2 : List Value) : Int := rdN (deI e1) (deA e2) n k p x
noncomputable def isC (n k : Nat) (e1 e2 : List Value) : Prop := isSec (deI e1) (deA e2) n k e1 e2
noncomputable def ipC (n k : Nat) (p x : Int) (e1 e2 : List Value) : Prop := isPer (deI e1) (deA e2) n k p e1 e2 ∧ 0 ≤ x ∧ x ≤ 100000
end
end Sp
namespace Qq
noncomputable section
/-- The sections that the program has made. -/
def owC (l : Ls) (b n : Nat) : List Value := (List.range n).flatMap fun i => [.string (l.nm i), .slice (some ⟨b + 2 * i, 0, none⟩) (l.N i) 0, .slice (some ⟨b + 2 * i + 1, 0, none⟩) (l.K i) 0]
def owT (l : Ls) (n : Nat) : Heap := (List.range n).flatMap fun i => [some (.row (ints (l.zs i)) 2 true true true), some (.row (acs (l.ks i)) 2 true true true)]
def owR (l : Ls) (b n : Nat) : Option AObj := some (.row (owC l b n) 3 true true (Nat.beq n 0))
def owG (l : Ls) (n : Nat) : Heap := owR l 1 n :: owT l n
noncomputable def orcCkG : OrcV
  | [.agg ⟨[.string nm, .slice (some ⟨0, 0, none⟩) n _c, .slice (some ⟨1, 0, none⟩) k _d]⟩], [some (.row e1 2 m1 w1 true), some (.row e2 2 m2 w2 true)] => some (.int .i64 (ckC nm n k e1 e2), [some (.row e1 2 m1 w1 true), some (.row e2 2 m2 w2 true)], isC n k e1 e2)
  | _, _ => none
theorem okCkG : OkV Tryz.prog 36 orcCkG := by
  intro args H ret H' vc h hv
  unfold orcCkG at h
  split at h
  · cases h
    exact ck_okV _ _ _ _ _ _ _ rfl hv
  · cases h
noncomputable def orcReG : OrcV
  | [.agg ⟨[.string _nm, .slice (some ⟨0, 0, none⟩) n _c, .slice (some ⟨1, 0, none⟩) k _d]⟩, .int .i64 p, .int .i64 x], [some (.row e1 2 true true true), some (.row e2 2 true true true)] =>
    some (.tuple #[.int .i64 (gz (rdC n k p x e1 e2) (rnC n k p x e1 e2)), .int .i64 (rdC n k p x e1 e2)], [some (.row e1 2 true true true), some (.row e2 2 true true true)], ipC n k p x e1 e2)
  | _, _ => none
theorem okReG : OkV Tryz.prog 39 orcReG := by
  intro args H ret H' vc h hv
  unfold orcReG at h
  split at h
  · cases h
    exact rd_okV _ _ _ _ _ _ _ rfl hv
  · cases h
noncomputable def tRk : List (Nat × Orc) := (118, orcSoU) :: (38, orcDay) :: t1
noncomputable def cRk : CallF := ctx Tryz.prog tRk
theorem cRk_ok : CallOK Tryz.prog cRk := ctx_ok hm (all_cons okSoU (all_cons okIdxP (all_cons okWhen (all_cons okFirst all_nil))))
/-- What is due, so far. -/
def duC (l : Ls) (x : Int) (n : Nat) : List Value := (List.range n).flatMap fun j => [poi, poi, poi, .int .i64 (dI l x j), .int .i64 (j : Int)]
noncomputable def lpRk (l : Ls) (x : Int) (n i : Nat) : Lp where
  σ := Unit
  E _ := slots 82 [(0, .slice (some ⟨0, 0, none⟩) n 0), (1, .int .i64 x), (11, match i with | 0 => .slice none 0 0 | i + 1 => .slice (some ⟨2 * n + 1, 0, none⟩) (i + 1) 0), (14, .pointer (some ⟨match i with | 0 => 2 * n + 1 | _ + 1 => 2 * n + 2, 0, none⟩)), (48, .slice (some ⟨0, 0, none⟩) n 0), (49, .int .i64 (n : Int)), (50, .int .i64 (i : Int))]
  Hp _ := owG l n ++ (match i with | 0 => [] | i + 1 => [some (.row (duC l x (i + 1)) 5 true true false)]) ++ [some (.row [poi, poi, poi, .int .i64 (dI l x i), .int .i64 (i : Int)] 0 false true false)]
  I _ := True
  m _ := 0
noncomputable def hsRk (l : Ls) (x : Int) (n : Nat) : Hs Tryz.prog where
  op y := if y = 705 then some (hMl Tryz.prog) else if y = 1003 then some (hMu Tryz.prog) else none
  cx y env := if y = 23 then match gt env 50 with | .int _ i => some ⟨Unit, fun _ => lpRk l x n i.toNat⟩ | _ => none else none
  cl y := if y = 23 then keep 82 [0, 1, 11, 14, 48, 49, 50] else []
  nl y := if y = 23 then [.dul (2 * n + 1) 5 3, .dul (2 * n + 2) 5 3] else [.stay]
  rn := [.only (.slot 0 1)]
  sm := true
  au := auCalls [(36, hCa Tryz.prog 36 orcCkG okCkG), (39, hCa Tryz.prog 39 orcReG okReG)]
noncomputable def cRk0 : CallF := ctx Tryz.prog ((38, orcDay) :: t1)
theorem cRk0_ok : CallOK Tryz.prog cRk0 := ctx_ok hm (all_cons okIdxP (all_cons okWhen (all_cons okFirst all_nil)))
end
end Qq
end
section
/- The reference's CheckSections, of any list. -/
open Go Go.Vm Go.Proofs Sp
namespace Sp
noncomputable section
noncomputable def scE (l : Ls) (i : Nat) : Int := secE (l.nm i) (l.zs i) (l.N i) (l.ks i) (l.K i)
noncomputable def nmAt (l : Ls) (off : Nat) : Value := .string (l.nm (off / 3))
/-- Whether one of the first k has the name of the i-th. -/
noncomputable def dupB (l : Ls) (i : Nat) : Nat → Bool
  | 0 => false
  | k + 1 => dupB l i k || (l.nm k).toList == (l.nm i).toList
noncomputable def csI (l : Ls) (i : Nat) : Int := if scE l i = 0 then (if dupB l i i = true then 9 else 0) else scE l i
noncomputable def csA (l : Ls) : Nat → Int
  | 0 => 0
  | n + 1 => if csA l n = 0 then csI l n else csA l n
noncomputable def csE (l : Ls) (n : Nat) : Int := if (32 : Int) < n then 5 else csA l n
end
end Sp
namespace Qq
noncomputable section
/-- Sections of few measurements. -/
def okLt (l : Ls) (n : Nat) : Prop := ∀ i, i < n → (l.zs i).length = l.N i * 2 ∧ (l.ks i).length = l.K i ∧ l.N i ≤ 1000 ∧ l.K i ≤ 1000
noncomputable def selCk (l : Ls) : Sel := selS (fun i => .int .i64 (scE l i)) noMore (fun i _ => (l.zs i).length = l.N i * 2 ∧ (l.ks i).length = l.K i ∧ l.N i ≤ 1000 ∧ l.K i ≤ 1000) l
theorem noMore_nil {t t' : List Value} (ht : noMore t = some t') : t' = [] := by
  unfold noMore at ht
  split at ht
  · cases ht; rfl
  · cases ht
theorem selCk_ok (l : Ls) : ∀ ar ids a0 H0 ret vc, selCk l ar = some (ids, a0, H0, ret, vc) → vc → SmallRes Tryz.prog 45 a0 H0 ret H0 := by
  intro ar ids a0 H0 ret vc h hv
  unfold selCk selS at h
  split at h
  · rename_i nm j n c k m d t
    split at h
    · rename_i t' ht
      cases h
      cases noMore_nil ht
      obtain ⟨⟨rfl, rfl, rfl⟩, h1, h2, h3, h4⟩ := hv
      exact ckR_okV (l.zs ((j - 1) / 2)) (l.ks ((j - 1) / 2)) _ _ _ _ _ rfl ⟨rfl, rfl, h1, h2, h3, h4⟩
    · cases h
  · cases h
noncomputable def lpCs (l : Ls) (n c : Nat) (T : Heap) : Lp where
  σ := Nat
  E s := slots 39 [(0, .slice (some ⟨0, 0, none⟩) n c), (3, .int .i64 (s : Int))]
  Hp _ := lsR l n :: T
  I s := s ≤ n ∧ csA l s = 0
  m s := n - s
noncomputable def lpCi (l : Ls) (n c : Nat) (T : Heap) (i : Nat) : Lp where
  σ := Nat
  E s := slots 39 [(0, .slice (some ⟨0, 0, none⟩) n c), (3, .int .i64 (i : Int)), (5, .int .i64 (s : Int))]
  Hp _ := lsR l n :: T
  I s := (i < n ∧ csA l i = 0) ∧ scE l i = 0 ∧ s ≤ i ∧ dupB l i s = false
  m s := n - s
noncomputable def hsCs (l : Ls) (n c : Nat) (T : Heap) : Hs Tryz.prog where
  op y := if [602, 1202, 1207].contains y then some (hIa Tryz.prog) else if y = 603 then some (hLd Tryz.prog (secAt l)) else if y = 604 then some (hCi Tryz.prog 45 (selCk l) (selCk_ok l)) else if [1204, 1209].contains y then some (hLd Tryz.prog (nmAt l)) else none
  lp y := if y = 4 then some (lpCs l n c T) else none
  lq y := if y = 10 then some ⟨Nat, lpCi l n c T⟩ else none
  cl y := if y = 10 then keep 39 [0, 3, 5] else keep 39 [0, 3]
  nl _ := [.stay]
  rn := [.stay]
  au := au0 Tryz.prog
theorem csL_t (l : Ls) (n : Nat) (c : Nat) (T : Heap) (K : Value → Heap → Prop) :
    (fnP Tryz.prog c0 (hsCs l n c T) (9 : FuncId) [Value.slice (some { block := (0 : Nat), off := (0 : Nat) }) n c] (lsR l n :: T) K) =
    (br (decide ((32 : Int) < (↑n : Int))) (K (Value.int IntKind.i64 (5 : Int)) (some (AObj.row (lsC l n) (3 : Nat) false false false) :: T)) ((∃ (s : Nat), Is (s ≤ n ∧ csA l s = (0 : Int)) ∧ [Value.slice (some { block := (0 : Nat), off := (0 : Nat) }) n c, poi, poi, Value.int IntKind.i64 (0 : Int), poi, poi, poi, poi, poi, poi, poi, poi, poi, poi, poi, poi, poi, poi, poi, poi, poi, poi, poi, poi, poi, poi, poi, poi, poi, poi, poi, poi, poi, poi, poi, poi, poi, poi, poi] = [Value.slice (some { block := (0 : Nat), off := (0 : Nat) }) n c, poi, poi, Value.int IntKind.i64 (↑s : Int), poi, poi, poi, poi, poi, poi, poi, poi, poi, poi, poi, poi, poi, poi, poi, poi, poi, poi, poi, poi, poi, poi, poi, poi, poi, poi, poi, poi, poi, poi, poi, poi, poi, poi, poi] ∧ some (AObj.row (lsC l n) (3 : Nat) false false false) :: T = some (AObj.row (lsC l n) (3 : Nat) false false false) :: T) ∧ ∀ (s : Nat), Is (s ≤ n ∧ csA l s = (0 : Int)) → br (decide ((↑s : Int) < (↑n : Int))) (Is ((0 : Int) ≤ (↑s : Int) ∧ (↑s : Int) < (↑n : Int)) ∧ Is ((if (0 : Nat) + Int.toNat (↑s : Int) * (3 : Nat) + (3 : Nat) ≤ List.length (lsC l n) then some (Value.agg (List.toArray (List.take (3 : Nat) (List.drop ((0 : Nat) + Int.toNat (↑s : Int) * (3 : Nat)) (lsC l n))))) else none) = some (Value.agg #[Value.string (Ls.nm l (((0 : Nat) + Int.toNat (↑s : Int) * (3 : Nat)) / (3 : Nat))), Value.slice (some { block := (1 : Nat) + (2 : Nat) * (((0 : Nat) + Int.toNat (↑s : Int) * (3 : Nat)) / (3 : Nat)), off := (0 : Nat) }) (Ls.N l (((0 : Nat) + Int.toNat (↑s : Int) * (3 : Nat)) / (3 : Nat))) (18446744073709551616 : Nat), Value.slice (some { block := (2 : Nat) + (2 : Nat) * (((0 : Nat) + Int.toNat (↑s : Int) * (3 : Nat)) / (3 : Nat)), off := (0 : Nat) }) (Ls.K l (((0 : Nat) + Int.toNat (↑s : Int) * (3 : Nat)) / (3 : Nat))) (18446744073709551616 : Nat)])) ∧ Is (CiOK (some (AObj.row (lsC l n) (3 : Nat) false false false) :: T) [Value.agg #[Value.string (Ls.nm l (((0 : Nat) + Int.toNat (↑s : Int) * (3 : Nat)) / (3 : Nat))), Value.slice (some { block := (1 : Nat) + (2 : Nat) * (((0 : Nat) + Int.toNat (↑s : Int) * (3 : Nat)) / (3 : Nat)), off := (0 : Nat) }) (Ls.N l (((0 : Nat) + Int.toNat (↑s : Int) * (3 : Nat)) / (3 : Nat))) (18446744073709551616 : Nat), Value.slice (some { block := (2 : Nat) + (2 : Nat) * (((0 : Nat) + Int.toNat (↑s : Int) * (3 : Nat)) / (3 : Nat)), off := (0 : Nat) }) (Ls.K l (((0 : Nat) + Int.toNat (↑s : Int) * (3 : Nat)) / (3 : Nat))) (18446744073709551616 : Nat)]] [(1 : Nat) + (2 : Nat) * (((0 : Nat) + Int.toNat (↑s : Int) * (3 : Nat)) / (3 : Nat)), (2 : Nat) + (2 : Nat) * (((0 : Nat) + Int.toNat (↑s : Int) * (3 : Nat)) / (3 : Nat))] [Value.agg #[Value.string (Ls.nm l (((0 : Nat) + Int.toNat (↑s : Int) * (3 : Nat)) / (3 : Nat))), Value.slice (some { block := (0 : Nat), off := (0 : Nat) }) (Ls.N l (((0 : Nat) + Int.toNat (↑s : Int) * (3 : Nat)) / (3 : Nat))) (18446744073709551616 : Nat), Value.slice (some { block := (1 : Nat), off := (0 : Nat) }) (Ls.K l (((0 : Nat) + Int.toNat (↑s : Int) * (3 : Nat)) / (3 : Nat))) (18446744073709551616 : Nat)]] (some (AObj.row (ints (Ls.zs l (((1 : Nat) + (2 : Nat) * (((0 : Nat) + Int.toNat (↑s : Int) * (3 : Nat)) / (3 : Nat)) - (1 : Nat)) / (2 : Nat)))) (2 : Nat) false false true) :: some (AObj.row (acs (Ls.ks l (((1 : Nat) + (2 : Nat) * (((0 : Nat) + Int.toNat (↑s : Int) * (3 : Nat)) / (3 : Nat)) - (1 : Nat)) / (2 : Nat)))) (2 : Nat) false false true) :: noH) (Value.int IntKind.i64 (scE l (((1 : Nat) + (2 : Nat) * (((0 : Nat) + Int.toNat (↑s : Int) * (3 : Nat)) / (3 : Nat)) - (1 : Nat)) / (2 : Nat)))) ∧ (Ls.nm l (((0 : Nat) + Int.toNat (↑s : Int) * (3 : Nat)) / (3 : Nat)) = Ls.nm l (((1 : Nat) + (2 : Nat) * (((0 : Nat) + Int.toNat (↑s : Int) * (3 : Nat)) / (3 : Nat)) - (1 : Nat)) / (2 : Nat)) ∧ Ls.N l (((0 : Nat) + Int.toNat (↑s : Int) * (3 : Nat)) / (3 : Nat)) = Ls.N l (((1 : Nat) + (2 : Nat) * (((0 : Nat) + Int.toNat (↑s : Int) * (3 : Nat)) / (3 : Nat)) - (1 : Nat)) / (2 : Nat)) ∧ Ls.K l (((0 : Nat) + Int.toNat (↑s : Int) * (3 : Nat)) / (3 : Nat)) = Ls.K l (((1 : Nat) + (2 : Nat) * (((0 : Nat) + Int.toNat (↑s : Int) * (3 : Nat)) / (3 : Nat)) - (1 : Nat)) / (2 : Nat))) ∧ List.length (Ls.zs l (((1 : Nat) + (2 : Nat) * (((0 : Nat) + Int.toNat (↑s : Int) * (3 : Nat)) / (3 : Nat)) - (1 : Nat)) / (2 : Nat))) = Ls.N l (((1 : Nat) + (2 : Nat) * (((0 : Nat) + Int.toNat (↑s : Int) * (3 : Nat)) / (3 : Nat)) - (1 : Nat)) / (2 : Nat)) * (2 : Nat) ∧ List.length (Ls.ks l (((1 : Nat) + (2 : Nat) * (((0 : Nat) + Int.toNat (↑s : Int) * (3 : Nat)) / (3 : Nat)) - (1 : Nat)) / (2 : Nat))) = Ls.K l (((1 : Nat) + (2 : Nat) * (((0 : Nat) + Int.toNat (↑s : Int) * (3 : Nat)) / (3 : Nat)) - (1 : Nat)) / (2 : Nat)) ∧ Ls.N l (((1 : Nat) + (2 : Nat) * (((0 : Nat) + Int.toNat (↑s : Int) * (3 : Nat)) / (3 : Nat)) - (1 : Nat)) / (2 : Nat)) ≤ (1000 : Nat) ∧ Ls.K l (((1 : Nat) + (2 : Nat) * (((0 : Nat) + Int.toNat (↑s : Int) * (3 : Nat)) / (3 : Nat)) - (1 : Nat)) / (2 : Nat)) ≤ (1000 : Nat)) ∧ br (scE l (((1 : Nat) + (2 : Nat) * (((0 : Nat) + Int.toNat (↑s : Int) * (3 : Nat)) / (3 : Nat)) - (1 : Nat)) / (2 : Nat)) != (0 : Int)) (K (Value.int IntKind.i64 (scE l (((1 : Nat) + (2 : Nat) * (((0 : Nat) + Int.toNat (↑s : Int) * (3 : Nat)) / (3 : Nat)) - (1 : Nat)) / (2 : Nat)))) (some (AObj.row (lsC l n) (3 : Nat) false false false) :: T)) (∃ (p : Nat), (∃ (s_1 : Nat), Is ((p < n ∧ csA l p = (0 : Int)) ∧ scE l p = (0 : Int) ∧ s_1 ≤ p ∧ dupB l p s_1 = false) ∧ [Value.slice (some { block := (0 : Nat), off := (0 : Nat) }) n c, poi, poi, Value.int IntKind.i64 (↑s : Int), poi, Value.int IntKind.i64 (0 : Int), poi, poi, poi, poi, poi, poi, poi, poi, poi, poi, poi, poi, poi, poi, poi, poi, poi, poi, poi, poi, poi, poi, poi, poi, poi, poi, poi, poi, poi, poi, poi, poi, poi] = [Value.slice (some { block := (0 : Nat), off := (0 : Nat) }) n c, poi, poi, Value.int IntKind.i64 (↑p : Int), poi, Value.int IntKind.i64 (↑s_1 : Int), poi, poi, poi, poi, poi, poi, poi, poi, poi, poi, poi, poi, poi, poi, poi, poi, poi, poi, poi, poi, poi, poi, poi, poi, poi, poi, poi, poi, poi, poi, poi, poi, poi] ∧ some (AObj.row (lsC l n) (3 : Nat) false false false) :: T = some (AObj.row (lsC l n) (3 : Nat) false false false) :: T) ∧ ∀ (s_1 : Nat), Is ((p < n ∧ csA l p = (0 : Int)) ∧ scE l p = (0 : Int) ∧ s_1 ≤ p ∧ dupB l p s_1 = false) → br (decide ((↑s_1 : Int) < (↑p : Int))) (Is ((0 : Int) ≤ (↑s_1 : Int) ∧ (↑s_1 : Int) < (↑n : Int)) ∧ Is ((lsC l n)[(0 : Nat) + Int.toNat (↑s_1 : Int) * (3 : Nat) + (0 : Nat)]? = some (Value.string (Ls.nm l (((0 : Nat) + Int.toNat (↑s_1 : Int) * (3 : Nat) + (0 : Nat)) / (3 : Nat))))) ∧ Is ((0 : Int) ≤ (↑p : Int) ∧ (↑p : Int) < (↑n : Int)) ∧ Is ((lsC l n)[(0 : Nat) + Int.toNat (↑p : Int) * (3 : Nat) + (0 : Nat)]? = some (Value.string (Ls.nm l (((0 : Nat) + Int.toNat (↑p : Int) * (3 : Nat) + (0 : Nat)) / (3 : Nat))))) ∧ br (ByteArray.toList (Ls.nm l (((0 : Nat) + Int.toNat (↑s_1 : Int) * (3 : Nat) + (0 : Nat)) / (3 : Nat))) == ByteArray.toList (Ls.nm l (((0 : Nat) + Int.toNat (↑p : Int) * (3 : Nat) + (0 : Nat)) / (3 : Nat)))) (K (Value.int IntKind.i64 (9 : Int)) (some (AObj.row (lsC l n) (3 : Nat) false false false) :: T)) (∃ (s' : Nat), Is ((p < n ∧ csA l p = (0 : Int)) ∧ scE l p = (0 : Int) ∧ s' ≤ p ∧ dupB l p s' = false) ∧ Is (n - s' < n - s_1) ∧ [Value.slice (some { block := (0 : Nat), off := (0 : Nat) }) n c, poi, poi, Value.int IntKind.i64 (↑p : Int), poi, Value.int IntKind.i64 (IntKind.wrap IntKind.i64 ((↑s_1 : Int) + (1 : Int))), poi, poi, poi, poi, poi, poi, poi, poi, poi, poi, poi, poi, poi, poi, poi, poi, poi, poi, poi, poi, poi, poi, poi, poi, poi, poi, poi, poi, poi, poi, poi, poi, poi] = [Value.slice (some { block := (0 : Nat), off := (0 : Nat) }) n c, poi, poi, Value.int IntKind.i64 (↑p : Int), poi, Value.int IntKind.i64 (↑s' : Int), poi, poi, poi, poi, poi, poi, poi, poi, poi, poi, poi, poi, poi, poi, poi, poi, poi, poi, poi, poi, poi, poi, poi, poi, poi, poi, poi, poi, poi, poi, poi, poi, poi] ∧ some (AObj.row (lsC l n) (3 : Nat) false false false) :: T = some (AObj.row (lsC l n) (3 : Nat) false false false) :: T)) (∃ (s' : Nat), Is (s' ≤ n ∧ csA l s' = (0 : Int)) ∧ Is (n - s' < n - s) ∧ [Value.slice (some { block := (0 : Nat), off := (0 : Nat) }) n c, poi, poi, Value.int IntKind.i64 (IntKind.wrap IntKind.i64 ((↑p : Int) + (1 : Int))), poi, poi, poi, poi, poi, poi, poi, poi, poi, poi, poi, poi, poi, poi, poi, poi, poi, poi, poi, poi, poi, poi, poi, poi, poi, poi, poi, poi, poi, poi, poi, poi, poi, poi, poi] = [Value.slice (some { block := (0 : Nat), off := (0 : Nat) }) n c, poi, poi, Value.int IntKind.i64 (↑s' : Int), poi, poi, poi, poi, poi, poi, poi, poi, poi, poi, poi, poi, poi, poi, poi, poi, poi, poi, poi, poi, poi, poi, poi, poi, poi, poi, poi, poi, poi, poi, poi, poi, poi, poi, poi] ∧ some (AObj.row (lsC l n) (3 : Nat) false false false) :: T = some (AObj.row (lsC l n) (3 : Nat) false false false) :: T))) (K (Value.int IntKind.i64 (0 : Int)) (some (AObj.row (lsC l n) (3 : Nat) false false false) :: T)))) := by kernel_rfl
theorem e4 (s : Nat) : (0 + s * 3 + 0) / 3 = s := by omega
theorem nm_ld (l : Ls) {s n : Nat} (h : s < n) : (lsC l n)[0 + s * 3 + 0]? = some (.string (l.nm s)) := by
  have e := lsC_part l h
  have : (((lsC l n).drop (s * 3)).take 3)[0]? = some (.string (l.nm s)) := by rw [e]; rfl
  rw [List.getElem?_take_of_lt (by decide), List.getElem?_drop] at this
  rw [show 0 + s * 3 + 0 = s * 3 + 0 by omega]; exact this
theorem dup_le {l : Ls} {i k : Nat} (h : dupB l i k = true) : ∀ {m : Nat}, k ≤ m → dupB l i m = true
  | 0, hm => by have : k = 0 := by omega
                rw [this] at h; exact h
  | m + 1, hm => by
    by_cases e : k = m + 1
    · rw [← e]; exact h
    · rw [dupB, dup_le h (m := m) (by omega), Bool.true_or]
theorem csA_stop {l : Ls} {i : Nat} (h0 : csA l i = 0) (hi : csI l i ≠ 0) : ∀ {n : Nat}, i < n → csA l n = csI l i
  | n + 1, h => by
    rw [csA]
    by_cases e : i = n
    · subst e; rw [if_pos h0]
    · have := csA_stop h0 hi (n := n) (by omega)
      rw [if_neg (by rw [this]; exact hi), this]
theorem cs_ok {l : Ls} {n c : Nat} {T : Heap} (h : lsIn l n T) (hl : okLt l n) : SmallRes Tryz.prog 9 [.slice (some ⟨0, 0, none⟩) n c] (lsR l n :: T) (.int .i64 (csE l n)) (lsR l n :: T) := by
  refine fnP_res hm c0_ok (hs := hsCs l n c T) ?_
  show fnP Tryz.prog c0 (hsCs l n c T) 9 _ _ _
  rw [csL_t]
  refine br_of (fun h0 => ⟨by rw [csE, if_pos (of_decide_eq_true h0)], rfl⟩) (fun h0 => ?_)
  have h0 := of_decide_eq_false h0
  have e0 : csE l n = csA l n := by rw [csE, if_neg h0]
  rw [e0]
  refine ⟨⟨(0 : Nat), ⟨Nat.zero_le _, rfl⟩, by first | trivial | rfl, by first | trivial | rfl⟩, fun s hs => br_of (fun hc => ?_) (fun hc => ?_)⟩
  · have hc := lt_of_dec hc
    have hA := hs.out.2
    simp only [Int.toNat_natCast, e3, e2, e4]
    obtain ⟨h1, h2, h3, h4⟩ := hl s hc
    refine ⟨⟨by omega, by omega⟩, ⟨lsC_ld l hc⟩, ⟨sec_ci h hc (by simp) rfl, ⟨by trivial, by trivial, by trivial⟩, h1, h2, h3, h4⟩, br_of (fun hb => ?_) (fun hb => ?_)⟩
    · have hb : scE l s ≠ 0 := by simpa using hb
      have e1 : csI l s = scE l s := by rw [csI, if_neg hb]
      exact ⟨by rw [csA_stop hA (by rw [e1]; exact hb) hc, e1], by first | trivial | rfl⟩
    · have hb : scE l s = 0 := by simpa using hb
      refine ⟨s, ⟨(0 : Nat), ⟨⟨hc, hA⟩, hb, Nat.zero_le _, rfl⟩, by first | trivial | rfl, by first | trivial | rfl⟩, fun k hk => br_of (fun hd => ?_) (fun hd => ?_)⟩
      · have hd := lt_of_dec hd
        obtain ⟨_, _, k3, k4⟩ := hk.out
        refine ⟨⟨by omega, by omega⟩, ⟨nm_ld l (by omega)⟩, ⟨by omega, by omega⟩, ⟨nm_ld l hc⟩, br_of (fun he => ?_) (fun he => ?_)⟩
        · have hd1 : dupB l s s = true := dup_le (k := k + 1) (by rw [dupB, he, Bool.or_true]) (by omega)
          have e1 : csI l s = 9 := by rw [csI, if_pos hb, if_pos hd1]
          exact ⟨by rw [csA_stop hA (by rw [e1]; decide) hc, e1], by first | trivial | rfl⟩
        · exact ⟨k + 1, ⟨⟨hc, hA⟩, hb, by omega, by rw [dupB, k4, he]; rfl⟩, ⟨by omega⟩, by rw [up1 hd (by omega)], by first | trivial | rfl⟩
      · have hd := ge_of_dec hd
        obtain ⟨_, _, k3, k4⟩ := hk.out
        have : s = k := by omega
        subst this
        have e1 : csI l s = 0 := by rw [csI, if_pos hb, if_neg (by rw [k4]; decide)]
        exact ⟨s + 1, ⟨by omega, by rw [csA, if_pos hA, e1]⟩, ⟨by omega⟩, by rw [up1 hc (by omega)], by first | trivial | rfl⟩
  · have hc := ge_of_dec hc
    have : n = s := by have := hs.out.1; omega
    subst this
    exact ⟨by rw [hs.out.2], by first | trivial | rfl⟩

end
end Qq
end
section
/- Ranked: plain facts. -/
open Go Go.Vm Go.Proofs Sp
namespace Sp
open Qq
noncomputable section
noncomputable def rkE (l : Ls) (n : Nat) (x : Int) : Int := if csA l n = 0 then wi x 0 100000 else csA l n
noncomputable def rkM (l : Ls) (n : Nat) (x : Int) : Nat := if rkE l n x = 0 then n else 0
noncomputable def resI (l : Ls) (x : Int) (n : Nat) : List Int := (List.range n).map fun j => sN ((List.range n).map (dI l x)) n j
noncomputable def rkI (l : Ls) (n : Nat) (x : Int) : List Int := if rkE l n x = 0 then resI l x n else []
end
end Sp
namespace Qq
noncomputable section
/-- The names that are known. -/
def kn (l : Ls) (i : Nat) : List (ByteArray × Value) := (List.range i).map fun j => (l.nm j, .bool true)
theorem hasK_app (s : ByteArray) : ∀ a b, hasK s (a ++ b) = (hasK s a || hasK s b)
  | [], b => rfl
  | p :: r, b => by rw [List.cons_append, hasK, hasK, hasK_app s r b, Bool.or_assoc]
theorem bytes_comm (a b : ByteArray) : (a == b) = (b.toList == a.toList) := by
  rw [beq_toListBytes]
  exact Bool.eq_iff_iff.2 ⟨fun h => by rw [beq_iff_eq] at h ⊢; exact h.symm, fun h => by rw [beq_iff_eq] at h ⊢; exact h.symm⟩
theorem hasK_kn (l : Ls) (i : Nat) : ∀ k, hasK (l.nm i) (kn l k) = dupB l i k
  | 0 => rfl
  | k + 1 => by
    rw [kn, List.range_succ, List.map_append, hasK_app, dupB]
    have := hasK_kn l i k
    rw [kn] at this
    rw [this]
    show (_ || hasK (l.nm i) [(l.nm k, .bool true)]) = _
    rw [hasK, hasK, Bool.or_false, bytes_comm]
noncomputable def ckF (l : Ls) (i : Nat) : Int := fi [ckC (l.nm i) (l.N i) (l.K i) (ints (l.zs i)) (acs (l.ks i)), wh (hasK (l.nm i) (kn l i)) 9]
theorem ckF_eq (l : Ls) (i : Nat) : ckF l i = csI l i := by
  rw [ckF, ckC, deI_ints, deA_acs, hasK_kn, csI]
  show fi [scE l i, _] = _
  rw [fi, fi, fi, wh]
  cases dupB l i i
  · by_cases h : scE l i = 0
    · rw [if_pos h, if_pos h]; rfl
    · rw [if_neg h, if_neg h]
  · by_cases h : scE l i = 0
    · rw [if_pos h, if_pos h]; rfl
    · rw [if_neg h, if_neg h]
theorem is_of {l : Ls} {n : Nat} (i : Nat) (hl : okLt l n) (h : i < n) : isC (l.N i) (l.K i) (ints (l.zs i)) (acs (l.ks i)) := by
  obtain ⟨h1, h2, h3, h4⟩ := hl i h
  rw [isC, deI_ints, deA_acs]
  exact ⟨rfl, rfl, h1, h2, h3, h4⟩
theorem rk_bad {l : Ls} {n : Nat} {x : Int} (i : Nat) (h0 : csA l i = 0) (hi : i < n) (h : (ckF l i != 0) = true) : rkE l n x = ckF l i ∧ rkM l n x = 0 ∧ rkI l n x = [] := by
  have h : ckF l i ≠ 0 := by simpa using h
  have hc : csI l i ≠ 0 := by rw [← ckF_eq]; exact h
  have e : rkE l n x = ckF l i := by
    rw [rkE, csA_stop h0 hc hi, if_neg hc, ckF_eq]
  refine ⟨e, ?_, ?_⟩
  · rw [rkM, e, if_neg h]
  · rw [rkI, e, if_neg h]
theorem rk_on {l : Ls} (i : Nat) (h0 : csA l i = 0) (h : (ckF l i != 0) = false) : hasK (l.nm i) (kn l i) = false ∧ csA l (i + 1) = 0 ∧ scE l i = 0 := by
  have h : csI l i = 0 := by rw [← ckF_eq]; simpa using h
  have h1 : scE l i = 0 := by
    rw [csI] at h
    by_cases e : scE l i = 0
    · exact e
    · rw [if_neg e] at h; exact absurd h e
  have h2 : dupB l i i = false := by
    rw [csI, if_pos h1] at h
    cases e : dupB l i i
    · rfl
    · rw [e] at h; simp at h
  exact ⟨by rw [hasK_kn]; exact h2, by rw [csA, if_pos h0]; exact h, h1⟩
theorem rk_lim {l : Ls} {n : Nat} {x : Int} (h0 : csA l n = 0) (h : (wi x 0 100000 != 0) = true) : rkE l n x = wi x 0 100000 ∧ rkM l n x = 0 ∧ rkI l n x = [] := by
  have h : wi x 0 100000 ≠ 0 := by simpa using h
  have e : rkE l n x = wi x 0 100000 := by rw [rkE, if_pos h0]
  refine ⟨e, ?_, ?_⟩
  · rw [rkM, e, if_neg h]
  · rw [rkI, e, if_neg h]
theorem rk_fin {l : Ls} {n : Nat} {x : Int} (h0 : csA l n = 0) (h : (wi x 0 100000 != 0) = false) : rkE l n x = 0 ∧ rkM l n x = n ∧ rkI l n x = resI l x n := by
  have h : wi x 0 100000 = 0 := by simpa using h
  have e : rkE l n x = 0 := by rw [rkE, if_pos h0, h]
  refine ⟨e, ?_, ?_⟩
  · rw [rkM, e, if_pos rfl]
  · rw [rkI, e, if_pos rfl]
theorem lim_in {x : Int} (h : (wi x 0 100000 != 0) = false) : 0 ≤ x ∧ x ≤ 100000 := by
  have h : wi x 0 100000 = 0 := by simpa using h
  rw [wi] at h
  split at h
  · cases h
  · omega
theorem sec_zero {nm : ByteArray} {zs : List Int} {n : Nat} {ks : List (Int × ByteArray)} {k : Nat} (h : secE nm zs n ks k = 0) : mchk zs (-1) = 0 ∧ achk ks (-1) = 0 ∧ n ≤ 32 := by
  rw [secE, sel_zero, sel_zero, sel_zero] at h
  obtain ⟨h1, h2, h3, h4⟩ := h
  refine ⟨h2, h4, ?_⟩
  rw [fi, fi, fi] at h1
  by_cases e : wh (!nameB nm) 8 = 0
  · rw [if_pos e] at h1
    by_cases e2 : wh (decide ((32 : Int) < n)) 5 = 0
    · rw [wh] at e2
      by_cases e3 : (32 : Int) < n
      · rw [decide_eq_true e3] at e2; cases e2
      · omega
    · rw [if_neg e2] at h1; exact absurd h1 e2
  · rw [if_neg e] at h1; exact absurd h1 e
theorem okP_of {l : Ls} {n : Nat} (i : Nat) (hl : okLt l n) (hi : i < n) (h : scE l i = 0) : isPer (l.zs i) (l.ks i) (l.N i) (l.K i) (l.K i : Int) (ints (l.zs i)) (acs (l.ks i)) := by
  obtain ⟨h1, h2, h3⟩ := sec_zero h
  obtain ⟨k1, k2, k3, k4⟩ := hl i hi
  exact ⟨⟨rfl, rfl, k1, k2, k3, k4⟩, h1, h2, h3, by omega, Int.le_refl _⟩
theorem ip_of {l : Ls} {n : Nat} {x : Int} (i : Nat) (hl : okLt l n) (hi : i < n) (h : scE l i = 0) (hx : 0 ≤ x ∧ x ≤ 100000) : ipC (l.N i) (l.K i) (l.K i : Int) x (ints (l.zs i)) (acs (l.ks i)) := by
  rw [ipC, deI_ints, deA_acs]
  exact ⟨okP_of i hl hi h, hx.1, hx.2⟩
theorem dI_yes {l : Ls} {x : Int} (i : Nat) (h : (rdC (l.N i) (l.K i) (l.K i : Int) x (ints (l.zs i)) (acs (l.ks i)) == 0) = true) :
    dI l x i = gz (rdC (l.N i) (l.K i) (l.K i : Int) x (ints (l.zs i)) (acs (l.ks i))) (rnC (l.N i) (l.K i) (l.K i : Int) x (ints (l.zs i)) (acs (l.ks i))) := by
  have h : rdC (l.N i) (l.K i) (l.K i : Int) x (ints (l.zs i)) (acs (l.ks i)) = 0 := by simpa using h
  rw [gz, if_pos h, dI, duN, rnC]
  rw [rdC, deI_ints, deA_acs] at h
  rw [deI_ints, deA_acs, if_pos h]
theorem dI_no {l : Ls} {x : Int} (i : Nat) (h : (rdC (l.N i) (l.K i) (l.K i : Int) x (ints (l.zs i)) (acs (l.ks i)) == 0) = false) : dI l x i = 100001 := by
  have h : rdC (l.N i) (l.K i) (l.K i : Int) x (ints (l.zs i)) (acs (l.ks i)) ≠ 0 := by simpa using h
  rw [dI, duN]
  rw [rdC, deI_ints, deA_acs] at h
  rw [if_neg h]
end
end Qq
end
section
/- The reference's Ranked: it sorts by days. -/
open Go Go.Vm Go.Proofs Sp
namespace Qq
noncomputable section
theorem mid_all {r : List Nat} {i : Nat} (h : r.length = i) : midD r i i = r ++ [i] := by
  rw [midD, if_pos rfl, insD, List.take_of_length_le (by omega), List.drop_eq_nil_of_le (by omega)]
theorem mid_len {r : List Nat} {i k : Nat} (h : r.length = i) (hk : k ≤ i) : (midD r i k).length = i + 1 := by
  rw [midD, insD, List.length_append, List.length_cons, List.length_take, List.length_drop]; omega
theorem mid_end {r : List Nat} {i k : Nat} (h : r.length = i) (hk : k ≤ i) : (midD r i k).set k i = insD r i k := by
  rw [midD, insD, insD, List.set_append_right _ _ (by rw [List.length_take]; omega), List.length_take, show k - min k r.length = 0 by omega]; rfl
theorem mid_step {r : List Nat} {i k : Nat} (h : r.length = i) (hk : k + 1 ≤ i) : (midD r i (k + 1)).getD k 0 = r.getD k 0 ∧ (midD r i (k + 1)).set (k + 1) (r.getD k 0) = midD r i k := by
  obtain ⟨A, B, e, hA⟩ := split_at (L := r) (p := k) (by omega)
  rw [midD, midD, if_neg (show ¬ k = i by omega)]
  generalize (if k + 1 = i then i else r.getD (k + 1) 0) = v
  generalize r.getD k 0 = m at *
  have e1 : insD r v (k + 1) = A ++ m :: v :: B := by
    rw [insD, e, List.take_append, List.drop_append, List.take_of_length_le (by omega), List.drop_eq_nil_of_le (by omega), show k + 1 - A.length = 1 by omega]
    simp
  have e2 : insD r m k = A ++ m :: m :: B := by
    rw [insD, e, List.take_append, List.drop_append, List.take_of_length_le (by omega), List.drop_eq_nil_of_le (by omega), show k - A.length = 0 by omega]
    simp
  rw [e1, e2]
  subst hA
  refine ⟨?_, ?_⟩
  · rw [List.getD_eq_getElem?_getD, List.getElem?_append_right (by omega), Nat.sub_self]; rfl
  · rw [List.set_append_right _ _ (by omega), show A.length + 1 - A.length = 1 by omega]; rfl
theorem nats_len (L : List Nat) : (ints (nats L)).length = L.length := by rw [ints_len, nats, List.length_map]
theorem nat_get {L : List Nat} {p : Nat} (h : p < L.length) : (ints (nats L))[0 + p * 1]? = some (.int .i64 ((L.getD p 0 : Nat) : Int)) := by
  rw [show 0 + p * 1 = p by omega, ints, nats, List.getElem?_map, List.getElem?_map, List.getElem?_eq_getElem h, List.getD_eq_getElem?_getD, List.getElem?_eq_getElem h]; rfl
theorem nat_at {L : List Nat} {p : Nat} (h : p < L.length) : iAt (ints (nats L)) (0 + p * 1) = ((L.getD p 0 : Nat) : Int) := by
  rw [iAt, nat_get h]
theorem nat_put {L : List Nat} {p m : Nat} (h : p < L.length) : putL (ints (nats L)) (0 + p * 1) [.int .i64 (m : Int)] = ints (nats (L.set p m)) := by
  obtain ⟨A, B, e, hA⟩ := split_at h
  generalize L.getD p 0 = v at *
  subst e
  have e1 : (A ++ v :: B).set p m = A ++ m :: B := by rw [List.set_append_right _ _ (by omega), hA, Nat.sub_self]; rfl
  have ap : ∀ (X Y : List Nat), ints (nats (X ++ Y)) = ints (nats X) ++ ints (nats Y) := fun X Y => by rw [nats, nats, nats, ints, ints, ints, List.map_append, List.map_append]
  have cn : ∀ (y : Nat) (Y : List Nat), ints (nats (y :: Y)) = .int .i64 (y : Int) :: ints (nats Y) := fun _ _ => rfl
  have hl := nats_len A
  rw [e1, putL, splice, ap, ap, cn, cn, List.take_append_of_le_length (by omega), List.take_of_length_le (by omega)]
  congr 1
  rw [show (0 + p * 1 + [Value.int .i64 (m : Int)].length) = (ints (nats A)).length + 1 by rw [hl]; simp; omega, List.drop_append, List.drop_eq_nil_of_le (by omega)]
  simp
theorem lsIn_app (l : Ls) (n : Nat) (X : Heap) : lsIn l n (lsT l n ++ X) := by
  induction n generalizing X with
  | zero => intro i hi; omega
  | succ n ih =>
    have hl : ∀ m, (lsT l m).length = 2 * m := fun m => by
      induction m with
      | zero => rfl
      | succ m ih => rw [lsT, List.range_succ, List.flatMap_append, List.length_append]; rw [lsT] at ih; rw [ih]; rfl
    intro i hi
    have e : lsT l (n + 1) ++ X = lsT l n ++ (some (.row (ints (l.zs n)) 2 false false true) :: some (.row (acs (l.ks n)) 2 false false true) :: X) := by
      rw [lsT, List.range_succ, List.flatMap_append, List.flatMap_singleton, List.append_assoc]; rfl
    rw [e]
    by_cases h : i < n
    · exact ih _ i h
    · have : i = n := by omega
      subst this
      have hl := hl i
      rw [rd_get, rd_get, List.getElem?_append_right (by omega), List.getElem?_append_right (by omega), show 2 * i - (lsT l i).length = 0 by omega, show 2 * i + 1 - (lsT l i).length = 1 by omega]
      exact ⟨rfl, rfl⟩
theorem ls_ld {l : Ls} {s n : Nat} (h : s < n) : (if 0 + s * 3 + 3 ≤ 3 * n then some (Value.agg (((lsC l n).drop (0 + s * 3)).take 3).toArray) else none) = some (secV l s) := by
  have := lsC_ld l h
  rw [lsC_len] at this; exact this
theorem one_atom {x : Int} : ∀ v ∈ [Value.int .i64 x], atom v = true := by
  intro v hv
  rw [List.mem_singleton] at hv
  subst hv; rfl
theorem rr_in {l : Ls} {x : Int} {n c : Nat} (hn : n ≤ 32) (hp : ∀ i, i < n → okP l i) (hx : 0 ≤ x ∧ x ≤ 100000) :
    rrT l x n c (fun v h => v = .slice (some ⟨2 * n + 1, 0, none⟩) n 0 ∧ h = lsG l n ++ [some (.row (ints (rkZ (dI l x) n)) 1 true true true)]) := by
  unfold rrT
  refine ⟨⟨0, ⟨Nat.zero_le _⟩, ⟨rfl, rfl, rfl, rfl, trivial⟩, rfl⟩, fun i hi => br_of (fun hc => ?_) (fun hc => ?_)⟩
  · have hc := lt_of_dec hc
    have hlen := rk_len (dI l x) i
    refine ⟨⟨by rw [rkZ, nats_len]; omega, by omega, by omega⟩, i, ⟨i, ⟨hc, Nat.le_refl _, rfl⟩, ⟨rfl, rfl, rfl, rfl, rfl, trivial⟩, ?_⟩, fun k hk => ?_⟩
    · have e : ints (midZ (dI l x) i i) = ints (rkZ (dI l x) i) ++ [.int .i64 (i : Int)] := by
        rw [midZ, mid_all hlen, rkZ, nats, nats, ints, ints, List.map_append, List.map_append]; rfl
      rw [e]; rfl
    · obtain ⟨_, hk1, hk2⟩ := hk.out
      have hL := mid_len hlen hk1
      refine br_of (fun hd => ?_) (fun hd => ?_)
      · have hd := of_decide_eq_true hd
        obtain ⟨k, rfl⟩ : ∃ m, k = m + 1 := ⟨k - 1, by omega⟩
        have w : IntKind.wrap .i64 (((k + 1 : Nat) : Int) - 1) = (k : Int) := (wrap_eq (by omega) (by omega)).trans (by omega)
        obtain ⟨f1, f2⟩ := mid_step hlen hk1
        have hm : (rk (dI l x) i).getD k 0 < i := rk_lt (dI l x) i _ (by
          have : k < (rk (dI l x) i).length := by rw [rk_len]; omega
          rw [List.getD_eq_getElem?_getD, List.getElem?_eq_getElem this]; exact List.getElem_mem _)
        have q1 := nat_get (L := midD (rk (dI l x) i) i (k + 1)) (p := k) (by omega)
        have q2 := nat_at (L := midD (rk (dI l x) i) i (k + 1)) (p := k) (by omega)
        rw [f1] at q1 q2
        have q3 := nat_put (L := midD (rk (dI l x) i) i (k + 1)) (p := k + 1) (m := (rk (dI l x) i).getD k 0) (by omega)
        rw [f2] at q3
        have q4 := nat_put (L := midD (rk (dI l x) i) i (k + 1)) (p := k + 1) (m := i) (by omega)
        rw [mid_end hlen hk1] at q4
        have q5 : (ints (nats (midD (rk (dI l x) i) i (k + 1)))).length = i + 1 := by rw [nats_len]; exact hL
        simp only [midZ, w, Int.toNat_natCast, q1, q2, q3, q4, q5, e3, e2]
        refine ⟨⟨by omega, by omega⟩, ⟨ls_ld hc⟩, ⟨sec_ci (lsIn_app l n _) hc one_atom rfl, ⟨by trivial, by trivial, by trivial⟩, hp i hc, rfl, hx.1, hx.2⟩, ⟨by omega, by omega⟩, ⟨by trivial⟩, ⟨by omega, by omega⟩, ⟨ls_ld (by omega)⟩, ⟨sec_ci (lsIn_app l n _) (by omega) one_atom rfl, ⟨by trivial, by trivial, by trivial⟩, hp _ (by omega), rfl, hx.1, hx.2⟩, br_of (fun hq => ?_) (fun hq => ?_)⟩
        · have hq := of_decide_eq_true hq
          refine ⟨⟨by omega, by omega⟩, ⟨by trivial⟩, ⟨by omega, by omega⟩, ⟨by omega⟩, k, ⟨hc, by omega, ?_⟩, ⟨by omega⟩, ⟨by first | trivial | rfl, by first | trivial | rfl, by first | trivial | rfl, by first | trivial | rfl, by first | trivial | rfl, trivial⟩, by first | trivial | rfl⟩
          rw [← hk2, ipos, if_pos hq]
        · have hq := of_decide_eq_false hq
          have e : ipos (dI l x) (rk (dI l x) i) i i = k + 1 := by rw [← hk2, ipos, if_neg hq]
          refine ⟨⟨by omega, by omega⟩, ⟨by omega⟩, i + 1, ⟨by omega⟩, ⟨by omega⟩, ⟨by first | trivial | rfl, by first | trivial | rfl, by first | trivial | rfl, by rw [up1 hc (by omega)], trivial⟩, ?_⟩
          rw [rkZ, rk, e]; rfl
      · have hd := of_decide_eq_false hd
        have : k = 0 := by omega
        subst this
        have q4 := nat_put (L := midD (rk (dI l x) i) i 0) (p := 0) (m := i) (by omega)
        rw [mid_end hlen hk1] at q4
        have q5 : (ints (nats (midD (rk (dI l x) i) i 0))).length = i + 1 := by rw [nats_len]; exact hL
        have e : ipos (dI l x) (rk (dI l x) i) i i = 0 := by rw [← hk2, ipos]
        simp only [midZ, Int.toNat_natCast, q4, q5]
        refine ⟨⟨by omega, by omega⟩, ⟨by omega⟩, i + 1, ⟨by omega⟩, ⟨by omega⟩, ⟨by first | trivial | rfl, by first | trivial | rfl, by first | trivial | rfl, by rw [up1 hc (by omega)], trivial⟩, ?_⟩
        rw [rkZ, rk, e]; rfl
  · have hc := ge_of_dec hc
    have : n = i := by have := hi.out; omega
    subst this
    exact ⟨rfl, rfl⟩
end
end Qq
end
section
/- The program's Ranked, the trees for 0, 1, 2, 3 sections. -/
open Go Go.Vm Go.Proofs Sp
namespace Qq
noncomputable section
theorem rk0_t (l : Ls) (x : Int) (K : Value → Heap → Prop) :
    (fnP Tryz.prog cRk0 (hsRk l x (0 : Nat)) (6 : FuncId) [Value.slice (some { block := (0 : Nat), off := (0 : Nat) }) (0 : Nat) (0 : Nat), Value.int IntKind.i64 x] (owG l (0 : Nat)) K) =
    (br (wi x (0 : Int) (100000 : Int) != (0 : Int)) (K (Value.tuple #[Value.slice (some { block := (1 : Nat), off := (0 : Nat) }) (0 : Nat) (0 : Nat), Value.int IntKind.i64 (wi x (0 : Int) (100000 : Int))]) (some (AObj.row [] (3 : Nat) true true true) :: some (AObj.row [] (1 : Nat) true true true) :: noH)) (K (Value.tuple #[Value.slice (some { block := (1 : Nat), off := (0 : Nat) }) (0 : Nat) (0 : Nat), Value.int IntKind.i64 (0 : Int)]) (some (AObj.row [] (3 : Nat) true true true) :: some (AObj.row [] (1 : Nat) true true true) :: noH))) := by kernel_rfl
theorem rk1_t (l : Ls) (x : Int) (K : Value → Heap → Prop) :
    (fnP Tryz.prog cRk (hsRk l x (1 : Nat)) (6 : FuncId) [Value.slice (some { block := (0 : Nat), off := (0 : Nat) }) (1 : Nat) (0 : Nat), Value.int IntKind.i64 x] (owG l (1 : Nat)) K) =
    (Is (isC (Ls.N l (0 : Nat)) (Ls.K l (0 : Nat)) (ints (Ls.zs l (0 : Nat))) (acs (Ls.ks l (0 : Nat)))) ∧ Is True ∧ br (fi [ckC (Ls.nm l (0 : Nat)) (Ls.N l (0 : Nat)) (Ls.K l (0 : Nat)) (ints (Ls.zs l (0 : Nat))) (acs (Ls.ks l (0 : Nat))), wh (hasK (Ls.nm l (0 : Nat)) []) (9 : Int)] != (0 : Int)) (K (Value.tuple #[Value.slice (some { block := (3 : Nat), off := (0 : Nat) }) (0 : Nat) (0 : Nat), Value.int IntKind.i64 (fi [ckC (Ls.nm l (0 : Nat)) (Ls.N l (0 : Nat)) (Ls.K l (0 : Nat)) (ints (Ls.zs l (0 : Nat))) (acs (Ls.ks l (0 : Nat))), wh (hasK (Ls.nm l (0 : Nat)) []) (9 : Int)])]) (owG l 1 ++ some (AObj.row [] (1 : Nat) true true true) :: noH)) (Is (hasK (Ls.nm l (0 : Nat)) [] = false) ∧ br (wi x (0 : Int) (100000 : Int) != (0 : Int)) (K (Value.tuple #[Value.slice (some { block := (3 : Nat), off := (0 : Nat) }) (0 : Nat) (0 : Nat), Value.int IntKind.i64 (wi x (0 : Int) (100000 : Int))]) (owG l 1 ++ some (AObj.row [] (1 : Nat) true true true) :: noH)) (∃ (p : Unit), (Is (ipC (Ls.N l (0 : Nat)) (Ls.K l (0 : Nat)) (↑(Ls.K l (0 : Nat)) : Int) x (ints (Ls.zs l (0 : Nat))) (acs (Ls.ks l (0 : Nat)))) ∧ br (rdC (Ls.N l (0 : Nat)) (Ls.K l (0 : Nat)) (↑(Ls.K l (0 : Nat)) : Int) x (ints (Ls.zs l (0 : Nat))) (acs (Ls.ks l (0 : Nat))) == (0 : Int)) (∃ (s : Unit), Is True ∧ (Value.slice (some { block := (0 : Nat), off := (0 : Nat) }) (1 : Nat) (0 : Nat) = Value.slice (some { block := (0 : Nat), off := (0 : Nat) }) (1 : Nat) (0 : Nat) ∧ Value.int IntKind.i64 x = Value.int IntKind.i64 x ∧ Value.slice none (0 : Nat) (0 : Nat) = Value.slice none (0 : Nat) (0 : Nat) ∧ Value.pointer (some { block := (3 : Nat), off := (0 : Nat) }) = Value.pointer (some { block := (3 : Nat), off := (0 : Nat) }) ∧ Value.slice (some { block := (0 : Nat), off := (0 : Nat) }) (1 : Nat) (0 : Nat) = Value.slice (some { block := (0 : Nat), off := (0 : Nat) }) (1 : Nat) (0 : Nat) ∧ Value.int IntKind.i64 (1 : Int) = Value.int IntKind.i64 (1 : Int) ∧ Value.int IntKind.i64 (0 : Int) = Value.int IntKind.i64 (0 : Int) ∧ True) ∧ owG l 1 ++ some (AObj.row [poi, poi, poi, Value.int IntKind.i64 (gz (rdC (Ls.N l (0 : Nat)) (Ls.K l (0 : Nat)) (↑(Ls.K l (0 : Nat)) : Int) x (ints (Ls.zs l (0 : Nat))) (acs (Ls.ks l (0 : Nat)))) (rnC (Ls.N l (0 : Nat)) (Ls.K l (0 : Nat)) (↑(Ls.K l (0 : Nat)) : Int) x (ints (Ls.zs l (0 : Nat))) (acs (Ls.ks l (0 : Nat))))), Value.int IntKind.i64 (0 : Int)] (0 : Nat) false true false) :: noH = owG l 1 ++ some (AObj.row [poi, poi, poi, Value.int IntKind.i64 (dI l x (0 : Nat)), Value.int IntKind.i64 (0 : Int)] (0 : Nat) false true false) :: noH) (∃ (s : Unit), Is True ∧ (Value.slice (some { block := (0 : Nat), off := (0 : Nat) }) (1 : Nat) (0 : Nat) = Value.slice (some { block := (0 : Nat), off := (0 : Nat) }) (1 : Nat) (0 : Nat) ∧ Value.int IntKind.i64 x = Value.int IntKind.i64 x ∧ Value.slice none (0 : Nat) (0 : Nat) = Value.slice none (0 : Nat) (0 : Nat) ∧ Value.pointer (some { block := (3 : Nat), off := (0 : Nat) }) = Value.pointer (some { block := (3 : Nat), off := (0 : Nat) }) ∧ Value.slice (some { block := (0 : Nat), off := (0 : Nat) }) (1 : Nat) (0 : Nat) = Value.slice (some { block := (0 : Nat), off := (0 : Nat) }) (1 : Nat) (0 : Nat) ∧ Value.int IntKind.i64 (1 : Int) = Value.int IntKind.i64 (1 : Int) ∧ Value.int IntKind.i64 (0 : Int) = Value.int IntKind.i64 (0 : Int) ∧ True) ∧ owG l 1 ++ some (AObj.row [poi, poi, poi, Value.int IntKind.i64 (100001 : Int), Value.int IntKind.i64 (0 : Int)] (0 : Nat) false true false) :: noH = owG l 1 ++ some (AObj.row [poi, poi, poi, Value.int IntKind.i64 (dI l x (0 : Nat)), Value.int IntKind.i64 (0 : Int)] (0 : Nat) false true false) :: noH)) ∧ ∀ (s : Unit), Is True → K (Value.tuple #[Value.slice (some { block := (3 : Nat), off := (0 : Nat) }) (1 : Nat) (0 : Nat), Value.int IntKind.i64 (0 : Int)]) (owG l 1 ++ some (AObj.row [Value.int IntKind.i64 (sN [dI l x (0 : Nat)] (1 : Nat) (0 : Nat))] (1 : Nat) true true (List.all [Value.int IntKind.i64 (sN [dI l x (0 : Nat)] (1 : Nat) (0 : Nat))] atom)) :: noH)))) := by kernel_rfl
theorem rk2_t (l : Ls) (x : Int) (K : Value → Heap → Prop) :
    (fnP Tryz.prog cRk (hsRk l x (2 : Nat)) (6 : FuncId) [Value.slice (some { block := (0 : Nat), off := (0 : Nat) }) (2 : Nat) (0 : Nat), Value.int IntKind.i64 x] (owG l (2 : Nat)) K) =
    (Is (isC (Ls.N l (0 : Nat)) (Ls.K l (0 : Nat)) (ints (Ls.zs l (0 : Nat))) (acs (Ls.ks l (0 : Nat)))) ∧ Is True ∧ br (fi [ckC (Ls.nm l (0 : Nat)) (Ls.N l (0 : Nat)) (Ls.K l (0 : Nat)) (ints (Ls.zs l (0 : Nat))) (acs (Ls.ks l (0 : Nat))), wh (hasK (Ls.nm l (0 : Nat)) []) (9 : Int)] != (0 : Int)) (K (Value.tuple #[Value.slice (some { block := (5 : Nat), off := (0 : Nat) }) (0 : Nat) (0 : Nat), Value.int IntKind.i64 (fi [ckC (Ls.nm l (0 : Nat)) (Ls.N l (0 : Nat)) (Ls.K l (0 : Nat)) (ints (Ls.zs l (0 : Nat))) (acs (Ls.ks l (0 : Nat))), wh (hasK (Ls.nm l (0 : Nat)) []) (9 : Int)])]) (owG l 2 ++ some (AObj.row [] (1 : Nat) true true true) :: noH)) (Is (hasK (Ls.nm l (0 : Nat)) [] = false) ∧ Is (isC (Ls.N l (1 : Nat)) (Ls.K l (1 : Nat)) (ints (Ls.zs l (1 : Nat))) (acs (Ls.ks l (1 : Nat)))) ∧ Is True ∧ br (fi [ckC (Ls.nm l (1 : Nat)) (Ls.N l (1 : Nat)) (Ls.K l (1 : Nat)) (ints (Ls.zs l (1 : Nat))) (acs (Ls.ks l (1 : Nat))), wh (hasK (Ls.nm l (1 : Nat)) [(Ls.nm l (0 : Nat), Value.bool true)]) (9 : Int)] != (0 : Int)) (K (Value.tuple #[Value.slice (some { block := (5 : Nat), off := (0 : Nat) }) (0 : Nat) (0 : Nat), Value.int IntKind.i64 (fi [ckC (Ls.nm l (1 : Nat)) (Ls.N l (1 : Nat)) (Ls.K l (1 : Nat)) (ints (Ls.zs l (1 : Nat))) (acs (Ls.ks l (1 : Nat))), wh (hasK (Ls.nm l (1 : Nat)) [(Ls.nm l (0 : Nat), Value.bool true)]) (9 : Int)])]) (owG l 2 ++ some (AObj.row [] (1 : Nat) true true true) :: noH)) (Is (hasK (Ls.nm l (1 : Nat)) [(Ls.nm l (0 : Nat), Value.bool true)] = false) ∧ br (wi x (0 : Int) (100000 : Int) != (0 : Int)) (K (Value.tuple #[Value.slice (some { block := (5 : Nat), off := (0 : Nat) }) (0 : Nat) (0 : Nat), Value.int IntKind.i64 (wi x (0 : Int) (100000 : Int))]) (owG l 2 ++ some (AObj.row [] (1 : Nat) true true true) :: noH)) (∃ (p : Unit), (Is (ipC (Ls.N l (0 : Nat)) (Ls.K l (0 : Nat)) (↑(Ls.K l (0 : Nat)) : Int) x (ints (Ls.zs l (0 : Nat))) (acs (Ls.ks l (0 : Nat)))) ∧ br (rdC (Ls.N l (0 : Nat)) (Ls.K l (0 : Nat)) (↑(Ls.K l (0 : Nat)) : Int) x (ints (Ls.zs l (0 : Nat))) (acs (Ls.ks l (0 : Nat))) == (0 : Int)) (∃ (s : Unit), Is True ∧ (Value.slice (some { block := (0 : Nat), off := (0 : Nat) }) (2 : Nat) (0 : Nat) = Value.slice (some { block := (0 : Nat), off := (0 : Nat) }) (2 : Nat) (0 : Nat) ∧ Value.int IntKind.i64 x = Value.int IntKind.i64 x ∧ Value.slice none (0 : Nat) (0 : Nat) = Value.slice none (0 : Nat) (0 : Nat) ∧ Value.pointer (some { block := (5 : Nat), off := (0 : Nat) }) = Value.pointer (some { block := (5 : Nat), off := (0 : Nat) }) ∧ Value.slice (some { block := (0 : Nat), off := (0 : Nat) }) (2 : Nat) (0 : Nat) = Value.slice (some { block := (0 : Nat), off := (0 : Nat) }) (2 : Nat) (0 : Nat) ∧ Value.int IntKind.i64 (2 : Int) = Value.int IntKind.i64 (2 : Int) ∧ Value.int IntKind.i64 (0 : Int) = Value.int IntKind.i64 (0 : Int) ∧ True) ∧ owG l 2 ++ some (AObj.row [poi, poi, poi, Value.int IntKind.i64 (gz (rdC (Ls.N l (0 : Nat)) (Ls.K l (0 : Nat)) (↑(Ls.K l (0 : Nat)) : Int) x (ints (Ls.zs l (0 : Nat))) (acs (Ls.ks l (0 : Nat)))) (rnC (Ls.N l (0 : Nat)) (Ls.K l (0 : Nat)) (↑(Ls.K l (0 : Nat)) : Int) x (ints (Ls.zs l (0 : Nat))) (acs (Ls.ks l (0 : Nat))))), Value.int IntKind.i64 (0 : Int)] (0 : Nat) false true false) :: noH = owG l 2 ++ some (AObj.row [poi, poi, poi, Value.int IntKind.i64 (dI l x (0 : Nat)), Value.int IntKind.i64 (0 : Int)] (0 : Nat) false true false) :: noH) (∃ (s : Unit), Is True ∧ (Value.slice (some { block := (0 : Nat), off := (0 : Nat) }) (2 : Nat) (0 : Nat) = Value.slice (some { block := (0 : Nat), off := (0 : Nat) }) (2 : Nat) (0 : Nat) ∧ Value.int IntKind.i64 x = Value.int IntKind.i64 x ∧ Value.slice none (0 : Nat) (0 : Nat) = Value.slice none (0 : Nat) (0 : Nat) ∧ Value.pointer (some { block := (5 : Nat), off := (0 : Nat) }) = Value.pointer (some { block := (5 : Nat), off := (0 : Nat) }) ∧ Value.slice (some { block := (0 : Nat), off := (0 : Nat) }) (2 : Nat) (0 : Nat) = Value.slice (some { block := (0 : Nat), off := (0 : Nat) }) (2 : Nat) (0 : Nat) ∧ Value.int IntKind.i64 (2 : Int) = Value.int IntKind.i64 (2 : Int) ∧ Value.int IntKind.i64 (0 : Int) = Value.int IntKind.i64 (0 : Int) ∧ True) ∧ owG l 2 ++ some (AObj.row [poi, poi, poi, Value.int IntKind.i64 (100001 : Int), Value.int IntKind.i64 (0 : Int)] (0 : Nat) false true false) :: noH = owG l 2 ++ some (AObj.row [poi, poi, poi, Value.int IntKind.i64 (dI l x (0 : Nat)), Value.int IntKind.i64 (0 : Int)] (0 : Nat) false true false) :: noH)) ∧ ∀ (s : Unit), Is True → ∃ (p : Unit), (Is (ipC (Ls.N l (1 : Nat)) (Ls.K l (1 : Nat)) (↑(Ls.K l (1 : Nat)) : Int) x (ints (Ls.zs l (1 : Nat))) (acs (Ls.ks l (1 : Nat)))) ∧ br (rdC (Ls.N l (1 : Nat)) (Ls.K l (1 : Nat)) (↑(Ls.K l (1 : Nat)) : Int) x (ints (Ls.zs l (1 : Nat))) (acs (Ls.ks l (1 : Nat))) == (0 : Int)) (∃ (s : Unit), Is True ∧ (Value.slice (some { block := (0 : Nat), off := (0 : Nat) }) (2 : Nat) (0 : Nat) = Value.slice (some { block := (0 : Nat), off := (0 : Nat) }) (2 : Nat) (0 : Nat) ∧ Value.int IntKind.i64 x = Value.int IntKind.i64 x ∧ Value.slice (some { block := (5 : Nat), off := (0 : Nat) }) (1 : Nat) (0 : Nat) = Value.slice (some { block := (5 : Nat), off := (0 : Nat) }) (1 : Nat) (0 : Nat) ∧ Value.pointer (some { block := (6 : Nat), off := (0 : Nat) }) = Value.pointer (some { block := (6 : Nat), off := (0 : Nat) }) ∧ Value.slice (some { block := (0 : Nat), off := (0 : Nat) }) (2 : Nat) (0 : Nat) = Value.slice (some { block := (0 : Nat), off := (0 : Nat) }) (2 : Nat) (0 : Nat) ∧ Value.int IntKind.i64 (2 : Int) = Value.int IntKind.i64 (2 : Int) ∧ Value.int IntKind.i64 (1 : Int) = Value.int IntKind.i64 (1 : Int) ∧ True) ∧ owG l 2 ++ some (AObj.row [poi, poi, poi, Value.int IntKind.i64 (dI l x (0 : Nat)), Value.int IntKind.i64 (0 : Int)] (5 : Nat) true true false) :: some (AObj.row [poi, poi, poi, Value.int IntKind.i64 (gz (rdC (Ls.N l (1 : Nat)) (Ls.K l (1 : Nat)) (↑(Ls.K l (1 : Nat)) : Int) x (ints (Ls.zs l (1 : Nat))) (acs (Ls.ks l (1 : Nat)))) (rnC (Ls.N l (1 : Nat)) (Ls.K l (1 : Nat)) (↑(Ls.K l (1 : Nat)) : Int) x (ints (Ls.zs l (1 : Nat))) (acs (Ls.ks l (1 : Nat))))), Value.int IntKind.i64 (1 : Int)] (0 : Nat) false true false) :: noH = owG l 2 ++ some (AObj.row [poi, poi, poi, Value.int IntKind.i64 (dI l x (0 : Nat)), Value.int IntKind.i64 (0 : Int)] (5 : Nat) true true false) :: some (AObj.row [poi, poi, poi, Value.int IntKind.i64 (dI l x (1 : Nat)), Value.int IntKind.i64 (1 : Int)] (0 : Nat) false true false) :: noH) (∃ (s : Unit), Is True ∧ (Value.slice (some { block := (0 : Nat), off := (0 : Nat) }) (2 : Nat) (0 : Nat) = Value.slice (some { block := (0 : Nat), off := (0 : Nat) }) (2 : Nat) (0 : Nat) ∧ Value.int IntKind.i64 x = Value.int IntKind.i64 x ∧ Value.slice (some { block := (5 : Nat), off := (0 : Nat) }) (1 : Nat) (0 : Nat) = Value.slice (some { block := (5 : Nat), off := (0 : Nat) }) (1 : Nat) (0 : Nat) ∧ Value.pointer (some { block := (6 : Nat), off := (0 : Nat) }) = Value.pointer (some { block := (6 : Nat), off := (0 : Nat) }) ∧ Value.slice (some { block := (0 : Nat), off := (0 : Nat) }) (2 : Nat) (0 : Nat) = Value.slice (some { block := (0 : Nat), off := (0 : Nat) }) (2 : Nat) (0 : Nat) ∧ Value.int IntKind.i64 (2 : Int) = Value.int IntKind.i64 (2 : Int) ∧ Value.int IntKind.i64 (1 : Int) = Value.int IntKind.i64 (1 : Int) ∧ True) ∧ owG l 2 ++ some (AObj.row [poi, poi, poi, Value.int IntKind.i64 (dI l x (0 : Nat)), Value.int IntKind.i64 (0 : Int)] (5 : Nat) true true false) :: some (AObj.row [poi, poi, poi, Value.int IntKind.i64 (100001 : Int), Value.int IntKind.i64 (1 : Int)] (0 : Nat) false true false) :: noH = owG l 2 ++ some (AObj.row [poi, poi, poi, Value.int IntKind.i64 (dI l x (0 : Nat)), Value.int IntKind.i64 (0 : Int)] (5 : Nat) true true false) :: some (AObj.row [poi, poi, poi, Value.int IntKind.i64 (dI l x (1 : Nat)), Value.int IntKind.i64 (1 : Int)] (0 : Nat) false true false) :: noH)) ∧ ∀ (s : Unit), Is True → K (Value.tuple #[Value.slice (some { block := (5 : Nat), off := (0 : Nat) }) (2 : Nat) (0 : Nat), Value.int IntKind.i64 (0 : Int)]) (owG l 2 ++ some (AObj.row [Value.int IntKind.i64 (sN [dI l x (0 : Nat), dI l x (1 : Nat)] (2 : Nat) (0 : Nat)), Value.int IntKind.i64 (sN [dI l x (0 : Nat), dI l x (1 : Nat)] (2 : Nat) (1 : Nat))] (1 : Nat) true true (List.all [Value.int IntKind.i64 (sN [dI l x (0 : Nat), dI l x (1 : Nat)] (2 : Nat) (0 : Nat))] atom && List.all [Value.int IntKind.i64 (sN [dI l x (0 : Nat), dI l x (1 : Nat)] (2 : Nat) (1 : Nat))] atom)) :: noH))))) := by kernel_rfl
theorem rk3_t (l : Ls) (x : Int) (K : Value → Heap → Prop) :
    (fnP Tryz.prog cRk (hsRk l x (3 : Nat)) (6 : FuncId) [Value.slice (some { block := (0 : Nat), off := (0 : Nat) }) (3 : Nat) (0 : Nat), Value.int IntKind.i64 x] (owG l (3 : Nat)) K) =
    (Is (isC (Ls.N l (0 : Nat)) (Ls.K l (0 : Nat)) (ints (Ls.zs l (0 : Nat))) (acs (Ls.ks l (0 : Nat)))) ∧ Is True ∧ br (fi [ckC (Ls.nm l (0 : Nat)) (Ls.N l (0 : Nat)) (Ls.K l (0 : Nat)) (ints (Ls.zs l (0 : Nat))) (acs (Ls.ks l (0 : Nat))), wh (hasK (Ls.nm l (0 : Nat)) []) (9 : Int)] != (0 : Int)) (K (Value.tuple #[Value.slice (some { block := (7 : Nat), off := (0 : Nat) }) (0 : Nat) (0 : Nat), Value.int IntKind.i64 (fi [ckC (Ls.nm l (0 : Nat)) (Ls.N l (0 : Nat)) (Ls.K l (0 : Nat)) (ints (Ls.zs l (0 : Nat))) (acs (Ls.ks l (0 : Nat))), wh (hasK (Ls.nm l (0 : Nat)) []) (9 : Int)])]) (owG l 3 ++ some (AObj.row [] (1 : Nat) true true true) :: noH)) (Is (hasK (Ls.nm l (0 : Nat)) [] = false) ∧ Is (isC (Ls.N l (1 : Nat)) (Ls.K l (1 : Nat)) (ints (Ls.zs l (1 : Nat))) (acs (Ls.ks l (1 : Nat)))) ∧ Is True ∧ br (fi [ckC (Ls.nm l (1 : Nat)) (Ls.N l (1 : Nat)) (Ls.K l (1 : Nat)) (ints (Ls.zs l (1 : Nat))) (acs (Ls.ks l (1 : Nat))), wh (hasK (Ls.nm l (1 : Nat)) [(Ls.nm l (0 : Nat), Value.bool true)]) (9 : Int)] != (0 : Int)) (K (Value.tuple #[Value.slice (some { block := (7 : Nat), off := (0 : Nat) }) (0 : Nat) (0 : Nat), Value.int IntKind.i64 (fi [ckC (Ls.nm l (1 : Nat)) (Ls.N l (1 : Nat)) (Ls.K l (1 : Nat)) (ints (Ls.zs l (1 : Nat))) (acs (Ls.ks l (1 : Nat))), wh (hasK (Ls.nm l (1 : Nat)) [(Ls.nm l (0 : Nat), Value.bool true)]) (9 : Int)])]) (owG l 3 ++ some (AObj.row [] (1 : Nat) true true true) :: noH)) (Is (hasK (Ls.nm l (1 : Nat)) [(Ls.nm l (0 : Nat), Value.bool true)] = false) ∧ Is (isC (Ls.N l (2 : Nat)) (Ls.K l (2 : Nat)) (ints (Ls.zs l (2 : Nat))) (acs (Ls.ks l (2 : Nat)))) ∧ Is True ∧ br (fi [ckC (Ls.nm l (2 : Nat)) (Ls.N l (2 : Nat)) (Ls.K l (2 : Nat)) (ints (Ls.zs l (2 : Nat))) (acs (Ls.ks l (2 : Nat))), wh (hasK (Ls.nm l (2 : Nat)) [(Ls.nm l (0 : Nat), Value.bool true), (Ls.nm l (1 : Nat), Value.bool true)]) (9 : Int)] != (0 : Int)) (K (Value.tuple #[Value.slice (some { block := (7 : Nat), off := (0 : Nat) }) (0 : Nat) (0 : Nat), Value.int IntKind.i64 (fi [ckC (Ls.nm l (2 : Nat)) (Ls.N l (2 : Nat)) (Ls.K l (2 : Nat)) (ints (Ls.zs l (2 : Nat))) (acs (Ls.ks l (2 : Nat))), wh (hasK (Ls.nm l (2 : Nat)) [(Ls.nm l (0 : Nat), Value.bool true), (Ls.nm l (1 : Nat), Value.bool true)]) (9 : Int)])]) (owG l 3 ++ some (AObj.row [] (1 : Nat) true true true) :: noH)) (Is (hasK (Ls.nm l (2 : Nat)) [(Ls.nm l (0 : Nat), Value.bool true), (Ls.nm l (1 : Nat), Value.bool true)] = false) ∧ br (wi x (0 : Int) (100000 : Int) != (0 : Int)) (K (Value.tuple #[Value.slice (some { block := (7 : Nat), off := (0 : Nat) }) (0 : Nat) (0 : Nat), Value.int IntKind.i64 (wi x (0 : Int) (100000 : Int))]) (owG l 3 ++ some (AObj.row [] (1 : Nat) true true true) :: noH)) (∃ (p : Unit), (Is (ipC (Ls.N l (0 : Nat)) (Ls.K l (0 : Nat)) (↑(Ls.K l (0 : Nat)) : Int) x (ints (Ls.zs l (0 : Nat))) (acs (Ls.ks l (0 : Nat)))) ∧ br (rdC (Ls.N l (0 : Nat)) (Ls.K l (0 : Nat)) (↑(Ls.K l (0 : Nat)) : Int) x (ints (Ls.zs l (0 : Nat))) (acs (Ls.ks l (0 : Nat))) == (0 : Int)) (∃ (s : Unit), Is True ∧ (Value.slice (some { block := (0 : Nat), off := (0 : Nat) }) (3 : Nat) (0 : Nat) = Value.slice (some { block := (0 : Nat), off := (0 : Nat) }) (3 : Nat) (0 : Nat) ∧ Value.int IntKind.i64 x = Value.int IntKind.i64 x ∧ Value.slice none (0 : Nat) (0 : Nat) = Value.slice none (0 : Nat) (0 : Nat) ∧ Value.pointer (some { block := (7 : Nat), off := (0 : Nat) }) = Value.pointer (some { block := (7 : Nat), off := (0 : Nat) }) ∧ Value.slice (some { block := (0 : Nat), off := (0 : Nat) }) (3 : Nat) (0 : Nat) = Value.slice (some { block := (0 : Nat), off := (0 : Nat) }) (3 : Nat) (0 : Nat) ∧ Value.int IntKind.i64 (3 : Int) = Value.int IntKind.i64 (3 : Int) ∧ Value.int IntKind.i64 (0 : Int) = Value.int IntKind.i64 (0 : Int) ∧ True) ∧ owG l 3 ++ some (AObj.row [poi, poi, poi, Value.int IntKind.i64 (gz (rdC (Ls.N l (0 : Nat)) (Ls.K l (0 : Nat)) (↑(Ls.K l (0 : Nat)) : Int) x (ints (Ls.zs l (0 : Nat))) (acs (Ls.ks l (0 : Nat)))) (rnC (Ls.N l (0 : Nat)) (Ls.K l (0 : Nat)) (↑(Ls.K l (0 : Nat)) : Int) x (ints (Ls.zs l (0 : Nat))) (acs (Ls.ks l (0 : Nat))))), Value.int IntKind.i64 (0 : Int)] (0 : Nat) false true false) :: noH = owG l 3 ++ some (AObj.row [poi, poi, poi, Value.int IntKind.i64 (dI l x (0 : Nat)), Value.int IntKind.i64 (0 : Int)] (0 : Nat) false true false) :: noH) (∃ (s : Unit), Is True ∧ (Value.slice (some { block := (0 : Nat), off := (0 : Nat) }) (3 : Nat) (0 : Nat) = Value.slice (some { block := (0 : Nat), off := (0 : Nat) }) (3 : Nat) (0 : Nat) ∧ Value.int IntKind.i64 x = Value.int IntKind.i64 x ∧ Value.slice none (0 : Nat) (0 : Nat) = Value.slice none (0 : Nat) (0 : Nat) ∧ Value.pointer (some { block := (7 : Nat), off := (0 : Nat) }) = Value.pointer (some { block := (7 : Nat), off := (0 : Nat) }) ∧ Value.slice (some { block := (0 : Nat), off := (0 : Nat) }) (3 : Nat) (0 : Nat) = Value.slice (some { block := (0 : Nat), off := (0 : Nat) }) (3 : Nat) (0 : Nat) ∧ Value.int IntKind.i64 (3 : Int) = Value.int IntKind.i64 (3 : Int) ∧ Value.int IntKind.i64 (0 : Int) = Value.int IntKind.i64 (0 : Int) ∧ True) ∧ owG l 3 ++ some (AObj.row [poi, poi, poi, Value.int IntKind.i64 (100001 : Int), Value.int IntKind.i64 (0 : Int)] (0 : Nat) false true false) :: noH = owG l 3 ++ some (AObj.row [poi, poi, poi, Value.int IntKind.i64 (dI l x (0 : Nat)), Value.int IntKind.i64 (0 : Int)] (0 : Nat) false true false) :: noH)) ∧ ∀ (s : Unit), Is True → ∃ (p : Unit), (Is (ipC (Ls.N l (1 : Nat)) (Ls.K l (1 : Nat)) (↑(Ls.K l (1 : Nat)) : Int) x (ints (Ls.zs l (1 : Nat))) (acs (Ls.ks l (1 : Nat)))) ∧ br (rdC (Ls.N l (1 : Nat)) (Ls.K l (1 : Nat)) (↑(Ls.K l (1 : Nat)) : Int) x (ints (Ls.zs l (1 : Nat))) (acs (Ls.ks l (1 : Nat))) == (0 : Int)) (∃ (s : Unit), Is True ∧ (Value.slice (some { block := (0 : Nat), off := (0 : Nat) }) (3 : Nat) (0 : Nat) = Value.slice (some { block := (0 : Nat), off := (0 : Nat) }) (3 : Nat) (0 : Nat) ∧ Value.int IntKind.i64 x = Value.int IntKind.i64 x ∧ Value.slice (some { block := (7 : Nat), off := (0 : Nat) }) (1 : Nat) (0 : Nat) = Value.slice (some { block := (7 : Nat), off := (0 : Nat) }) (1 : Nat) (0 : Nat) ∧ Value.pointer (some { block := (8 : Nat), off := (0 : Nat) }) = Value.pointer (some { block := (8 : Nat), off := (0 : Nat) }) ∧ Value.slice (some { block := (0 : Nat), off := (0 : Nat) }) (3 : Nat) (0 : Nat) = Value.slice (some { block := (0 : Nat), off := (0 : Nat) }) (3 : Nat) (0 : Nat) ∧ Value.int IntKind.i64 (3 : Int) = Value.int IntKind.i64 (3 : Int) ∧ Value.int IntKind.i64 (1 : Int) = Value.int IntKind.i64 (1 : Int) ∧ True) ∧ owG l 3 ++ some (AObj.row [poi, poi, poi, Value.int IntKind.i64 (dI l x (0 : Nat)), Value.int IntKind.i64 (0 : Int)] (5 : Nat) true true false) :: some (AObj.row [poi, poi, poi, Value.int IntKind.i64 (gz (rdC (Ls.N l (1 : Nat)) (Ls.K l (1 : Nat)) (↑(Ls.K l (1 : Nat)) : Int) x (ints (Ls.zs l (1 : Nat))) (acs (Ls.ks l (1 : Nat)))) (rnC (Ls.N l (1 : Nat)) (Ls.K l (1 : Nat)) (↑(Ls.K l (1 : Nat)) : Int) x (ints (Ls.zs l (1 : Nat))) (acs (Ls.ks l (1 : Nat))))), Value.int IntKind.i64 (1 : Int)] (0 : Nat) false true false) :: noH = owG l 3 ++ some (AObj.row [poi, poi, poi, Value.int IntKind.i64 (dI l x (0 : Nat)), Value.int IntKind.i64 (0 : Int)] (5 : Nat) true true false) :: some (AObj.row [poi, poi, poi, Value.int IntKind.i64 (dI l x (1 : Nat)), Value.int IntKind.i64 (1 : Int)] (0 : Nat) false true false) :: noH) (∃ (s : Unit), Is True ∧ (Value.slice (some { block := (0 : Nat), off := (0 : Nat) }) (3 : Nat) (0 : Nat) = Value.slice (some { block := (0 : Nat), off := (0 : Nat) }) (3 : Nat) (0 : Nat) ∧ Value.int IntKind.i64 x = Value.int IntKind.i64 x ∧ Value.slice (some { block := (7 : Nat), off := (0 : Nat) }) (1 : Nat) (0 : Nat) = Value.slice (some { block := (7 : Nat), off := (0 : Nat) }) (1 : Nat) (0 : Nat) ∧ Value.pointer (some { block := (8 : Nat), off := (0 : Nat) }) = Value.pointer (some { block := (8 : Nat), off := (0 : Nat) }) ∧ Value.slice (some { block := (0 : Nat), off := (0 : Nat) }) (3 : Nat) (0 : Nat) = Value.slice (some { block := (0 : Nat), off := (0 : Nat) }) (3 : Nat) (0 : Nat) ∧ Value.int IntKind.i64 (3 : Int) = Value.int IntKind.i64 (3 : Int) ∧ Value.int IntKind.i64 (1 : Int) = Value.int IntKind.i64 (1 : Int) ∧ True) ∧ owG l 3 ++ some (AObj.row [poi, poi, poi, Value.int IntKind.i64 (dI l x (0 : Nat)), Value.int IntKind.i64 (0 : Int)] (5 : Nat) true true false) :: some (AObj.row [poi, poi, poi, Value.int IntKind.i64 (100001 : Int), Value.int IntKind.i64 (1 : Int)] (0 : Nat) false true false) :: noH = owG l 3 ++ some (AObj.row [poi, poi, poi, Value.int IntKind.i64 (dI l x (0 : Nat)), Value.int IntKind.i64 (0 : Int)] (5 : Nat) true true false) :: some (AObj.row [poi, poi, poi, Value.int IntKind.i64 (dI l x (1 : Nat)), Value.int IntKind.i64 (1 : Int)] (0 : Nat) false true false) :: noH)) ∧ ∀ (s : Unit), Is True → ∃ (p : Unit), (Is (ipC (Ls.N l (2 : Nat)) (Ls.K l (2 : Nat)) (↑(Ls.K l (2 : Nat)) : Int) x (ints (Ls.zs l (2 : Nat))) (acs (Ls.ks l (2 : Nat)))) ∧ br (rdC (Ls.N l (2 : Nat)) (Ls.K l (2 : Nat)) (↑(Ls.K l (2 : Nat)) : Int) x (ints (Ls.zs l (2 : Nat))) (acs (Ls.ks l (2 : Nat))) == (0 : Int)) (∃ (s : Unit), Is True ∧ (Value.slice (some { block := (0 : Nat), off := (0 : Nat) }) (3 : Nat) (0 : Nat) = Value.slice (some { block := (0 : Nat), off := (0 : Nat) }) (3 : Nat) (0 : Nat) ∧ Value.int IntKind.i64 x = Value.int IntKind.i64 x ∧ Value.slice (some { block := (7 : Nat), off := (0 : Nat) }) (2 : Nat) (0 : Nat) = Value.slice (some { block := (7 : Nat), off := (0 : Nat) }) (2 : Nat) (0 : Nat) ∧ Value.pointer (some { block := (8 : Nat), off := (0 : Nat) }) = Value.pointer (some { block := (8 : Nat), off := (0 : Nat) }) ∧ Value.slice (some { block := (0 : Nat), off := (0 : Nat) }) (3 : Nat) (0 : Nat) = Value.slice (some { block := (0 : Nat), off := (0 : Nat) }) (3 : Nat) (0 : Nat) ∧ Value.int IntKind.i64 (3 : Int) = Value.int IntKind.i64 (3 : Int) ∧ Value.int IntKind.i64 (2 : Int) = Value.int IntKind.i64 (2 : Int) ∧ True) ∧ owG l 3 ++ some (AObj.row [poi, poi, poi, Value.int IntKind.i64 (dI l x (0 : Nat)), Value.int IntKind.i64 (0 : Int), poi, poi, poi, Value.int IntKind.i64 (dI l x (1 : Nat)), Value.int IntKind.i64 (1 : Int)] (5 : Nat) true true false) :: some (AObj.row [poi, poi, poi, Value.int IntKind.i64 (gz (rdC (Ls.N l (2 : Nat)) (Ls.K l (2 : Nat)) (↑(Ls.K l (2 : Nat)) : Int) x (ints (Ls.zs l (2 : Nat))) (acs (Ls.ks l (2 : Nat)))) (rnC (Ls.N l (2 : Nat)) (Ls.K l (2 : Nat)) (↑(Ls.K l (2 : Nat)) : Int) x (ints (Ls.zs l (2 : Nat))) (acs (Ls.ks l (2 : Nat))))), Value.int IntKind.i64 (2 : Int)] (0 : Nat) false true false) :: noH = owG l 3 ++ some (AObj.row [poi, poi, poi, Value.int IntKind.i64 (dI l x (0 : Nat)), Value.int IntKind.i64 (0 : Int), poi, poi, poi, Value.int IntKind.i64 (dI l x (1 : Nat)), Value.int IntKind.i64 (1 : Int)] (5 : Nat) true true false) :: some (AObj.row [poi, poi, poi, Value.int IntKind.i64 (dI l x (2 : Nat)), Value.int IntKind.i64 (2 : Int)] (0 : Nat) false true false) :: noH) (∃ (s : Unit), Is True ∧ (Value.slice (some { block := (0 : Nat), off := (0 : Nat) }) (3 : Nat) (0 : Nat) = Value.slice (some { block := (0 : Nat), off := (0 : Nat) }) (3 : Nat) (0 : Nat) ∧ Value.int IntKind.i64 x = Value.int IntKind.i64 x ∧ Value.slice (some { block := (7 : Nat), off := (0 : Nat) }) (2 : Nat) (0 : Nat) = Value.slice (some { block := (7 : Nat), off := (0 : Nat) }) (2 : Nat) (0 : Nat) ∧ Value.pointer (some { block := (8 : Nat), off := (0 : Nat) }) = Value.pointer (some { block := (8 : Nat), off := (0 : Nat) }) ∧ Value.slice (some { block := (0 : Nat), off := (0 : Nat) }) (3 : Nat) (0 : Nat) = Value.slice (some { block := (0 : Nat), off := (0 : Nat) }) (3 : Nat) (0 : Nat) ∧ Value.int IntKind.i64 (3 : Int) = Value.int IntKind.i64 (3 : Int) ∧ Value.int IntKind.i64 (2 : Int) = Value.int IntKind.i64 (2 : Int) ∧ True) ∧ owG l 3 ++ some (AObj.row [poi, poi, poi, Value.int IntKind.i64 (dI l x (0 : Nat)), Value.int IntKind.i64 (0 : Int), poi, poi, poi, Value.int IntKind.i64 (dI l x (1 : Nat)), Value.int IntKind.i64 (1 : Int)] (5 : Nat) true true false) :: some (AObj.row [poi, poi, poi, Value.int IntKind.i64 (100001 : Int), Value.int IntKind.i64 (2 : Int)] (0 : Nat) false true false) :: noH = owG l 3 ++ some (AObj.row [poi, poi, poi, Value.int IntKind.i64 (dI l x (0 : Nat)), Value.int IntKind.i64 (0 : Int), poi, poi, poi, Value.int IntKind.i64 (dI l x (1 : Nat)), Value.int IntKind.i64 (1 : Int)] (5 : Nat) true true false) :: some (AObj.row [poi, poi, poi, Value.int IntKind.i64 (dI l x (2 : Nat)), Value.int IntKind.i64 (2 : Int)] (0 : Nat) false true false) :: noH)) ∧ ∀ (s : Unit), Is True → K (Value.tuple #[Value.slice (some { block := (7 : Nat), off := (0 : Nat) }) (3 : Nat) (0 : Nat), Value.int IntKind.i64 (0 : Int)]) (owG l 3 ++ some (AObj.row [Value.int IntKind.i64 (sN [dI l x (0 : Nat), dI l x (1 : Nat), dI l x (2 : Nat)] (3 : Nat) (0 : Nat)), Value.int IntKind.i64 (sN [dI l x (0 : Nat), dI l x (1 : Nat), dI l x (2 : Nat)] (3 : Nat) (1 : Nat)), Value.int IntKind.i64 (sN [dI l x (0 : Nat), dI l x (1 : Nat), dI l x (2 : Nat)] (3 : Nat) (2 : Nat))] (1 : Nat) true true (List.all [Value.int IntKind.i64 (sN [dI l x (0 : Nat), dI l x (1 : Nat), dI l x (2 : Nat)] (3 : Nat) (0 : Nat))] atom && List.all [Value.int IntKind.i64 (sN [dI l x (0 : Nat), dI l x (1 : Nat), dI l x (2 : Nat)] (3 : Nat) (1 : Nat))] atom && List.all [Value.int IntKind.i64 (sN [dI l x (0 : Nat), dI l x (1 : Nat), dI l x (2 : Nat)] (3 : Nat) (2 : Nat))] atom)) :: noH)))))) := by kernel_rfl
end
end Qq
end
section
/- The program's Ranked as a contract: 0, 1, 2, 3 sections. -/
open Go Go.Vm Go.Proofs Sp
namespace Qq
noncomputable section
theorem rk0_ok {l : Ls} {x : Int} (hl : okLt l 0) : SmallRes Tryz.prog 6 [.slice (some ⟨0, 0, none⟩) 0 0, .int .i64 x] (owG l 0) (.tuple #[.slice (some ⟨1, 0, none⟩) (rkM l 0 x) 0, .int .i64 (rkE l 0 x)]) (owG l 0 ++ [some (.row (ints (rkI l 0 x)) 1 true true true)]) := by
  refine fnP_res hm cRk0_ok (hs := hsRk l x 0) ?_
  show fnP Tryz.prog cRk0 (hsRk l x 0) 6 _ _ _
  rw [rk0_t]
  have h0 : csA l 0 = 0 := rfl
  refine br_of (fun h => ?_) (fun h => ?_)
  · obtain ⟨e1, e2, e3⟩ := rk_lim (n := 0) h0 h
    rw [e1, e2, e3]; exact ⟨rfl, rfl⟩
  obtain ⟨e1, e2, e3⟩ := rk_fin (n := 0) h0 h
  rw [e1, e2, e3]; exact ⟨rfl, rfl⟩
theorem rk1_ok {l : Ls} {x : Int} (hl : okLt l 1) : SmallRes Tryz.prog 6 [.slice (some ⟨0, 0, none⟩) 1 0, .int .i64 x] (owG l 1) (.tuple #[.slice (some ⟨3, 0, none⟩) (rkM l 1 x) 0, .int .i64 (rkE l 1 x)]) (owG l 1 ++ [some (.row (ints (rkI l 1 x)) 1 true true true)]) := by
  refine fnP_res hm cRk_ok (hs := hsRk l x 1) ?_
  show fnP Tryz.prog cRk (hsRk l x 1) 6 _ _ _
  rw [rk1_t]
  have h0 : csA l 0 = 0 := rfl
  refine ⟨⟨is_of 0 hl (by decide)⟩, ⟨trivial⟩, br_of (fun h => ?_) (fun h => ?_)⟩
  · obtain ⟨e1, e2, e3⟩ := rk_bad (n := 1) (x := x) 0 h0 (by decide) h
    rw [e1, e2, e3]; exact ⟨rfl, rfl⟩
  obtain ⟨k0, h1, s0⟩ := rk_on 0 h0 h
  refine ⟨⟨k0⟩, ?_⟩
  refine br_of (fun h => ?_) (fun h => ?_)
  · obtain ⟨e1, e2, e3⟩ := rk_lim (n := 1) h1 h
    rw [e1, e2, e3]; exact ⟨rfl, rfl⟩
  have hx := lim_in h
  refine ⟨⟨⟩, ⟨⟨ip_of 0 hl (by decide) s0 hx⟩, br_of (fun g => ⟨⟨⟩, ⟨trivial⟩, ⟨rfl, rfl, rfl, rfl, rfl, rfl, rfl, trivial⟩, by rw [dI_yes 0 g]⟩) (fun g => ⟨⟨⟩, ⟨trivial⟩, ⟨rfl, rfl, rfl, rfl, rfl, rfl, rfl, trivial⟩, by rw [dI_no 0 g]⟩)⟩, fun _ _ => ?_⟩
  obtain ⟨e1, e2, e3⟩ := rk_fin (n := 1) h1 h
  rw [e1, e2, e3]; exact ⟨rfl, rfl⟩
theorem rk2_ok {l : Ls} {x : Int} (hl : okLt l 2) : SmallRes Tryz.prog 6 [.slice (some ⟨0, 0, none⟩) 2 0, .int .i64 x] (owG l 2) (.tuple #[.slice (some ⟨5, 0, none⟩) (rkM l 2 x) 0, .int .i64 (rkE l 2 x)]) (owG l 2 ++ [some (.row (ints (rkI l 2 x)) 1 true true true)]) := by
  refine fnP_res hm cRk_ok (hs := hsRk l x 2) ?_
  show fnP Tryz.prog cRk (hsRk l x 2) 6 _ _ _
  rw [rk2_t]
  have h0 : csA l 0 = 0 := rfl
  refine ⟨⟨is_of 0 hl (by decide)⟩, ⟨trivial⟩, br_of (fun h => ?_) (fun h => ?_)⟩
  · obtain ⟨e1, e2, e3⟩ := rk_bad (n := 2) (x := x) 0 h0 (by decide) h
    rw [e1, e2, e3]; exact ⟨rfl, rfl⟩
  obtain ⟨k0, h1, s0⟩ := rk_on 0 h0 h
  refine ⟨⟨k0⟩, ?_⟩
  refine ⟨⟨is_of 1 hl (by decide)⟩, ⟨trivial⟩, br_of (fun h => ?_) (fun h => ?_)⟩
  · obtain ⟨e1, e2, e3⟩ := rk_bad (n := 2) (x := x) 1 h1 (by decide) h
    rw [e1, e2, e3]; exact ⟨rfl, rfl⟩
  obtain ⟨k1, h2, s1⟩ := rk_on 1 h1 h
  refine ⟨⟨k1⟩, ?_⟩
  refine br_of (fun h => ?_) (fun h => ?_)
  · obtain ⟨e1, e2, e3⟩ := rk_lim (n := 2) h2 h
    rw [e1, e2, e3]; exact ⟨rfl, rfl⟩
  have hx := lim_in h
  refine ⟨⟨⟩, ⟨⟨ip_of 0 hl (by decide) s0 hx⟩, br_of (fun g => ⟨⟨⟩, ⟨trivial⟩, ⟨rfl, rfl, rfl, rfl, rfl, rfl, rfl, trivial⟩, by rw [dI_yes 0 g]⟩) (fun g => ⟨⟨⟩, ⟨trivial⟩, ⟨rfl, rfl, rfl, rfl, rfl, rfl, rfl, trivial⟩, by rw [dI_no 0 g]⟩)⟩, fun _ _ => ?_⟩
  refine ⟨⟨⟩, ⟨⟨ip_of 1 hl (by decide) s1 hx⟩, br_of (fun g => ⟨⟨⟩, ⟨trivial⟩, ⟨rfl, rfl, rfl, rfl, rfl, rfl, rfl, trivial⟩, by rw [dI_yes 1 g]⟩) (fun g => ⟨⟨⟩, ⟨trivial⟩, ⟨rfl, rfl, rfl, rfl, rfl, rfl, rfl, trivial⟩, by rw [dI_no 1 g]⟩)⟩, fun _ _ => ?_⟩
  obtain ⟨e1, e2, e3⟩ := rk_fin (n := 2) h2 h
  rw [e1, e2, e3]; exact ⟨rfl, rfl⟩
theorem rk3_ok {l : Ls} {x : Int} (hl : okLt l 3) : SmallRes Tryz.prog 6 [.slice (some ⟨0, 0, none⟩) 3 0, .int .i64 x] (owG l 3) (.tuple #[.slice (some ⟨7, 0, none⟩) (rkM l 3 x) 0, .int .i64 (rkE l 3 x)]) (owG l 3 ++ [some (.row (ints (rkI l 3 x)) 1 true true true)]) := by
  refine fnP_res hm cRk_ok (hs := hsRk l x 3) ?_
  show fnP Tryz.prog cRk (hsRk l x 3) 6 _ _ _
  rw [rk3_t]
  have h0 : csA l 0 = 0 := rfl
  refine ⟨⟨is_of 0 hl (by decide)⟩, ⟨trivial⟩, br_of (fun h => ?_) (fun h => ?_)⟩
  · obtain ⟨e1, e2, e3⟩ := rk_bad (n := 3) (x := x) 0 h0 (by decide) h
    rw [e1, e2, e3]; exact ⟨rfl, rfl⟩
  obtain ⟨k0, h1, s0⟩ := rk_on 0 h0 h
  refine ⟨⟨k0⟩, ?_⟩
  refine ⟨⟨is_of 1 hl (by decide)⟩, ⟨trivial⟩, br_of (fun h => ?_) (fun h => ?_)⟩
  · obtain ⟨e1, e2, e3⟩ := rk_bad (n := 3) (x := x) 1 h1 (by decide) h
    rw [e1, e2, e3]; exact ⟨rfl, rfl⟩
  obtain ⟨k1, h2, s1⟩ := rk_on 1 h1 h
  refine ⟨⟨k1⟩, ?_⟩
  refine ⟨⟨is_of 2 hl (by decide)⟩, ⟨trivial⟩, br_of (fun h => ?_) (fun h => ?_)⟩
  · obtain ⟨e1, e2, e3⟩ := rk_bad (n := 3) (x := x) 2 h2 (by decide) h
    rw [e1, e2, e3]; exact ⟨rfl, rfl⟩
  obtain ⟨k2, h3, s2⟩ := rk_on 2 h2 h
  refine ⟨⟨k2⟩, ?_⟩
  refine br_of (fun h => ?_) (fun h => ?_)
  · obtain ⟨e1, e2, e3⟩ := rk_lim (n := 3) h3 h
    rw [e1, e2, e3]; exact ⟨rfl, rfl⟩
  have hx := lim_in h
  refine ⟨⟨⟩, ⟨⟨ip_of 0 hl (by decide) s0 hx⟩, br_of (fun g => ⟨⟨⟩, ⟨trivial⟩, ⟨rfl, rfl, rfl, rfl, rfl, rfl, rfl, trivial⟩, by rw [dI_yes 0 g]⟩) (fun g => ⟨⟨⟩, ⟨trivial⟩, ⟨rfl, rfl, rfl, rfl, rfl, rfl, rfl, trivial⟩, by rw [dI_no 0 g]⟩)⟩, fun _ _ => ?_⟩
  refine ⟨⟨⟩, ⟨⟨ip_of 1 hl (by decide) s1 hx⟩, br_of (fun g => ⟨⟨⟩, ⟨trivial⟩, ⟨rfl, rfl, rfl, rfl, rfl, rfl, rfl, trivial⟩, by rw [dI_yes 1 g]⟩) (fun g => ⟨⟨⟩, ⟨trivial⟩, ⟨rfl, rfl, rfl, rfl, rfl, rfl, rfl, trivial⟩, by rw [dI_no 1 g]⟩)⟩, fun _ _ => ?_⟩
  refine ⟨⟨⟩, ⟨⟨ip_of 2 hl (by decide) s2 hx⟩, br_of (fun g => ⟨⟨⟩, ⟨trivial⟩, ⟨rfl, rfl, rfl, rfl, rfl, rfl, rfl, trivial⟩, by rw [dI_yes 2 g]⟩) (fun g => ⟨⟨⟩, ⟨trivial⟩, ⟨rfl, rfl, rfl, rfl, rfl, rfl, rfl, trivial⟩, by rw [dI_no 2 g]⟩)⟩, fun _ _ => ?_⟩
  obtain ⟨e1, e2, e3⟩ := rk_fin (n := 3) h3 h
  rw [e1, e2, e3]; exact ⟨rfl, rfl⟩
end
end Qq
end
section
/- The program's Ranked, the trees for 4 sections. -/
open Go Go.Vm Go.Proofs Sp
namespace Qq
noncomputable section
theorem rk4_t (l : Ls) (x : Int) (K : Value → Heap → Prop) :
    (fnP Tryz.prog cRk (hsRk l x (4 : Nat)) (6 : FuncId) [Value.slice (some { block := (0 : Nat), off := (0 : Nat) }) (4 : Nat) (0 : Nat), Value.int IntKind.i64 x] (owG l (4 : Nat)) K) =
    (Is (isC (Ls.N l (0 : Nat)) (Ls.K l (0 : Nat)) (ints (Ls.zs l (0 : Nat))) (acs (Ls.ks l (0 : Nat)))) ∧ Is True ∧ br (fi [ckC (Ls.nm l (0 : Nat)) (Ls.N l (0 : Nat)) (Ls.K l (0 : Nat)) (ints (Ls.zs l (0 : Nat))) (acs (Ls.ks l (0 : Nat))), wh (hasK (Ls.nm l (0 : Nat)) []) (9 : Int)] != (0 : Int)) (K (Value.tuple #[Value.slice (some { block := (9 : Nat), off := (0 : Nat) }) (0 : Nat) (0 : Nat), Value.int IntKind.i64 (fi [ckC (Ls.nm l (0 : Nat)) (Ls.N l (0 : Nat)) (Ls.K l (0 : Nat)) (ints (Ls.zs l (0 : Nat))) (acs (Ls.ks l (0 : Nat))), wh (hasK (Ls.nm l (0 : Nat)) []) (9 : Int)])]) (owG l 4 ++ some (AObj.row [] (1 : Nat) true true true) :: noH)) (Is (hasK (Ls.nm l (0 : Nat)) [] = false) ∧ Is (isC (Ls.N l (1 : Nat)) (Ls.K l (1 : Nat)) (ints (Ls.zs l (1 : Nat))) (acs (Ls.ks l (1 : Nat)))) ∧ Is True ∧ br (fi [ckC (Ls.nm l (1 : Nat)) (Ls.N l (1 : Nat)) (Ls.K l (1 : Nat)) (ints (Ls.zs l (1 : Nat))) (acs (Ls.ks l (1 : Nat))), wh (hasK (Ls.nm l (1 : Nat)) [(Ls.nm l (0 : Nat), Value.bool true)]) (9 : Int)] != (0 : Int)) (K (Value.tuple #[Value.slice (some { block := (9 : Nat), off := (0 : Nat) }) (0 : Nat) (0 : Nat), Value.int IntKind.i64 (fi [ckC (Ls.nm l (1 : Nat)) (Ls.N l (1 : Nat)) (Ls.K l (1 : Nat)) (ints (Ls.zs l (1 : Nat))) (acs (Ls.ks l (1 : Nat))), wh (hasK (Ls.nm l (1 : Nat)) [(Ls.nm l (0 : Nat), Value.bool true)]) (9 : Int)])]) (owG l 4 ++ some (AObj.row [] (1 : Nat) true true true) :: noH)) (Is (hasK (Ls.nm l (1 : Nat)) [(Ls.nm l (0 : Nat), Value.bool true)] = false) ∧ Is (isC (Ls.N l (2 : Nat)) (Ls.K l (2 : Nat)) (ints (Ls.zs l (2 : Nat))) (acs (Ls.ks l (2 : Nat)))) ∧ Is True ∧ br (fi [ckC (Ls.nm l (2 : Nat)) (Ls.N l (2 : Nat)) (Ls.K l (2 : Nat)) (ints (Ls.zs l (2 : Nat))) (acs (Ls.ks l (2 : Nat))), wh (hasK (Ls.nm l (2 : Nat)) [(Ls.nm l (0 : Nat), Value.bool true), (Ls.nm l (1 : Nat), Value.bool true)]) (9 : Int)] != (0 : Int)) (K (Value.tuple #[Value.slice (some { block := (9 : Nat), off := (0 : Nat) }) (0 : Nat) (0 : Nat), Value.int IntKind.i64 (fi [ckC (Ls.nm l (2 : Nat)) (Ls.N l (2 : Nat)) (Ls.K l (2 : Nat)) (ints (Ls.zs l (2 : Nat))) (acs (Ls.ks l (2 : Nat))), wh (hasK (Ls.nm l (2 : Nat)) [(Ls.nm l (0 : Nat), Value.bool true), (Ls.nm l (1 : Nat), Value.bool true)]) (9 : Int)])]) (owG l 4 ++ some (AObj.row [] (1 : Nat) true true true) :: noH)) (Is (hasK (Ls.nm l (2 : Nat)) [(Ls.nm l (0 : Nat), Value.bool true), (Ls.nm l (1 : Nat), Value.bool true)] = false) ∧ Is (isC (Ls.N l (3 : Nat)) (Ls.K l (3 : Nat)) (ints (Ls.zs l (3 : Nat))) (acs (Ls.ks l (3 : Nat)))) ∧ Is True ∧ br (fi [ckC (Ls.nm l (3 : Nat)) (Ls.N l (3 : Nat)) (Ls.K l (3 : Nat)) (ints (Ls.zs l (3 : Nat))) (acs (Ls.ks l (3 : Nat))), wh (hasK (Ls.nm l (3 : Nat)) [(Ls.nm l (0 : Nat), Value.bool true), (Ls.nm l (1 : Nat), Value.bool true), (Ls.nm l (2 : Nat), Value.bool true)]) (9 : Int)] != (0 : Int)) (K (Value.tuple #[Value.slice (some { block := (9 : Nat), off := (0 : Nat) }) (0 : Nat) (0 : Nat), Value.int IntKind.i64 (fi [ckC (Ls.nm l (3 : Nat)) (Ls.N l (3 : Nat)) (Ls.K l (3 : Nat)) (ints (Ls.zs l (3 : Nat))) (acs (Ls.ks l (3 : Nat))), wh (hasK (Ls.nm l (3 : Nat)) [(Ls.nm l (0 : Nat), Value.bool true), (Ls.nm l (1 : Nat), Value.bool true), (Ls.nm l (2 : Nat), Value.bool true)]) (9 : Int)])]) (owG l 4 ++ some (AObj.row [] (1 : Nat) true true true) :: noH)) (Is (hasK (Ls.nm l (3 : Nat)) [(Ls.nm l (0 : Nat), Value.bool true), (Ls.nm l (1 : Nat), Value.bool true), (Ls.nm l (2 : Nat), Value.bool true)] = false) ∧ br (wi x (0 : Int) (100000 : Int) != (0 : Int)) (K (Value.tuple #[Value.slice (some { block := (9 : Nat), off := (0 : Nat) }) (0 : Nat) (0 : Nat), Value.int IntKind.i64 (wi x (0 : Int) (100000 : Int))]) (owG l 4 ++ some (AObj.row [] (1 : Nat) true true true) :: noH)) (∃ (p : Unit), (Is (ipC (Ls.N l (0 : Nat)) (Ls.K l (0 : Nat)) (↑(Ls.K l (0 : Nat)) : Int) x (ints (Ls.zs l (0 : Nat))) (acs (Ls.ks l (0 : Nat)))) ∧ br (rdC (Ls.N l (0 : Nat)) (Ls.K l (0 : Nat)) (↑(Ls.K l (0 : Nat)) : Int) x (ints (Ls.zs l (0 : Nat))) (acs (Ls.ks l (0 : Nat))) == (0 : Int)) (∃ (s : Unit), Is True ∧ (Value.slice (some { block := (0 : Nat), off := (0 : Nat) }) (4 : Nat) (0 : Nat) = Value.slice (some { block := (0 : Nat), off := (0 : Nat) }) (4 : Nat) (0 : Nat) ∧ Value.int IntKind.i64 x = Value.int IntKind.i64 x ∧ Value.slice none (0 : Nat) (0 : Nat) = Value.slice none (0 : Nat) (0 : Nat) ∧ Value.pointer (some { block := (9 : Nat), off := (0 : Nat) }) = Value.pointer (some { block := (9 : Nat), off := (0 : Nat) }) ∧ Value.slice (some { block := (0 : Nat), off := (0 : Nat) }) (4 : Nat) (0 : Nat) = Value.slice (some { block := (0 : Nat), off := (0 : Nat) }) (4 : Nat) (0 : Nat) ∧ Value.int IntKind.i64 (4 : Int) = Value.int IntKind.i64 (4 : Int) ∧ Value.int IntKind.i64 (0 : Int) = Value.int IntKind.i64 (0 : Int) ∧ True) ∧ owG l 4 ++ some (AObj.row [poi, poi, poi, Value.int IntKind.i64 (gz (rdC (Ls.N l (0 : Nat)) (Ls.K l (0 : Nat)) (↑(Ls.K l (0 : Nat)) : Int) x (ints (Ls.zs l (0 : Nat))) (acs (Ls.ks l (0 : Nat)))) (rnC (Ls.N l (0 : Nat)) (Ls.K l (0 : Nat)) (↑(Ls.K l (0 : Nat)) : Int) x (ints (Ls.zs l (0 : Nat))) (acs (Ls.ks l (0 : Nat))))), Value.int IntKind.i64 (0 : Int)] (0 : Nat) false true false) :: noH = owG l 4 ++ some (AObj.row [poi, poi, poi, Value.int IntKind.i64 (dI l x (0 : Nat)), Value.int IntKind.i64 (0 : Int)] (0 : Nat) false true false) :: noH) (∃ (s : Unit), Is True ∧ (Value.slice (some { block := (0 : Nat), off := (0 : Nat) }) (4 : Nat) (0 : Nat) = Value.slice (some { block := (0 : Nat), off := (0 : Nat) }) (4 : Nat) (0 : Nat) ∧ Value.int IntKind.i64 x = Value.int IntKind.i64 x ∧ Value.slice none (0 : Nat) (0 : Nat) = Value.slice none (0 : Nat) (0 : Nat) ∧ Value.pointer (some { block := (9 : Nat), off := (0 : Nat) }) = Value.pointer (some { block := (9 : Nat), off := (0 : Nat) }) ∧ Value.slice (some { block := (0 : Nat), off := (0 : Nat) }) (4 : Nat) (0 : Nat) = Value.slice (some { block := (0 : Nat), off := (0 : Nat) }) (4 : Nat) (0 : Nat) ∧ Value.int IntKind.i64 (4 : Int) = Value.int IntKind.i64 (4 : Int) ∧ Value.int IntKind.i64 (0 : Int) = Value.int IntKind.i64 (0 : Int) ∧ True) ∧ owG l 4 ++ some (AObj.row [poi, poi, poi, Value.int IntKind.i64 (100001 : Int), Value.int IntKind.i64 (0 : Int)] (0 : Nat) false true false) :: noH = owG l 4 ++ some (AObj.row [poi, poi, poi, Value.int IntKind.i64 (dI l x (0 : Nat)), Value.int IntKind.i64 (0 : Int)] (0 : Nat) false true false) :: noH)) ∧ ∀ (s : Unit), Is True → ∃ (p : Unit), (Is (ipC (Ls.N l (1 : Nat)) (Ls.K l (1 : Nat)) (↑(Ls.K l (1 : Nat)) : Int) x (ints (Ls.zs l (1 : Nat))) (acs (Ls.ks l (1 : Nat)))) ∧ br (rdC (Ls.N l (1 : Nat)) (Ls.K l (1 : Nat)) (↑(Ls.K l (1 : Nat)) : Int) x (ints (Ls.zs l (1 : Nat))) (acs (Ls.ks l (1 : Nat))) == (0 : Int)) (∃ (s : Unit), Is True ∧ (Value.slice (some { block := (0 : Nat), off := (0 : Nat) }) (4 : Nat) (0 : Nat) = Value.slice (some { block := (0 : Nat), off := (0 : Nat) }) (4 : Nat) (0 : Nat) ∧ Value.int IntKind.i64 x = Value.int IntKind.i64 x ∧ Value.slice (some { block := (9 : Nat), off := (0 : Nat) }) (1 : Nat) (0 : Nat) = Value.slice (some { block := (9 : Nat), off := (0 : Nat) }) (1 : Nat) (0 : Nat) ∧ Value.pointer (some { block := (10 : Nat), off := (0 : Nat) }) = Value.pointer (some { block := (10 : Nat), off := (0 : Nat) }) ∧ Value.slice (some { block := (0 : Nat), off := (0 : Nat) }) (4 : Nat) (0 : Nat) = Value.slice (some { block := (0 : Nat), off := (0 : Nat) }) (4 : Nat) (0 : Nat) ∧ Value.int IntKind.i64 (4 : Int) = Value.int IntKind.i64 (4 : Int) ∧ Value.int IntKind.i64 (1 : Int) = Value.int IntKind.i64 (1 : Int) ∧ True) ∧ owG l 4 ++ some (AObj.row [poi, poi, poi, Value.int IntKind.i64 (dI l x (0 : Nat)), Value.int IntKind.i64 (0 : Int)] (5 : Nat) true true false) :: some (AObj.row [poi, poi, poi, Value.int IntKind.i64 (gz (rdC (Ls.N l (1 : Nat)) (Ls.K l (1 : Nat)) (↑(Ls.K l (1 : Nat)) : Int) x (ints (Ls.zs l (1 : Nat))) (acs (Ls.ks l (1 : Nat)))) (rnC (Ls.N l (1 : Nat)) (Ls.K l (1 : Nat)) (↑(Ls.K l (1 : Nat)) : Int) x (ints (Ls.zs l (1 : Nat))) (acs (Ls.ks l (1 : Nat))))), Value.int IntKind.i64 (1 : Int)] (0 : Nat) false true false) :: noH = owG l 4 ++ some (AObj.row [poi, poi, poi, Value.int IntKind.i64 (dI l x (0 : Nat)), Value.int IntKind.i64 (0 : Int)] (5 : Nat) true true false) :: some (AObj.row [poi, poi, poi, Value.int IntKind.i64 (dI l x (1 : Nat)), Value.int IntKind.i64 (1 : Int)] (0 : Nat) false true false) :: noH) (∃ (s : Unit), Is True ∧ (Value.slice (some { block := (0 : Nat), off := (0 : Nat) }) (4 : Nat) (0 : Nat) = Value.slice (some { block := (0 : Nat), off := (0 : Nat) }) (4 : Nat) (0 : Nat) ∧ Value.int IntKind.i64 x = Value.int IntKind.i64 x ∧ Value.slice (some { block := (9 : Nat), off := (0 : Nat) }) (1 : Nat) (0 : Nat) = Value.slice (some { block := (9 : Nat), off := (0 : Nat) }) (1 : Nat) (0 : Nat) ∧ Value.pointer (some { block := (10 : Nat), off := (0 : Nat) }) = Value.pointer (some { block := (10 : Nat), off := (0 : Nat) }) ∧ Value.slice (some { block := (0 : Nat), off := (0 : Nat) }) (4 : Nat) (0 : Nat) = Value.slice (some { block := (0 : Nat), off := (0 : Nat) }) (4 : Nat) (0 : Nat) ∧ Value.int IntKind.i64 (4 : Int) = Value.int IntKind.i64 (4 : Int) ∧ Value.int IntKind.i64 (1 : Int) = Value.int IntKind.i64 (1 : Int) ∧ True) ∧ owG l 4 ++ some (AObj.row [poi, poi, poi, Value.int IntKind.i64 (dI l x (0 : Nat)), Value.int IntKind.i64 (0 : Int)] (5 : Nat) true true false) :: some (AObj.row [poi, poi, poi, Value.int IntKind.i64 (100001 : Int), Value.int IntKind.i64 (1 : Int)] (0 : Nat) false true false) :: noH = owG l 4 ++ some (AObj.row [poi, poi, poi, Value.int IntKind.i64 (dI l x (0 : Nat)), Value.int IntKind.i64 (0 : Int)] (5 : Nat) true true false) :: some (AObj.row [poi, poi, poi, Value.int IntKind.i64 (dI l x (1 : Nat)), Value.int IntKind.i64 (1 : Int)] (0 : Nat) false true false) :: noH)) ∧ ∀ (s : Unit), Is True → ∃ (p : Unit), (Is (ipC (Ls.N l (2 : Nat)) (Ls.K l (2 : Nat)) (↑(Ls.K l (2 : Nat)) : Int) x (ints (Ls.zs l (2 : Nat))) (acs (Ls.ks l (2 : Nat)))) ∧ br (rdC (Ls.N l (2 : Nat)) (Ls.K l (2 : Nat)) (↑(Ls.K l (2 : Nat)) : Int) x (ints (Ls.zs l (2 : Nat))) (acs (Ls.ks l (2 : Nat))) == (0 : Int)) (∃ (s : Unit), Is True ∧ (Value.slice (some { block := (0 : Nat), off := (0 : Nat) }) (4 : Nat) (0 : Nat) = Value.slice (some { block := (0 : Nat), off := (0 : Nat) }) (4 : Nat) (0 : Nat) ∧ Value.int IntKind.i64 x = Value.int IntKind.i64 x ∧ Value.slice (some { block := (9 : Nat), off := (0 : Nat) }) (2 : Nat) (0 : Nat) = Value.slice (some { block := (9 : Nat), off := (0 : Nat) }) (2 : Nat) (0 : Nat) ∧ Value.pointer (some { block := (10 : Nat), off := (0 : Nat) }) = Value.pointer (some { block := (10 : Nat), off := (0 : Nat) }) ∧ Value.slice (some { block := (0 : Nat), off := (0 : Nat) }) (4 : Nat) (0 : Nat) = Value.slice (some { block := (0 : Nat), off := (0 : Nat) }) (4 : Nat) (0 : Nat) ∧ Value.int IntKind.i64 (4 : Int) = Value.int IntKind.i64 (4 : Int) ∧ Value.int IntKind.i64 (2 : Int) = Value.int IntKind.i64 (2 : Int) ∧ True) ∧ owG l 4 ++ some (AObj.row [poi, poi, poi, Value.int IntKind.i64 (dI l x (0 : Nat)), Value.int IntKind.i64 (0 : Int), poi, poi, poi, Value.int IntKind.i64 (dI l x (1 : Nat)), Value.int IntKind.i64 (1 : Int)] (5 : Nat) true true false) :: some (AObj.row [poi, poi, poi, Value.int IntKind.i64 (gz (rdC (Ls.N l (2 : Nat)) (Ls.K l (2 : Nat)) (↑(Ls.K l (2 : Nat)) : Int) x (ints (Ls.zs l (2 : Nat))) (acs (Ls.ks l (2 : Nat)))) (rnC (Ls.N l (2 : Nat)) (Ls.K l (2 : Nat)) (↑(Ls.K l (2 : Nat)) : Int) x (ints (Ls.zs l (2 : Nat))) (acs (Ls.ks l (2 : Nat))))), Value.int IntKind.i64 (2 : Int)] (0 : Nat) false true false) :: noH = owG l 4 ++ some (AObj.row [poi, poi, poi, Value.int IntKind.i64 (dI l x (0 : Nat)), Value.int IntKind.i64 (0 : Int), poi, poi, poi, Value.int IntKind.i64 (dI l x (1 : Nat)), Value.int IntKind.i64 (1 : Int)] (5 : Nat) true true false) :: some (AObj.row [poi, poi, poi, Value.int IntKind.i64 (dI l x (2 : Nat)), Value.int IntKind.i64 (2 : Int)] (0 : Nat) false true false) :: noH) (∃ (s : Unit), Is True ∧ (Value.slice (some { block := (0 : Nat), off := (0 : Nat) }) (4 : Nat) (0 : Nat) = Value.slice (some { block := (0 : Nat), off := (0 : Nat) }) (4 : Nat) (0 : Nat) ∧ Value.int IntKind.i64 x = Value.int IntKind.i64 x ∧ Value.slice (some { block := (9 : Nat), off := (0 : Nat) }) (2 : Nat) (0 : Nat) = Value.slice (some { block := (9 : Nat), off := (0 : Nat) }) (2 : Nat) (0 : Nat) ∧ Value.pointer (some { block := (10 : Nat), off := (0 : Nat) }) = Value.pointer (some { block := (10 : Nat), off := (0 : Nat) }) ∧ Value.slice (some { block := (0 : Nat), off := (0 : Nat) }) (4 : Nat) (0 : Nat) = Value.slice (some { block := (0 : Nat), off := (0 : Nat) }) (4 : Nat) (0 : Nat) ∧ Value.int IntKind.i64 (4 : Int) = Value.int IntKind.i64 (4 : Int) ∧ Value.int IntKind.i64 (2 : Int) = Value.int IntKind.i64 (2 : Int) ∧ True) ∧ owG l 4 ++ some (AObj.row [poi, poi, poi, Value.int IntKind.i64 (dI l x (0 : Nat)), Value.int IntKind.i64 (0 : Int), poi, poi, poi, Value.int IntKind.i64 (dI l x (1 : Nat)), Value.int IntKind.i64 (1 : Int)] (5 : Nat) true true false) :: some (AObj.row [poi, poi, poi, Value.int IntKind.i64 (100001 : Int), Value.int IntKind.i64 (2 : Int)] (0 : Nat) false true false) :: noH = owG l 4 ++ some (AObj.row [poi, poi, poi, Value.int IntKind.i64 (dI l x (0 : Nat)), Value.int IntKind.i64 (0 : Int), poi, poi, poi, Value.int IntKind.i64 (dI l x (1 : Nat)), Value.int IntKind.i64 (1 : Int)] (5 : Nat) true true false) :: some (AObj.row [poi, poi, poi, Value.int IntKind.i64 (dI l x (2 : Nat)), Value.int IntKind.i64 (2 : Int)] (0 : Nat) false true false) :: noH)) ∧ ∀ (s : Unit), Is True → ∃ (p : Unit), (Is (ipC (Ls.N l (3 : Nat)) (Ls.K l (3 : Nat)) (↑(Ls.K l (3 : Nat)) : Int) x (ints (Ls.zs l (3 : Nat))) (acs (Ls.ks l (3 : Nat)))) ∧ br (rdC (Ls.N l (3 : Nat)) (Ls.K l (3 : Nat)) (↑(Ls.K l (3 : Nat)) : Int) x (ints (Ls.zs l (3 : Nat))) (acs (Ls.ks l (3 : Nat))) == (0 : Int)) (∃ (s : Unit), Is True ∧ (Value.slice (some { block := (0 : Nat), off := (0 : Nat) }) (4 : Nat) (0 : Nat) = Value.slice (some { block := (0 : Nat), off := (0 : Nat) }) (4 : Nat) (0 : Nat) ∧ Value.int IntKind.i64 x = Value.int IntKind.i64 x ∧ Value.slice (some { block := (9 : Nat), off := (0 : Nat) }) (3 : Nat) (0 : Nat) = Value.slice (some { block := (9 : Nat), off := (0 : Nat) }) (3 : Nat) (0 : Nat) ∧ Value.pointer (some { block := (10 : Nat), off := (0 : Nat) }) = Value.pointer (some { block := (10 : Nat), off := (0 : Nat) }) ∧ Value.slice (some { block := (0 : Nat), off := (0 : Nat) }) (4 : Nat) (0 : Nat) = Value.slice (some { block := (0 : Nat), off := (0 : Nat) }) (4 : Nat) (0 : Nat) ∧ Value.int IntKind.i64 (4 : Int) = Value.int IntKind.i64 (4 : Int) ∧ Value.int IntKind.i64 (3 : Int) = Value.int IntKind.i64 (3 : Int) ∧ True) ∧ owG l 4 ++ some (AObj.row [poi, poi, poi, Value.int IntKind.i64 (dI l x (0 : Nat)), Value.int IntKind.i64 (0 : Int), poi, poi, poi, Value.int IntKind.i64 (dI l x (1 : Nat)), Value.int IntKind.i64 (1 : Int), poi, poi, poi, Value.int IntKind.i64 (dI l x (2 : Nat)), Value.int IntKind.i64 (2 : Int)] (5 : Nat) true true false) :: some (AObj.row [poi, poi, poi, Value.int IntKind.i64 (gz (rdC (Ls.N l (3 : Nat)) (Ls.K l (3 : Nat)) (↑(Ls.K l (3 : Nat)) : Int) x (ints (Ls.zs l (3 : Nat))) (acs (Ls.ks l (3 : Nat)))) (rnC (Ls.N l (3 : Nat)) (Ls.K l (3 : Nat)) (↑(Ls.K l (3 : Nat)) : Int) x (ints (Ls.zs l (3 : Nat))) (acs (Ls.ks l (3 : Nat))))), Value.int IntKind.i64 (3 : Int)] (0 : Nat) false true false) :: noH = owG l 4 ++ some (AObj.row [poi, poi, poi, Value.int IntKind.i64 (dI l x (0 : Nat)), Value.int IntKind.i64 (0 : Int), poi, poi, poi, Value.int IntKind.i64 (dI l x (1 : Nat)), Value.int IntKind.i64 (1 : Int), poi, poi, poi, Value.int IntKind.i64 (dI l x (2 : Nat)), Value.int IntKind.i64 (2 : Int)] (5 : Nat) true true false) :: some (AObj.row [poi, poi, poi, Value.int IntKind.i64 (dI l x (3 : Nat)), Value.int IntKind.i64 (3 : Int)] (0 : Nat) false true false) :: noH) (∃ (s : Unit), Is True ∧ (Value.slice (some { block := (0 : Nat), off := (0 : Nat) }) (4 : Nat) (0 : Nat) = Value.slice (some { block := (0 : Nat), off := (0 : Nat) }) (4 : Nat) (0 : Nat) ∧ Value.int IntKind.i64 x = Value.int IntKind.i64 x ∧ Value.slice (some { block := (9 : Nat), off := (0 : Nat) }) (3 : Nat) (0 : Nat) = Value.slice (some { block := (9 : Nat), off := (0 : Nat) }) (3 : Nat) (0 : Nat) ∧ Value.pointer (some { block := (10 : Nat), off := (0 : Nat) }) = Value.pointer (some { block := (10 : Nat), off := (0 : Nat) }) ∧ Value.slice (some { block := (0 : Nat), off := (0 : Nat) }) (4 : Nat) (0 : Nat) = Value.slice (some { block := (0 : Nat), off := (0 : Nat) }) (4 : Nat) (0 : Nat) ∧ Value.int IntKind.i64 (4 : Int) = Value.int IntKind.i64 (4 : Int) ∧ Value.int IntKind.i64 (3 : Int) = Value.int IntKind.i64 (3 : Int) ∧ True) ∧ owG l 4 ++ some (AObj.row [poi, poi, poi, Value.int IntKind.i64 (dI l x (0 : Nat)), Value.int IntKind.i64 (0 : Int), poi, poi, poi, Value.int IntKind.i64 (dI l x (1 : Nat)), Value.int IntKind.i64 (1 : Int), poi, poi, poi, Value.int IntKind.i64 (dI l x (2 : Nat)), Value.int IntKind.i64 (2 : Int)] (5 : Nat) true true false) :: some (AObj.row [poi, poi, poi, Value.int IntKind.i64 (100001 : Int), Value.int IntKind.i64 (3 : Int)] (0 : Nat) false true false) :: noH = owG l 4 ++ some (AObj.row [poi, poi, poi, Value.int IntKind.i64 (dI l x (0 : Nat)), Value.int IntKind.i64 (0 : Int), poi, poi, poi, Value.int IntKind.i64 (dI l x (1 : Nat)), Value.int IntKind.i64 (1 : Int), poi, poi, poi, Value.int IntKind.i64 (dI l x (2 : Nat)), Value.int IntKind.i64 (2 : Int)] (5 : Nat) true true false) :: some (AObj.row [poi, poi, poi, Value.int IntKind.i64 (dI l x (3 : Nat)), Value.int IntKind.i64 (3 : Int)] (0 : Nat) false true false) :: noH)) ∧ ∀ (s : Unit), Is True → K (Value.tuple #[Value.slice (some { block := (9 : Nat), off := (0 : Nat) }) (4 : Nat) (0 : Nat), Value.int IntKind.i64 (0 : Int)]) (owG l 4 ++ some (AObj.row [Value.int IntKind.i64 (sN [dI l x (0 : Nat), dI l x (1 : Nat), dI l x (2 : Nat), dI l x (3 : Nat)] (4 : Nat) (0 : Nat)), Value.int IntKind.i64 (sN [dI l x (0 : Nat), dI l x (1 : Nat), dI l x (2 : Nat), dI l x (3 : Nat)] (4 : Nat) (1 : Nat)), Value.int IntKind.i64 (sN [dI l x (0 : Nat), dI l x (1 : Nat), dI l x (2 : Nat), dI l x (3 : Nat)] (4 : Nat) (2 : Nat)), Value.int IntKind.i64 (sN [dI l x (0 : Nat), dI l x (1 : Nat), dI l x (2 : Nat), dI l x (3 : Nat)] (4 : Nat) (3 : Nat))] (1 : Nat) true true (List.all [Value.int IntKind.i64 (sN [dI l x (0 : Nat), dI l x (1 : Nat), dI l x (2 : Nat), dI l x (3 : Nat)] (4 : Nat) (0 : Nat))] atom && List.all [Value.int IntKind.i64 (sN [dI l x (0 : Nat), dI l x (1 : Nat), dI l x (2 : Nat), dI l x (3 : Nat)] (4 : Nat) (1 : Nat))] atom && List.all [Value.int IntKind.i64 (sN [dI l x (0 : Nat), dI l x (1 : Nat), dI l x (2 : Nat), dI l x (3 : Nat)] (4 : Nat) (2 : Nat))] atom && List.all [Value.int IntKind.i64 (sN [dI l x (0 : Nat), dI l x (1 : Nat), dI l x (2 : Nat), dI l x (3 : Nat)] (4 : Nat) (3 : Nat))] atom)) :: noH))))))) := by kernel_rfl
end
end Qq
end
