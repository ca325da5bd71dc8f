/- strings.Repeat, by the library's contract. -/
import Derived.Shelf.Strings.Repeat
import Derived.Test.YtafhncpaoolljaaGreatProg
namespace Go.Proofs
set_option maxRecDepth 100000
set_option linter.unusedVariables false
open Go.Shelf
def Tryz.lays105_ren : Go.Shelf.Ren := ⟨fun | 105 => 33 | 212 => 66 | 99 => 67 | 165 => 68 | 166 => 22 | 170 => 69 | 169 => 24 | 263 => 98 | 264 => 48 | 206 => 99 | 240 => 52 | 241 => 100 | 276 => 91 | 277 => 128 | n => n, fun | 9 => 9 | 3 => 3 | 4 => 4 | 20 => 20 | 0 => 0 | 46 => 79 | 109 => 88 | 5 => 5 | 72 => 44 | 76 => 49 | 51 => 112 | 146 => 129 | 53 => 54 | 148 => 73 | 70 => 42 | 37 => 29 | 75 => 48 | 127 => 80 | 164 => 123 | 80 => 40 | n => n, fun | n => n⟩
theorem Tryz.lays105 : Go.Proofs.Lays.n105 Tryz.prog Tryz.lays105_ren := {
 mixed := by kernel_rfl
 f99 := Tryz.func67.trans (congrArg some (by kernel_rfl))
 f105 := Tryz.func33.trans (congrArg some (by kernel_rfl))
 f165 := Tryz.func68.trans (congrArg some (by kernel_rfl))
 f166 := Tryz.func22.trans (congrArg some (by kernel_rfl))
 f169 := Tryz.func24.trans (congrArg some (by kernel_rfl))
 f170 := Tryz.func69.trans (congrArg some (by kernel_rfl))
 f206 := Tryz.func99.trans (congrArg some (by kernel_rfl))
 f212 := Tryz.func66.trans (congrArg some (by kernel_rfl))
 f240 := Tryz.func52.trans (congrArg some (by kernel_rfl))
 f241 := Tryz.func100.trans (congrArg some (by kernel_rfl))
 f263 := Tryz.func98.trans (congrArg some (by kernel_rfl))
 f264 := Tryz.func48.trans (congrArg some (by kernel_rfl))
 f276 := Tryz.func91.trans (congrArg some (by kernel_rfl))
 f277 := Tryz.func128.trans (congrArg some (by kernel_rfl))
 t0 := Tryz.underlying0
 a0 := Tryz.isAgg0
 z0 := Tryz.sizeOf0
 v0 := Tryz.zeroValue0
 t3 := Tryz.underlying3
 a3 := Tryz.isAgg3
 z3 := Tryz.sizeOf3
 v3 := Tryz.zeroValue3
 t4 := Tryz.underlying4
 a4 := Tryz.isAgg4
 z4 := Tryz.sizeOf4
 v4 := Tryz.zeroValue4
 t5 := Tryz.underlying5
 a5 := Tryz.isAgg5
 z5 := Tryz.sizeOf5
 v5 := Tryz.zeroValue5
 t9 := Tryz.underlying9
 a9 := Tryz.isAgg9
 z9 := Tryz.sizeOf9
 v9 := Tryz.zeroValue9
 t20 := Tryz.underlying20
 a20 := Tryz.isAgg20
 z20 := Tryz.sizeOf20
 v20 := Tryz.zeroValue20
 t37 := Tryz.underlying29
 a37 := Tryz.isAgg29
 z37 := Tryz.sizeOf29
 v37 := Tryz.zeroValue29
 t46 := Tryz.underlying79
 a46 := Tryz.isAgg79
 z46 := Tryz.sizeOf79
 v46 := Tryz.zeroValue79
 t51 := Tryz.underlying112
 a51 := Tryz.isAgg112
 z51 := Tryz.sizeOf112
 v51 := Tryz.zeroValue112
 t53 := Tryz.underlying54
 a53 := Tryz.isAgg54
 z53 := Tryz.sizeOf54
 v53 := Tryz.zeroValue54
 t70 := Tryz.underlying42
 a70 := Tryz.isAgg42
 z70 := Tryz.sizeOf42
 v70 := Tryz.zeroValue42
 t72 := Tryz.underlying44
 a72 := Tryz.isAgg44
 z72 := Tryz.sizeOf44
 v72 := Tryz.zeroValue44
 t75 := Tryz.underlying48
 a75 := Tryz.isAgg48
 z75 := Tryz.sizeOf48
 v75 := Tryz.zeroValue48
 t76 := Tryz.underlying49
 a76 := Tryz.isAgg49
 z76 := Tryz.sizeOf49
 v76 := Tryz.zeroValue49
 t109 := Tryz.underlying88
 a109 := Tryz.isAgg88
 z109 := Tryz.sizeOf88
 v109 := Tryz.zeroValue88
 t127 := Tryz.underlying80
 a127 := Tryz.isAgg80
 z127 := Tryz.sizeOf80
 v127 := Tryz.zeroValue80
 t146 := Tryz.underlying129
 a146 := Tryz.isAgg129
 z146 := Tryz.sizeOf129
 v146 := Tryz.zeroValue129
 t148 := Tryz.underlying73
 a148 := Tryz.isAgg73
 z148 := Tryz.sizeOf73
 v148 := Tryz.zeroValue73
 t164 := Tryz.underlying123
 a164 := Tryz.isAgg123
 z164 := Tryz.sizeOf123
 v164 := Tryz.zeroValue123 }
theorem Tryz.Builder_Extra_105 : Builder.Extra Tryz.prog Tryz.lays105_ren := {
 sizeBuilder := by kernel_rfl
 liesBuilder := by kernel_rfl
 t5 := Tryz.underlying5
 a5 := Tryz.isAgg5
 z5 := Tryz.sizeOf5
 v5 := Tryz.zeroValue5
 infoByte := by kernel_rfl
 cellsByte := by kernel_rfl
 sizeByte := by kernel_rfl
 neB5 := by decide }
open Go.RowKit Go.Lib in
open Go.RowKit Go.Lib in
open Go.RowKit Go.Lib in
open Go.RowKit Go.Lib in
open Go.RowKit Go.Lib in
open Go.RowKit Go.Lib in
open Go.RowKit Go.Lib in
theorem Tryz.strings_Repeat (s : ByteArray) (c : Nat) (w : World) (hc : c ≤ 9223372036854775807) (hlen : s.size * c ≤ 140737488355328) :
   Calls Tryz.prog 33 #[.string s, .int .i64 c] w fun e w' => e = .returned (.string ⟨(Lib.repeatL s.data.toList c).toArray⟩) ∧ Below w.heap.size w w' := Any.strings_Repeat Tryz.lays105 Tryz.Builder_Extra_105 s c w hc hlen
end Go.Proofs
