/- Contracts of functions of Go's library, out of the shelf. -/
import Derived.Shelf.Strings.Builder1
import Derived.Shelf.Small.Strs
import Derived.Shelf.Strings.BuilderF
import Derived.Shelf.Strings.Search1
import Derived.Shelf.Strings.Search2
import Derived.Shelf.Strings.Search3
import Derived.Shelf.Strings.Cut
import Derived.Shelf.LaysM
import Derived.Shelf.Strings.Shaped
import Derived.Shelf.Strings.Prefix
import Derived.Test.YtldjakeigjngoaaProg
set_option linter.unusedVariables false
namespace Go.Proofs
open Go.Shelf
def Try.lays145_ren : Go.Shelf.Ren := ⟨fun | 145 => 45 | 220 => 79 | 219 => 112 | 217 => 145 | 225 => 146 | 224 => 147 | 267 => 148 | 266 => 167 | 314 => 168 | n => n, fun | 9 => 9 | 4 => 4 | 59 => 80 | 3 => 3 | 5 => 5 | 46 => 184 | 146 => 199 | 51 => 198 | n => n, fun | 1 => 0 | n => n⟩
theorem Try.lays145 : Go.Proofs.Lays.n145 Try.prog Try.lays145_ren := {
 mixed := by kernel_rfl
 f145 := Try.func45.trans (congrArg some (by kernel_rfl))
 f217 := Try.func145.trans (congrArg some (by kernel_rfl))
 f219 := Try.func112.trans (congrArg some (by kernel_rfl))
 f220 := Try.func79.trans (congrArg some (by kernel_rfl))
 f224 := Try.func147.trans (congrArg some (by kernel_rfl))
 f225 := Try.func146.trans (congrArg some (by kernel_rfl))
 f266 := Try.func167.trans (congrArg some (by kernel_rfl))
 f267 := Try.func148.trans (congrArg some (by kernel_rfl))
 f314 := Try.func168.trans (congrArg some (by kernel_rfl))
 t3 := Try.underlying3
 a3 := Try.isAgg3
 z3 := Try.sizeOf3
 v3 := Try.zeroValue3
 t4 := Try.underlying4
 a4 := Try.isAgg4
 z4 := Try.sizeOf4
 v4 := Try.zeroValue4
 t5 := Try.underlying5
 a5 := Try.isAgg5
 z5 := Try.sizeOf5
 v5 := Try.zeroValue5
 t9 := Try.underlying9
 a9 := Try.isAgg9
 z9 := Try.sizeOf9
 v9 := Try.zeroValue9
 t46 := Try.underlying184
 a46 := Try.isAgg184
 z46 := Try.sizeOf184
 v46 := Try.zeroValue184
 t51 := Try.underlying198
 a51 := Try.isAgg198
 z51 := Try.sizeOf198
 v51 := Try.zeroValue198
 t59 := Try.underlying80
 a59 := Try.isAgg80
 z59 := Try.sizeOf80
 v59 := Try.zeroValue80
 t146 := Try.underlying199
 a146 := Try.isAgg199
 z146 := Try.sizeOf199
 v146 := Try.zeroValue199
 g1 := by kernel_rfl }
open Go.RowKit Go.Lib in
theorem Try.strings_Cut (s sep : ByteArray) (m : Int) (w : World) (hs : s.size < 4294967281) (hm : w.cell? ⟨0, 0, none⟩ = some (.int .i64 m)) :
 Calls Try.prog 45 #[.string s, .string sep] w fun e w' => e = .returned (.tuple #[.string ⟨(Lib.cut s.data.toList sep.data.toList).1.toArray⟩, .string ⟨(Lib.cut s.data.toList sep.data.toList).2.1.toArray⟩, .bool (Lib.cut s.data.toList sep.data.toList).2.2]) ∧ ∃ n, w' = w.drewN n := Any.strings_Cut Try.lays145 s sep m w hs hm
end Go.Proofs