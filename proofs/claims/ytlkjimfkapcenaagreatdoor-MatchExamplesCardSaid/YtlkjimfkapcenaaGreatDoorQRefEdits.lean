/- edits of the reference: the edits of two words, by a table. For all words of at most 40 bytes. -/
import Derived.BigQuiet
import Derived.Deep.LoopGhost
import Derived.Deep.QuietTactic
import Derived.Deep.RegionHeld3
import Derived.Test.YtlkjimfkapcenaaGreatDoorProg
import Derived.WalkLawsBesides
import Derived.Test.YtlkjimfkapcenaaGreatDoorQBase
import Derived.Test.YtlkjimfkapcenaaGreatDoorQLaws
namespace Go.Proofs.YtlkjimfkapcenaaGreatDoor
open Go.RowKit

theorem info_int : (Tryz.prog.info? 3).map (fun i => (i.zero, i.size, i.bytes)) = some (some (.int .i64 0), 1, 8) := by kernel_rfl
theorem info_ints : (Tryz.prog.info? 51).map (fun i => (i.zero, i.size, i.bytes)) = some (some (.slice none 0 0), 1, 24) := by kernel_rfl

/-- The table with the first i rows made. -/
def tab (T m i r : Nat) : Value := if r < i then .slice (some ⟨T + 1 + r, 0, none⟩) (m + 1) (m + 1) else .slice none 0 0
/-- Row i up to place k. -/
def rowK (a b : ByteArray) (i k j : Nat) : Int := if j < k then lev a b i j else 0

end Go.Proofs.YtlkjimfkapcenaaGreatDoor
