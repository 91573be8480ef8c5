/- The types of this program's functions, part 1 -/
import Derived.Test.YtmceiidhhpcjkaaDoorA14
set_option linter.all false
section
/- The package-level tables, plain. -/
namespace Go.Pf
def partsL : List ByteArray := [{ data := #[] }, { data := #[68, 110] }, { data := #[68, 65] }, { data := #[68, 65, 66] }, { data := #[68, 65, 66] }, { data := #[68, 65, 66] }, { data := #[68, 65, 66] }, { data := #[68] }, { data := #[68, 65] }, { data := #[68, 65, 66] }, { data := #[68, 78, 77] }, { data := #[68, 65, 78] }, { data := #[65, 78, 66] }, { data := #[68, 65, 78] }, { data := #[65, 78, 66] }, { data := #[68, 65, 78] }, { data := #[68, 65, 110] }, { data := #[68, 65] }, { data := #[65, 66] }, { data := #[68, 78, 76] }, { data := #[65] }, { data := #[78] }, { data := #[65, 78, 77] }, { data := #[65] }]
def rowsL : List Int := [0, 0, 0, 0, (-1), (-1), (-1), (-1), (-1), 0, 0, 0, 0, 0, 0, 0, 0, 0, 0, 0, 0, 1, (-1), (-1), 0, 1, (-1), 0, 1, 1, 1, (-1), (-1), 0, 1, (-1), (-1), 1, 0, 1, 1, (-1), (-1), 1, 1, 2, 1, (-1), 2, 2, (-1), 0, 2, (-1), (-1), 2, 0, (-1), (-1), (-1), (-1), 0, (-1), (-1), (-1), (-1), (-1), 0, (-1), (-1), (-1), (-1)]
end Go.Pf
end
