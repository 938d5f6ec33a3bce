/- Readings of this seat's types. -/
import Derived.Test.YtdgcfgiedclmcaaProg
import Derived.Test.YtdgcfgiedclmcaaO
import Derived.KernelRfl
namespace Go.Proofs.Ytdgcfgiedclmcaa
open Go.RowKit Go.ChangeShapes Go.WideShapes

theorem op_u8 : Opens Try.prog 5 Enc.u8 := opens_int Try.underlying5
theorem op_int : Opens Try.prog 3 Enc.i64 := opens_int Try.underlying3
theorem op_bool : Opens Try.prog 4 Enc.bool := opens_bool Try.underlying4
theorem op_bytes : Opens Try.prog 38 Enc.bytes := opens_slice Try.underlying38 (by kernel_rfl) op_u8
theorem op_rows : Opens Try.prog 22 (Enc.slice Enc.bytes) := opens_slice Try.underlying22 (by kernel_rfl) op_bytes
theorem op_bools : Opens Try.prog 31 (Enc.slice Enc.bool) := opens_slice Try.underlying31 (by kernel_rfl) op_bool
theorem op_entry : Opens Try.prog 43 Enc.entry := opens_pair Try.underlying43 rfl (by kernel_rfl) rfl (by kernel_rfl) (by kernel_rfl) op_int op_bytes
theorem op_entries : Opens Try.prog 23 (Enc.slice Enc.entry) := opens_slice Try.underlying23 (by kernel_rfl) op_entry
end Go.Proofs.Ytdgcfgiedclmcaa
