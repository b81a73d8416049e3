/- Closed facts of the types. (Printed by wip/tools/qgen.py.) -/
import Derived.Test.YtpppgmoiginedaaProg
import Derived.Test.YtpppgmoiginedaaQz
import Derived.KernelRfl
namespace Go.Proofs.Ytpppgmoiginedaa.Q
open Go
theorem ty3_sz : szT Go.Proofs.Try.prog 3 = some 1 := by kernel_rfl
theorem ty3_ag : agT Go.Proofs.Try.prog 3 = some false := by kernel_rfl
theorem ty3_by : byT Go.Proofs.Try.prog 3 = some 8 := by kernel_rfl
theorem ty3_zr : zeroT Go.Proofs.Try.prog 3 = some [.val (.int .i64 0)] := by kernel_rfl
theorem ty4_sz : szT Go.Proofs.Try.prog 4 = some 1 := by kernel_rfl
theorem ty4_ag : agT Go.Proofs.Try.prog 4 = some false := by kernel_rfl
theorem ty4_bo : isBoolT Go.Proofs.Try.prog 4 = true := by kernel_rfl
theorem ty22_sz : szT Go.Proofs.Try.prog 22 = some 1 := by kernel_rfl
theorem ty22_ag : agT Go.Proofs.Try.prog 22 = some false := by kernel_rfl
theorem ty23_sz : szT Go.Proofs.Try.prog 23 = some 1 := by kernel_rfl
theorem ty23_ag : agT Go.Proofs.Try.prog 23 = some false := by kernel_rfl
theorem ty23_pt : isPtr Go.Proofs.Try.prog 23 = true := by kernel_rfl
theorem ty28_sz : szT Go.Proofs.Try.prog 28 = some 1 := by kernel_rfl
theorem ty28_ag : agT Go.Proofs.Try.prog 28 = some false := by kernel_rfl
theorem ty28_ix : idxT Go.Proofs.Try.prog 28 = some (none, 3, 1) := by kernel_rfl
theorem ty28_sl : isSliceT Go.Proofs.Try.prog 28 = true := by kernel_rfl
theorem ty32_ix : idxT Go.Proofs.Try.prog 32 = some (none, 34, 3) := by kernel_rfl
theorem ty34_sz : szT Go.Proofs.Try.prog 34 = some 3 := by kernel_rfl
theorem ty34_ag : agT Go.Proofs.Try.prog 34 = some true := by kernel_rfl
theorem ty34_zr : zeroT Go.Proofs.Try.prog 34 = some [.val (.int .i64 0), .val (.int .i64 0), .val (.int .i64 0)] := by kernel_rfl
theorem ty34_of0 : offT Go.Proofs.Try.prog 34 0 = some (0, 1, 3) := by kernel_rfl
theorem ty34_of1 : offT Go.Proofs.Try.prog 34 1 = some (1, 1, 3) := by kernel_rfl
theorem ty34_of2 : offT Go.Proofs.Try.prog 34 2 = some (2, 1, 3) := by kernel_rfl
theorem ty40_ix : idxT Go.Proofs.Try.prog 40 = some (none, 22, 1) := by kernel_rfl
theorem ty43_sz : szT Go.Proofs.Try.prog 43 = some 1 := by kernel_rfl
theorem ty43_ag : agT Go.Proofs.Try.prog 43 = some false := by kernel_rfl
theorem ty43_ix : idxT Go.Proofs.Try.prog 43 = some (none, 67, 2) := by kernel_rfl
theorem ty43_sl : isSliceT Go.Proofs.Try.prog 43 = true := by kernel_rfl
theorem ty45_zr : zeroT Go.Proofs.Try.prog 45 = some [.val (.int .i64 0), .nils] := by kernel_rfl
theorem ty45_of0 : offT Go.Proofs.Try.prog 45 0 = some (0, 1, 3) := by kernel_rfl
theorem ty45_of1 : offT Go.Proofs.Try.prog 45 1 = some (1, 1, 43) := by kernel_rfl
theorem ty45_pl : placesT Go.Proofs.Try.prog 45 = some (.inl [(0, 1), (1, 1)]) := by kernel_rfl
theorem ty49_sz : szT Go.Proofs.Try.prog 49 = some 1 := by kernel_rfl
theorem ty49_ag : agT Go.Proofs.Try.prog 49 = some false := by kernel_rfl
theorem ty49_mp : mapT Go.Proofs.Try.prog 49 = some (3, .val (.int .i64 0)) := by kernel_rfl
theorem ty50_sz : szT Go.Proofs.Try.prog 50 = some 1 := by kernel_rfl
theorem ty50_ag : agT Go.Proofs.Try.prog 50 = some false := by kernel_rfl
theorem ty50_ix : idxT Go.Proofs.Try.prog 50 = some (none, 57, 2) := by kernel_rfl
theorem ty50_sl : isSliceT Go.Proofs.Try.prog 50 = true := by kernel_rfl
theorem ty52_zr : zeroT Go.Proofs.Try.prog 52 = some [.val (.int .i64 0), .val (.bool false), .val (.map none), .nils] := by kernel_rfl
theorem ty52_of0 : offT Go.Proofs.Try.prog 52 0 = some (0, 1, 3) := by kernel_rfl
theorem ty52_of1 : offT Go.Proofs.Try.prog 52 1 = some (1, 1, 4) := by kernel_rfl
theorem ty52_of2 : offT Go.Proofs.Try.prog 52 2 = some (2, 1, 49) := by kernel_rfl
theorem ty52_of3 : offT Go.Proofs.Try.prog 52 3 = some (3, 1, 50) := by kernel_rfl
theorem ty52_pl : placesT Go.Proofs.Try.prog 52 = some (.inl [(0, 1), (1, 1), (2, 1), (3, 1)]) := by kernel_rfl
theorem ty53_zr : zeroT Go.Proofs.Try.prog 53 = some [.val (.pointer none), .val (.pointer none)] := by kernel_rfl
theorem ty53_pl : placesT Go.Proofs.Try.prog 53 = some (.inr 1) := by kernel_rfl
theorem ty57_sz : szT Go.Proofs.Try.prog 57 = some 2 := by kernel_rfl
theorem ty57_ag : agT Go.Proofs.Try.prog 57 = some true := by kernel_rfl
theorem ty57_by : byT Go.Proofs.Try.prog 57 = some 16 := by kernel_rfl
theorem ty57_zr : zeroT Go.Proofs.Try.prog 57 = some [.val (.int .i64 0), .val (.int .i64 0)] := by kernel_rfl
theorem ty57_of0 : offT Go.Proofs.Try.prog 57 0 = some (0, 1, 3) := by kernel_rfl
theorem ty57_of1 : offT Go.Proofs.Try.prog 57 1 = some (1, 1, 3) := by kernel_rfl
theorem ty57_pl : placesT Go.Proofs.Try.prog 57 = some (.inl [(0, 1), (1, 1)]) := by kernel_rfl
theorem ty57_eq : ∀ (a0 : Int) (a1 : Int) (b0 : Int) (b1 : Int), qagg Go.Proofs.Try.prog .eql 57 [.val (.int .i64 a0), .val (.int .i64 a1)] [.val (.int .i64 b0), .val (.int .i64 b1)] = some (.val (.bool ((a0 == b0) && ((a1 == b1) && (true))))) := by intros; kernel_rfl
theorem ty57_ne : ∀ (a0 : Int) (a1 : Int) (b0 : Int) (b1 : Int), qagg Go.Proofs.Try.prog .neq 57 [.val (.int .i64 a0), .val (.int .i64 a1)] [.val (.int .i64 b0), .val (.int .i64 b1)] = some (.val (.bool (!((a0 == b0) && ((a1 == b1) && (true)))))) := by intros; kernel_rfl
theorem ty67_sz : szT Go.Proofs.Try.prog 67 = some 2 := by kernel_rfl
theorem ty67_ag : agT Go.Proofs.Try.prog 67 = some true := by kernel_rfl
theorem ty67_by : byT Go.Proofs.Try.prog 67 = some 16 := by kernel_rfl
theorem ty67_zr : zeroT Go.Proofs.Try.prog 67 = some [.val (.int .i64 0), .val (.int .i64 0)] := by kernel_rfl
theorem ty67_of0 : offT Go.Proofs.Try.prog 67 0 = some (0, 1, 3) := by kernel_rfl
theorem ty67_of1 : offT Go.Proofs.Try.prog 67 1 = some (1, 1, 3) := by kernel_rfl
theorem ty67_pl : placesT Go.Proofs.Try.prog 67 = some (.inl [(0, 1), (1, 1)]) := by kernel_rfl
theorem ty83_sz : szT Go.Proofs.Try.prog 83 = some 1 := by kernel_rfl
theorem ty83_ag : agT Go.Proofs.Try.prog 83 = some false := by kernel_rfl
theorem ty83_zr : zeroT Go.Proofs.Try.prog 83 = some [.val (.int .u64 0)] := by kernel_rfl
theorem follows : Go.Proofs.Try.prog.follows .mixedOrders = true := by kernel_rfl
end Go.Proofs.Ytpppgmoiginedaa.Q
