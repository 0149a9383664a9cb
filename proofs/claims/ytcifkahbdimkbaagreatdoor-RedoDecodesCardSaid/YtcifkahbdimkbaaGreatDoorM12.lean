/- Part 12 of the ground under the rows: Functions of the program, resolved. -/
import Derived.Test.YtcifkahbdimkbaaGreatDoorM11
set_option linter.unusedSimpArgs false
set_option linter.unusedVariables false
-- RV2: Functions of the program, resolved.
set_option maxRecDepth 100000
namespace Go.Vm.Redo
open Go Go.Vm
def vf_value_IsRow : VFun := ⟨[0, 2], 1,
 .seq
 (.reg [⟨(some 1), .mov (.c (.bool false)), none⟩])
 (.seq
 (.reg [⟨none, .mov (.v 0), none⟩,
  ⟨none, .len false (.l 0), none⟩,
  ⟨none, .bin .leq (.l 0) (.c (.int .i64 (20))), none⟩,
  ⟨none, .mov (.l 0), none⟩,
  ⟨none, .mov (.v 0), (some (0, true))⟩,
  ⟨none, .call F.value_valid [(.l 0)], (some (1, true))⟩,
  ⟨none, .pick (.l 2) (.l 0) (.c (.bool false)), none⟩,
  ⟨(some 1), .mov (.l 0), none⟩])
 (.ret)),
 [.v 1]⟩
theorem vfun_value_IsRow : funOf Go.Proofs.Tryz.prog ann F.value_IsRow = some vf_value_IsRow := by kernel_rfl
theorem call_value_IsRow (args : List V) (m : Mem) (hl : args.length = 1) : callL MM F.value_IsRow args m = (ex (callL MM) m.length vf_value_IsRow.body (enter vf_value_IsRow args) m).bind (leave m.length vf_value_IsRow.res) := call_fn vfun_value_IsRow rfl args m hl
def l_redo_isJoint_0 : VC := .seq
 (.reg [⟨(some 5), .bin .lss (.v 4) (.v 3), none⟩])
 (.seq
 (.cond (.v 5)
 (.skip)
 (.exit 0))
 (.seq
 (.block 1 (.seq
 (.reg [⟨none, .mov (.v 4), none⟩,
  ⟨(some 2), .mov (.l 0), none⟩])
 (.seq
 (.reg [⟨none, .mov (.v 0), none⟩,
  ⟨none, .mov (.v 2), none⟩,
  ⟨none, .idxs (.l 1) (.l 0), none⟩,
  ⟨none, .bin .lss (.l 0) (.c (.int .u8 (33))), none⟩,
  ⟨none, .mov (.l 0), none⟩,
  ⟨none, .mov (.v 0), (some (0, false))⟩,
  ⟨none, .mov (.v 2), (some (1, false))⟩,
  ⟨none, .idxs (.l 1) (.l 0), (some (2, false))⟩,
  ⟨none, .bin .gtr (.l 0) (.c (.int .u8 (126))), (some (3, false))⟩,
  ⟨(some 6), .pick (.l 4) (.c (.bool true)) (.l 0), none⟩])
 (.cond (.v 6)
 (.seq
 (.reg [⟨(some 1), .mov (.c (.bool false)), none⟩])
 (.ret))
 (.skip)))))
 (.reg [⟨none, .bin .add (.v 4) (.c (.int .i64 (1))), none⟩,
  ⟨(some 4), .mov (.l 0), none⟩])))
def vf_redo_isJoint : VFun := ⟨[0, 2, 3, 5, 6, 7, 18], 1,
 .seq
 (.reg [⟨(some 1), .mov (.c (.bool false)), none⟩])
 (.seq
 (.seq
 (.reg [⟨none, .mov (.v 0), none⟩,
  ⟨(some 3), .len true (.l 0), none⟩,
  ⟨(some 4), .mov (.c (.int .i64 (0))), none⟩])
 (.block 0 (.loop [1, 2, 5, 6] l_redo_isJoint_0)))
 (.seq
 (.reg [⟨none, .mov (.v 0), none⟩,
  ⟨none, .bin .neq (.l 0) (.c (.str [])), none⟩,
  ⟨none, .mov (.l 0), none⟩,
  ⟨none, .mov (.v 0), (some (0, true))⟩,
  ⟨none, .len true (.l 0), (some (1, true))⟩,
  ⟨none, .bin .leq (.l 0) (.c (.int .i64 (40))), (some (2, true))⟩,
  ⟨none, .pick (.l 3) (.l 0) (.c (.bool false)), none⟩,
  ⟨(some 1), .mov (.l 0), none⟩])
 (.ret))),
 [.v 1]⟩
theorem vfun_redo_isJoint : funOf Go.Proofs.Tryz.prog ann F.redo_isJoint = some vf_redo_isJoint := by kernel_rfl
theorem call_redo_isJoint (args : List V) (m : Mem) (hl : args.length = 1) : callL MM F.redo_isJoint args m = (ex (callL MM) m.length vf_redo_isJoint.body (enter vf_redo_isJoint args) m).bind (leave m.length vf_redo_isJoint.res) := call_fn vfun_redo_isJoint rfl args m hl
def vf_ref20_between : VFun := ⟨[0, 1, 4], 2,
 .seq
 (.reg [⟨(some 2), .mov (.c (.bool false)), none⟩])
 (.seq
 (.reg [⟨none, .mov (.v 0), none⟩,
  ⟨none, .mov (.v 1), none⟩,
  ⟨none, .bin .geq (.l 1) (.l 0), none⟩,
  ⟨none, .mov (.l 0), none⟩,
  ⟨none, .mov (.v 0), (some (0, true))⟩,
  ⟨none, .bin .leq (.l 0) (.c (.int .i64 (1099511627776))), (some (1, true))⟩,
  ⟨none, .pick (.l 2) (.l 0) (.c (.bool false)), none⟩,
  ⟨(some 2), .mov (.l 0), none⟩])
 (.ret)),
 [.v 2]⟩
theorem vfun_ref20_between : funOf Go.Proofs.Tryz.prog ann F.ref20_between = some vf_ref20_between := by kernel_rfl
theorem call_ref20_between (args : List V) (m : Mem) (hl : args.length = 2) : callL MM F.ref20_between args m = (ex (callL MM) m.length vf_ref20_between.body (enter vf_ref20_between args) m).bind (leave m.length vf_ref20_between.res) := call_fn vfun_ref20_between rfl args m hl
def vf_ref02_IsName : VFun := ⟨[0, 2], 1,
 .seq
 (.reg [⟨(some 1), .mov (.c (.bool false)), none⟩])
 (.seq
 (.reg [⟨none, .mov (.v 0), none⟩,
  ⟨none, .call F.ref02_shaped [(.l 0)], none⟩,
  ⟨none, .mov (.l 0), none⟩,
  ⟨none, .mov (.v 0), (some (0, true))⟩,
  ⟨none, .len true (.l 0), (some (1, true))⟩,
  ⟨none, .bin .leq (.l 0) (.c (.int .i64 (30))), (some (2, true))⟩,
  ⟨none, .pick (.l 3) (.l 0) (.c (.bool false)), none⟩,
  ⟨none, .mov (.l 0), none⟩,
  ⟨none, .mov (.v 0), (some (0, true))⟩,
  ⟨none, .call F.ref02_Word [(.l 0)], (some (1, true))⟩,
  ⟨none, .not (.l 0), (some (2, true))⟩,
  ⟨none, .pick (.l 3) (.l 0) (.c (.bool false)), none⟩,
  ⟨(some 1), .mov (.l 0), none⟩])
 (.ret)),
 [.v 1]⟩
theorem vfun_ref02_IsName : funOf Go.Proofs.Tryz.prog ann F.ref02_IsName = some vf_ref02_IsName := by kernel_rfl
theorem call_ref02_IsName (args : List V) (m : Mem) (hl : args.length = 1) : callL MM F.ref02_IsName args m = (ex (callL MM) m.length vf_ref02_IsName.body (enter vf_ref02_IsName args) m).bind (leave m.length vf_ref02_IsName.res) := call_fn vfun_ref02_IsName rfl args m hl
def vf_ref01_IsRow : VFun := ⟨[0, 2], 1,
 .seq
 (.reg [⟨(some 1), .mov (.c (.bool false)), none⟩])
 (.seq
 (.reg [⟨none, .mov (.v 0), none⟩,
  ⟨none, .len false (.l 0), none⟩,
  ⟨none, .bin .leq (.l 0) (.c (.int .i64 (20))), none⟩,
  ⟨none, .mov (.l 0), none⟩,
  ⟨none, .mov (.v 0), (some (0, true))⟩,
  ⟨none, .call F.ref01_All [(.l 0)], (some (1, true))⟩,
  ⟨none, .pick (.l 2) (.l 0) (.c (.bool false)), none⟩,
  ⟨(some 1), .mov (.l 0), none⟩])
 (.ret)),
 [.v 1]⟩
theorem vfun_ref01_IsRow : funOf Go.Proofs.Tryz.prog ann F.ref01_IsRow = some vf_ref01_IsRow := by kernel_rfl
theorem call_ref01_IsRow (args : List V) (m : Mem) (hl : args.length = 1) : callL MM F.ref01_IsRow args m = (ex (callL MM) m.length vf_ref01_IsRow.body (enter vf_ref01_IsRow args) m).bind (leave m.length vf_ref01_IsRow.res) := call_fn vfun_ref01_IsRow rfl args m hl
def l_ref20_Joint_0 : VC := .seq
 (.reg [⟨(some 5), .bin .lss (.v 4) (.v 3), none⟩])
 (.seq
 (.cond (.v 5)
 (.skip)
 (.exit 0))
 (.seq
 (.block 1 (.seq
 (.reg [⟨none, .mov (.v 4), none⟩,
  ⟨(some 2), .mov (.l 0), none⟩])
 (.seq
 (.reg [⟨none, .mov (.v 0), none⟩,
  ⟨none, .mov (.v 2), none⟩,
  ⟨none, .idxs (.l 1) (.l 0), none⟩,
  ⟨none, .bin .lss (.l 0) (.c (.int .u8 (33))), none⟩,
  ⟨none, .mov (.l 0), none⟩,
  ⟨none, .mov (.v 0), (some (0, false))⟩,
  ⟨none, .mov (.v 2), (some (1, false))⟩,
  ⟨none, .idxs (.l 1) (.l 0), (some (2, false))⟩,
  ⟨none, .bin .gtr (.l 0) (.c (.int .u8 (126))), (some (3, false))⟩,
  ⟨(some 6), .pick (.l 4) (.c (.bool true)) (.l 0), none⟩])
 (.cond (.v 6)
 (.seq
 (.reg [⟨(some 1), .mov (.c (.bool false)), none⟩])
 (.ret))
 (.skip)))))
 (.reg [⟨none, .bin .add (.v 4) (.c (.int .i64 (1))), none⟩,
  ⟨(some 4), .mov (.l 0), none⟩])))
def vf_ref20_Joint : VFun := ⟨[0, 2, 3, 5, 6, 7, 18], 1,
 .seq
 (.reg [⟨(some 1), .mov (.c (.bool false)), none⟩])
 (.seq
 (.seq
 (.reg [⟨none, .mov (.v 0), none⟩,
  ⟨(some 3), .len true (.l 0), none⟩,
  ⟨(some 4), .mov (.c (.int .i64 (0))), none⟩])
 (.block 0 (.loop [1, 2, 5, 6] l_ref20_Joint_0)))
 (.seq
 (.reg [⟨none, .mov (.v 0), none⟩,
  ⟨none, .len true (.l 0), none⟩,
  ⟨none, .bin .geq (.l 0) (.c (.int .i64 (1))), none⟩,
  ⟨none, .mov (.l 0), none⟩,
  ⟨none, .mov (.v 0), (some (0, true))⟩,
  ⟨none, .len true (.l 0), (some (1, true))⟩,
  ⟨none, .bin .leq (.l 0) (.c (.int .i64 (40))), (some (2, true))⟩,
  ⟨none, .pick (.l 3) (.l 0) (.c (.bool false)), none⟩,
  ⟨(some 1), .mov (.l 0), none⟩])
 (.ret))),
 [.v 1]⟩
theorem vfun_ref20_Joint : funOf Go.Proofs.Tryz.prog ann F.ref20_Joint = some vf_ref20_Joint := by kernel_rfl
theorem call_ref20_Joint (args : List V) (m : Mem) (hl : args.length = 1) : callL MM F.ref20_Joint args m = (ex (callL MM) m.length vf_ref20_Joint.body (enter vf_ref20_Joint args) m).bind (leave m.length vf_ref20_Joint.res) := call_fn vfun_ref20_Joint rfl args m hl
def l_slices_Equal_api_Row_api_Value_0 : VC := .seq
 (.reg [⟨(some 7), .bin .lss (.v 6) (.v 5), none⟩])
 (.seq
 (.cond (.v 7)
 (.skip)
 (.exit 0))
 (.seq
 (.block 1 (.seq
 (.reg [⟨none, .mov (.v 6), none⟩,
  ⟨(some 3), .mov (.l 0), none⟩])
 (.seq
 (.draw [⟨none, .mov (.v 0), none⟩,
  ⟨none, .mov (.v 3), none⟩,
  ⟨none, .iaddr 3 (.l 1) (.l 0), none⟩,
  ⟨none, .load (some 3) (.l 0), none⟩,
  ⟨none, .mov (.v 1), none⟩,
  ⟨none, .mov (.v 3), none⟩,
  ⟨none, .iaddr 3 (.l 1) (.l 0), none⟩,
  ⟨none, .load (some 3) (.l 0), none⟩,
  ⟨(some 8), .eqs (.st [(0, none, .int), (1, none, .int), (2, none, .str)]) true (.l 4) (.l 0), none⟩] ⟨[], [0, 0, 3, 7, 0, 0, 48, 112, 255]⟩)
 (.cond (.v 8)
 (.seq
 (.reg [⟨(some 2), .mov (.c (.bool false)), none⟩])
 (.ret))
 (.skip)))))
 (.reg [⟨none, .bin .add (.v 6) (.c (.int .i64 (1))), none⟩,
  ⟨(some 6), .mov (.l 0), none⟩])))
def vf_slices_Equal_api_Row_api_Value : VFun := ⟨[0, 1, 4, 5, 10, 12, 13, 14, 24], 2,
 .seq
 (.reg [⟨(some 2), .mov (.c (.bool false)), none⟩])
 (.seq
 (.seq
 (.reg [⟨none, .mov (.v 0), none⟩,
  ⟨none, .len false (.l 0), none⟩,
  ⟨none, .mov (.v 1), none⟩,
  ⟨none, .len false (.l 0), none⟩,
  ⟨(some 4), .bin .neq (.l 2) (.l 0), none⟩])
 (.cond (.v 4)
 (.seq
 (.reg [⟨(some 2), .mov (.c (.bool false)), none⟩])
 (.ret))
 (.skip)))
 (.seq
 (.seq
 (.reg [⟨none, .mov (.v 0), none⟩,
  ⟨(some 5), .len false (.l 0), none⟩,
  ⟨(some 6), .mov (.c (.int .i64 (0))), none⟩])
 (.block 0 (.loop [2, 3, 4, 7, 8] l_slices_Equal_api_Row_api_Value_0)))
 (.seq
 (.reg [⟨(some 2), .mov (.c (.bool true)), none⟩])
 (.ret)))),
 [.v 2]⟩
theorem vfun_slices_Equal_api_Row_api_Value : funOf Go.Proofs.Tryz.prog ann F.slices_Equal_api_Row_api_Value = some vf_slices_Equal_api_Row_api_Value := by kernel_rfl
theorem call_slices_Equal_api_Row_api_Value (args : List V) (m : Mem) (hl : args.length = 2) : callL MM F.slices_Equal_api_Row_api_Value args m = (ex (callL MM) m.length vf_slices_Equal_api_Row_api_Value.body (enter vf_slices_Equal_api_Row_api_Value args) m).bind (leave m.length vf_slices_Equal_api_Row_api_Value.res) := call_fn vfun_slices_Equal_api_Row_api_Value rfl args m hl
def vf_redo_quoted : VFun := ⟨[0, 2], 1,
 .seq
 (.reg [⟨(some 1), .mov (.c (.str [])), none⟩])
 (.seq
 (.reg [⟨none, .mov (.v 0), none⟩,
  ⟨none, .call F.strings_ReplaceAll [(.l 0), (.c (.str [39])), (.c (.str [39, 39]))], none⟩,
  ⟨none, .bin .add (.c (.str [39])) (.l 0), none⟩,
  ⟨none, .bin .add (.l 0) (.c (.str [39])), none⟩,
  ⟨(some 1), .mov (.l 0), none⟩])
 (.ret)),
 [.v 1]⟩
theorem vfun_redo_quoted : funOf Go.Proofs.Tryz.prog ann F.redo_quoted = some vf_redo_quoted := by kernel_rfl
theorem call_redo_quoted (args : List V) (m : Mem) (hl : args.length = 1) : callL MM F.redo_quoted args m = (ex (callL MM) m.length vf_redo_quoted.body (enter vf_redo_quoted args) m).bind (leave m.length vf_redo_quoted.res) := call_fn vfun_redo_quoted rfl args m hl
def vf_value_Text : VFun := ⟨[0, 1, 2, 3, 6], 1,
 .seq
 (.reg [⟨(some 1), .box (.v 0) [], none⟩,
  ⟨(some 2), .mov (.c (.str [])), none⟩,
  ⟨(some 3), .mov (.c (.int .i64 (0))), none⟩])
 (.seq
 (.seq
 (.reg [⟨none, .load (some 3) (.v 1), none⟩,
  ⟨none, .call F.value_Valid [(.l 0)], none⟩,
  ⟨(some 4), .not (.l 0), none⟩])
 (.cond (.v 4)
 (.seq
 (.reg [⟨(some 2), .mov (.c (.str [])), none⟩,
  ⟨(some 3), .mov (.c (.int .i64 (2))), none⟩])
 (.ret))
 (.skip)))
 (.seq
 (.reg [⟨none, .load (some 3) (.v 1), none⟩,
  ⟨none, .call F.value_Written [(.l 0)], none⟩,
  ⟨(some 2), .mov (.l 0), none⟩,
  ⟨(some 3), .mov (.c (.int .i64 (0))), none⟩])
 (.ret))),
 [.v 2, .v 3]⟩
theorem vfun_value_Text : funOf Go.Proofs.Tryz.prog ann F.value_Text = some vf_value_Text := by kernel_rfl
theorem call_value_Text (args : List V) (m : Mem) (hl : args.length = 1) : callL MM F.value_Text args m = (ex (callL MM) m.length vf_value_Text.body (enter vf_value_Text args) m).bind (leave m.length vf_value_Text.res) := call_fn vfun_value_Text rfl args m hl
def vf_ref01_Valid : VFun := ⟨[0, 1, 2, 4, 5, 15, 25], 1,
 .seq
 (.reg [⟨(some 1), .box (.v 0) [], none⟩,
  ⟨(some 2), .mov (.c (.bool false)), none⟩])
 (.seq
 (.seq
 (.reg [⟨none, .faddr 0 (.v 1), none⟩,
  ⟨(some 3), .load none (.l 0), none⟩])
 (.block 0 (.seq
 (.reg [⟨none, .bin .eql (.v 3) (.c (.int .i64 (0))), none⟩,
  ⟨(some 4), .mov (.l 0), none⟩])
 (.cond (.v 4)
 (.seq
 (.reg [⟨none, .faddr 1 (.v 1), none⟩,
  ⟨none, .load none (.l 0), none⟩,
  ⟨none, .bin .eql (.l 0) (.c (.int .i64 (0))), none⟩,
  ⟨none, .mov (.l 0), none⟩,
  ⟨none, .faddr 2 (.v 1), (some (0, true))⟩,
  ⟨none, .load none (.l 0), (some (1, true))⟩,
  ⟨none, .bin .eql (.l 0) (.c (.str [])), (some (2, true))⟩,
  ⟨none, .pick (.l 3) (.l 0) (.c (.bool false)), none⟩,
  ⟨(some 2), .mov (.l 0), none⟩])
 (.ret))
 (.seq
 (.reg [⟨none, .bin .eql (.v 3) (.c (.int .i64 (1))), none⟩,
  ⟨(some 5), .mov (.l 0), none⟩])
 (.cond (.v 5)
 (.seq
 (.reg [⟨none, .faddr 1 (.v 1), none⟩,
  ⟨none, .load none (.l 0), none⟩,
  ⟨none, .call F.ref01_IsInt [(.l 0)], none⟩,
  ⟨none, .mov (.l 0), none⟩,
  ⟨none, .faddr 2 (.v 1), (some (0, true))⟩,
  ⟨none, .load none (.l 0), (some (1, true))⟩,
  ⟨none, .bin .eql (.l 0) (.c (.str [])), (some (2, true))⟩,
  ⟨none, .pick (.l 3) (.l 0) (.c (.bool false)), none⟩,
  ⟨(some 2), .mov (.l 0), none⟩])
 (.ret))
 (.seq
 (.reg [⟨none, .bin .eql (.v 3) (.c (.int .i64 (2))), none⟩,
  ⟨(some 6), .mov (.l 0), none⟩])
 (.cond (.v 6)
 (.seq
 (.reg [⟨none, .faddr 1 (.v 1), none⟩,
  ⟨none, .load none (.l 0), none⟩,
  ⟨none, .bin .eql (.l 0) (.c (.int .i64 (0))), none⟩,
  ⟨none, .mov (.l 0), none⟩,
  ⟨none, .faddr 2 (.v 1), (some (0, true))⟩,
  ⟨none, .load none (.l 0), (some (1, true))⟩,
  ⟨none, .call F.ref01_IsString [(.l 0)], (some (2, true))⟩,
  ⟨none, .pick (.l 3) (.l 0) (.c (.bool false)), none⟩,
  ⟨(some 2), .mov (.l 0), none⟩])
 (.ret))
 (.skip)))))))))
 (.seq
 (.reg [⟨none, .faddr 0 (.v 1), none⟩,
  ⟨none, .load none (.l 0), none⟩,
  ⟨none, .bin .eql (.l 0) (.c (.int .i64 (3))), none⟩,
  ⟨none, .mov (.l 0), none⟩,
  ⟨none, .faddr 1 (.v 1), (some (0, true))⟩,
  ⟨none, .load none (.l 0), (some (1, true))⟩,
  ⟨none, .bin .eql (.l 0) (.c (.int .i64 (0))), (some (2, true))⟩,
  ⟨none, .mov (.l 0), (some (3, true))⟩,
  ⟨none, .faddr 1 (.v 1), (some (0, false))⟩,
  ⟨none, .load none (.l 0), (some (1, false))⟩,
  ⟨none, .bin .eql (.l 0) (.c (.int .i64 (1))), (some (2, false))⟩,
  ⟨none, .pick (.l 3) (.c (.bool true)) (.l 0), (some (7, true))⟩,
  ⟨none, .pick (.l 8) (.l 0) (.c (.bool false)), none⟩,
  ⟨none, .mov (.l 0), none⟩,
  ⟨none, .faddr 2 (.v 1), (some (0, true))⟩,
  ⟨none, .load none (.l 0), (some (1, true))⟩,
  ⟨none, .bin .eql (.l 0) (.c (.str [])), (some (2, true))⟩,
  ⟨none, .pick (.l 3) (.l 0) (.c (.bool false)), none⟩,
  ⟨(some 2), .mov (.l 0), none⟩])
 (.ret))),
 [.v 2]⟩
theorem vfun_ref01_Valid : funOf Go.Proofs.Tryz.prog ann F.ref01_Valid = some vf_ref01_Valid := by kernel_rfl
theorem call_ref01_Valid (args : List V) (m : Mem) (hl : args.length = 1) : callL MM F.ref01_Valid args m = (ex (callL MM) m.length vf_ref01_Valid.body (enter vf_ref01_Valid args) m).bind (leave m.length vf_ref01_Valid.res) := call_fn vfun_ref01_Valid rfl args m hl
def vf_ref01_digits : VFun := ⟨[0, 2, 3, 5, 16], 1,
 .seq
 (.reg [⟨(some 1), .mov (.c (.str [])), none⟩])
 (.seq
 (.seq
 (.reg [⟨none, .mov (.v 0), none⟩,
  ⟨(some 3), .bin .lss (.l 0) (.c (.int .i64 (0))), none⟩])
 (.cond (.v 3)
 (.seq
 (.reg [⟨none, .mov (.v 0), none⟩,
  ⟨none, .neg (.l 0), none⟩,
  ⟨none, .call F.ref01_digits [(.l 0)], none⟩,
  ⟨none, .bin .add (.c (.str [45])) (.l 0), none⟩,
  ⟨(some 1), .mov (.l 0), none⟩])
 (.ret))
 (.skip)))
 (.seq
 (.reg [⟨none, .mov (.v 0), none⟩,
  ⟨none, .bin .rem (.l 0) (.c (.int .i64 (10))), none⟩,
  ⟨none, .bin .add (.c (.int .i64 (48))) (.l 0), none⟩,
  ⟨none, .conv .i32 (.l 0), none⟩,
  ⟨none, .chr (.l 0), none⟩,
  ⟨(some 2), .mov (.l 0), none⟩])
 (.seq
 (.seq
 (.reg [⟨none, .mov (.v 0), none⟩,
  ⟨(some 4), .bin .geq (.l 0) (.c (.int .i64 (10))), none⟩])
 (.cond (.v 4)
 (.seq
 (.reg [⟨none, .mov (.v 0), none⟩,
  ⟨none, .bin .quo (.l 0) (.c (.int .i64 (10))), none⟩,
  ⟨none, .call F.ref01_digits [(.l 0)], none⟩,
  ⟨none, .mov (.v 2), none⟩,
  ⟨none, .bin .add (.l 1) (.l 0), none⟩,
  ⟨(some 1), .mov (.l 0), none⟩])
 (.ret))
 (.skip)))
 (.seq
 (.reg [⟨none, .mov (.v 2), none⟩,
  ⟨(some 1), .mov (.l 0), none⟩])
 (.ret))))),
 [.v 1]⟩
theorem vfun_ref01_digits : funOf Go.Proofs.Tryz.prog ann F.ref01_digits = some vf_ref01_digits := by kernel_rfl
theorem call_ref01_digits (args : List V) (m : Mem) (hl : args.length = 1) : callL MM F.ref01_digits args m = (ex (callL MM) m.length vf_ref01_digits.body (enter vf_ref01_digits args) m).bind (leave m.length vf_ref01_digits.res) := call_fn vfun_ref01_digits rfl args m hl
def l_ref01_Quoted_0 : VC := .seq
 (.seq
 (.reg [⟨none, .mov (.v 3), none⟩,
  ⟨none, .mov (.v 0), none⟩,
  ⟨none, .len true (.l 0), none⟩,
  ⟨(some 4), .bin .lss (.l 2) (.l 0), none⟩])
 (.cond (.v 4)
 (.skip)
 (.exit 0)))
 (.seq
 (.block 1 (.seq
 (.reg [⟨none, .mov (.v 2), none⟩,
  ⟨none, .mov (.v 0), none⟩,
  ⟨none, .mov (.v 3), none⟩,
  ⟨none, .idxs (.l 1) (.l 0), none⟩,
  ⟨none, .mksl 1 [(.l 0)], none⟩,
  ⟨none, .app 1 1 (.l 4) (.l 0), none⟩,
  ⟨(some 2), .mov (.l 0), none⟩])
 (.seq
 (.reg [⟨none, .mov (.v 0), none⟩,
  ⟨none, .mov (.v 3), none⟩,
  ⟨none, .idxs (.l 1) (.l 0), none⟩,
  ⟨(some 5), .bin .eql (.l 0) (.c (.int .u8 (39))), none⟩])
 (.cond (.v 5)
 (.reg [⟨none, .mov (.v 2), none⟩,
  ⟨none, .mksl 1 [(.c (.int .u8 (39)))], none⟩,
  ⟨none, .app 1 1 (.l 1) (.l 0), none⟩,
  ⟨(some 2), .mov (.l 0), none⟩])
 (.skip)))))
 (.reg [⟨none, .mov (.v 3), none⟩,
  ⟨none, .bin .add (.l 0) (.c (.int .i64 (1))), none⟩,
  ⟨(some 3), .mov (.l 0), none⟩]))
def vf_ref01_Quoted : VFun := ⟨[0, 2, 3, 4, 9, 21], 1,
 .seq
 (.reg [⟨(some 1), .mov (.c (.str [])), none⟩])
 (.seq
 (.reg [⟨none, .mkbuf 1 [(.c (.int .u8 (39)))], none⟩,
  ⟨(some 2), .mov (.l 0), none⟩])
 (.seq
 (.seq
 (.reg [⟨(some 3), .mov (.c (.int .i64 (0))), none⟩])
 (.block 0 (.loop [1, 4, 5] l_ref01_Quoted_0)))
 (.seq
 (.reg [⟨none, .mov (.v 2), none⟩,
  ⟨none, .mksl 1 [(.c (.int .u8 (39)))], none⟩,
  ⟨none, .app 1 1 (.l 1) (.l 0), none⟩,
  ⟨none, .toStr false (.l 0), none⟩,
  ⟨(some 1), .mov (.l 0), none⟩])
 (.ret)))),
 [.v 1]⟩
theorem vfun_ref01_Quoted : funOf Go.Proofs.Tryz.prog ann F.ref01_Quoted = some vf_ref01_Quoted := by kernel_rfl
theorem call_ref01_Quoted (args : List V) (m : Mem) (hl : args.length = 1) : callL MM F.ref01_Quoted args m = (ex (callL MM) m.length vf_ref01_Quoted.body (enter vf_ref01_Quoted args) m).bind (leave m.length vf_ref01_Quoted.res) := call_fn vfun_ref01_Quoted rfl args m hl
def vf_redo_reader_text : VFun := ⟨[0, 2, 3, 12], 1,
 .seq
 (.reg [⟨(some 1), .mov (.c (.str [])), none⟩])
 (.seq
 (.reg [⟨none, .mov (.v 0), none⟩,
  ⟨none, .call F.redo_reader_number [(.l 0), (.c (.int .i64 (2)))], none⟩,
  ⟨(some 2), .mov (.l 0), none⟩])
 (.seq
 (.seq
 (.reg [⟨none, .mov (.v 2), none⟩,
  ⟨none, .mov (.v 0), none⟩,
  ⟨none, .nilck (.l 0), none⟩,
  ⟨none, .faddr 0 (.l 0), none⟩,
  ⟨none, .load none (.l 0), none⟩,
  ⟨none, .len false (.l 0), none⟩,
  ⟨(some 3), .bin .gtr (.l 5) (.l 0), none⟩])
 (.cond (.v 3)
 (.seq
 (.reg [⟨none, .mov (.v 0), none⟩,
  ⟨none, .nilck (.l 0), none⟩,
  ⟨none, .faddr 1 (.l 0), none⟩,
  ⟨none, .store 1 (.l 0) (.c (.bool true)), none⟩])
 (.seq
 (.reg [⟨(some 1), .mov (.c (.str [])), none⟩])
 (.ret)))
 (.skip)))
 (.seq
 (.reg [⟨none, .mov (.v 0), none⟩,
  ⟨none, .mov (.v 2), none⟩,
  ⟨none, .call F.redo_reader_take [(.l 1), (.l 0)], none⟩,
  ⟨none, .toStr false (.l 0), none⟩,
  ⟨(some 1), .mov (.l 0), none⟩])
 (.ret)))),
 [.v 1]⟩
theorem vfun_redo_reader_text : funOf Go.Proofs.Tryz.prog ann F.redo_reader_text = some vf_redo_reader_text := by kernel_rfl
theorem call_redo_reader_text (args : List V) (m : Mem) (hl : args.length = 1) : callL MM F.redo_reader_text args m = (ex (callL MM) m.length vf_redo_reader_text.body (enter vf_redo_reader_text args) m).bind (leave m.length vf_redo_reader_text.res) := call_fn vfun_redo_reader_text rfl args m hl
def l_redo_reader_row_0 : VC := .seq
 (.reg [⟨(some 6), .bin .lss (.v 5) (.v 4), none⟩])
 (.seq
 (.cond (.v 6)
 (.skip)
 (.exit 0))
 (.seq
 (.block 1 (.seq
 (.reg [⟨none, .mov (.v 0), none⟩,
  ⟨none, .call F.redo_reader_number [(.l 0), (.c (.int .i64 (1)))], none⟩,
  ⟨none, .build [.int .i64 (0), .int .i64 (0), .str []] [(0, 1, (.l 0))], none⟩,
  ⟨(some 3), .alloc [.int .i64 (0), .int .i64 (0), .str []] [], none⟩,
  ⟨none, .store 3 (.v 3) (.l 1), none⟩])
 (.seq
 (.seq
 (.reg [⟨none, .faddr 0 (.v 3), none⟩,
  ⟨(some 7), .load none (.l 0), none⟩])
 (.block 2 (.seq
 (.reg [⟨none, .bin .eql (.v 7) (.c (.int .i64 (1))), none⟩,
  ⟨(some 8), .mov (.l 0), none⟩])
 (.cond (.v 8)
 (.reg [⟨none, .mov (.v 0), none⟩,
  ⟨none, .call F.redo_reader_number [(.l 0), (.c (.int .i64 (8)))], none⟩,
  ⟨none, .faddr 1 (.v 3), none⟩,
  ⟨none, .store 1 (.l 0) (.l 1), none⟩])
 (.seq
 (.reg [⟨none, .bin .eql (.v 7) (.c (.int .i64 (3))), none⟩,
  ⟨(some 9), .mov (.l 0), none⟩])
 (.cond (.v 9)
 (.reg [⟨none, .mov (.v 0), none⟩,
  ⟨none, .call F.redo_reader_number [(.l 0), (.c (.int .i64 (1)))], none⟩,
  ⟨none, .faddr 1 (.v 3), none⟩,
  ⟨none, .store 1 (.l 0) (.l 1), none⟩])
 (.seq
 (.reg [⟨none, .bin .eql (.v 7) (.c (.int .i64 (2))), none⟩,
  ⟨(some 10), .mov (.l 0), none⟩])
 (.cond (.v 10)
 (.reg [⟨none, .mov (.v 0), none⟩,
  ⟨none, .call F.redo_reader_text [(.l 0)], none⟩,
  ⟨none, .faddr 2 (.v 3), none⟩,
  ⟨none, .store 1 (.l 0) (.l 1), none⟩])
 (.skip)))))))))
 (.reg [⟨none, .mov (.v 2), none⟩,
  ⟨none, .load (some 3) (.v 3), none⟩,
  ⟨none, .mksl 3 [(.l 0)], none⟩,
  ⟨none, .app 3 32 (.l 2) (.l 0), none⟩,
  ⟨(some 2), .mov (.l 0), none⟩]))))
 (.reg [⟨none, .bin .add (.v 5) (.c (.int .i64 (1))), none⟩,
  ⟨(some 5), .mov (.l 0), none⟩])))
def vf_redo_reader_row : VFun := ⟨[0, 2, 3, 4, 6, 7, 8, 13, 14, 19, 24], 1,
 .seq
 (.reg [⟨(some 1), .mov (.c (.sl true 0 [])), none⟩])
 (.seq
 (.reg [⟨(some 2), .nilbuf 3, none⟩])
 (.seq
 (.seq
 (.reg [⟨none, .mov (.v 0), none⟩,
  ⟨(some 4), .call F.redo_reader_number [(.l 0), (.c (.int .i64 (1)))], none⟩,
  ⟨(some 5), .mov (.c (.int .i64 (0))), none⟩])
 (.block 0 (.loop [1, 3, 6, 7, 8, 9, 10] l_redo_reader_row_0)))
 (.seq
 (.reg [⟨none, .mov (.v 2), none⟩,
  ⟨(some 1), .mov (.l 0), none⟩])
 (.ret)))),
 [.v 1]⟩
theorem vfun_redo_reader_row : funOf Go.Proofs.Tryz.prog ann F.redo_reader_row = some vf_redo_reader_row := by kernel_rfl
theorem call_redo_reader_row (args : List V) (m : Mem) (hl : args.length = 1) : callL MM F.redo_reader_row args m = (ex (callL MM) m.length vf_redo_reader_row.body (enter vf_redo_reader_row args) m).bind (leave m.length vf_redo_reader_row.res) := call_fn vfun_redo_reader_row rfl args m hl
def vf_redo_reader_take : VFun := ⟨[0, 1, 4, 5, 12], 2,
 .seq
 (.reg [⟨(some 2), .mov (.c (.sl true 0 [])), none⟩])
 (.seq
 (.seq
 (.reg [⟨none, .mov (.v 1), none⟩,
  ⟨none, .mov (.v 0), none⟩,
  ⟨none, .nilck (.l 0), none⟩,
  ⟨none, .faddr 0 (.l 0), none⟩,
  ⟨none, .load none (.l 0), none⟩,
  ⟨none, .len false (.l 0), none⟩,
  ⟨(some 4), .bin .gtr (.l 5) (.l 0), none⟩])
 (.cond (.v 4)
 (.seq
 (.reg [⟨none, .mov (.v 0), none⟩,
  ⟨none, .nilck (.l 0), none⟩,
  ⟨none, .faddr 1 (.l 0), none⟩,
  ⟨none, .store 1 (.l 0) (.c (.bool true)), none⟩])
 (.seq
 (.reg [⟨none, .mov (.v 1), none⟩,
  ⟨none, .min (.l 0) (.c (.int .i64 (8))), none⟩,
  ⟨none, .mkslice 1 1 (.int .u8 (0)) (.l 0) (.l 0), none⟩,
  ⟨(some 2), .mov (.l 0), none⟩])
 (.ret)))
 (.skip)))
 (.seq
 (.reg [⟨none, .mov (.v 0), none⟩,
  ⟨none, .nilck (.l 0), none⟩,
  ⟨none, .faddr 0 (.l 0), none⟩,
  ⟨none, .load none (.l 0), none⟩,
  ⟨none, .mov (.v 1), none⟩,
  ⟨none, .slice (some 1) (.l 1) none (some (.l 0)) none, none⟩,
  ⟨(some 3), .mov (.l 0), none⟩])
 (.seq
 (.reg [⟨none, .mov (.v 0), none⟩,
  ⟨none, .mov (.v 0), none⟩,
  ⟨none, .nilck (.l 0), none⟩,
  ⟨none, .faddr 0 (.l 0), none⟩,
  ⟨none, .load none (.l 0), none⟩,
  ⟨none, .mov (.v 1), none⟩,
  ⟨none, .slice (some 1) (.l 1) (some (.l 0)) none none, none⟩,
  ⟨none, .nilck (.l 6), none⟩,
  ⟨none, .faddr 0 (.l 0), none⟩,
  ⟨none, .store 1 (.l 0) (.l 2), none⟩])
 (.seq
 (.reg [⟨none, .mov (.v 3), none⟩,
  ⟨(some 2), .mov (.l 0), none⟩])
 (.ret))))),
 [.v 2]⟩
theorem vfun_redo_reader_take : funOf Go.Proofs.Tryz.prog ann F.redo_reader_take = some vf_redo_reader_take := by kernel_rfl
theorem call_redo_reader_take (args : List V) (m : Mem) (hl : args.length = 2) : callL MM F.redo_reader_take args m = (ex (callL MM) m.length vf_redo_reader_take.body (enter vf_redo_reader_take args) m).bind (leave m.length vf_redo_reader_take.res) := call_fn vfun_redo_reader_take rfl args m hl
def l_ref20_Reader_Number_0 : VC := .seq
 (.reg [⟨(some 7), .bin .lss (.v 6) (.v 5), none⟩])
 (.seq
 (.cond (.v 7)
 (.skip)
 (.exit 0))
 (.seq
 (.block 1 (.seq
 (.draw [⟨none, .mov (.v 3), none⟩,
  ⟨none, .bin .shl (.l 0) (.c (.int .u64 (8))), none⟩,
  ⟨none, .mov (.v 0), none⟩,
  ⟨none, .nilck (.l 0), none⟩,
  ⟨none, .faddr 0 (.l 0), none⟩,
  ⟨none, .load none (.l 0), none⟩,
  ⟨none, .mov (.v 0), none⟩,
  ⟨none, .nilck (.l 0), none⟩,
  ⟨none, .faddr 1 (.l 0), none⟩,
  ⟨none, .load none (.l 0), none⟩,
  ⟨none, .iaddr 1 (.l 4) (.l 0), none⟩,
  ⟨none, .load none (.l 0), none⟩,
  ⟨none, .conv .u64 (.l 0), none⟩,
  ⟨none, .bin .or (.l 11) (.l 0), none⟩,
  ⟨(some 3), .mov (.l 0), none⟩] ⟨[], [0, 1, 0, 4, 12, 28, 0, 64, 192, 448, 1020, 2044, 4092, 8191, 16383]⟩)
 (.reg [⟨none, .mov (.v 0), none⟩,
  ⟨none, .nilck (.l 0), none⟩,
  ⟨none, .faddr 1 (.l 0), none⟩,
  ⟨none, .load none (.l 0), none⟩,
  ⟨none, .bin .add (.l 0) (.c (.int .i64 (1))), none⟩,
  ⟨none, .nilck (.l 4), none⟩,
  ⟨none, .faddr 1 (.l 0), none⟩,
  ⟨none, .store 1 (.l 0) (.l 2), none⟩])))
 (.reg [⟨none, .bin .add (.v 6) (.c (.int .i64 (1))), none⟩,
  ⟨(some 6), .mov (.l 0), none⟩])))
def vf_ref20_Reader_Number : VFun := ⟨[0, 1, 4, 5, 23, 27, 28, 29], 2,
 .seq
 (.reg [⟨(some 2), .mov (.c (.int .i64 (0))), none⟩])
 (.seq
 (.seq
 (.draw [⟨none, .mov (.v 0), none⟩,
  ⟨none, .nilck (.l 0), none⟩,
  ⟨none, .faddr 2 (.l 0), none⟩,
  ⟨none, .load none (.l 0), none⟩,
  ⟨none, .mov (.l 0), none⟩,
  ⟨none, .mov (.v 1), (some (0, false))⟩,
  ⟨none, .mov (.v 0), (some (1, false))⟩,
  ⟨none, .nilck (.l 0), (some (2, false))⟩,
  ⟨none, .faddr 0 (.l 0), (some (3, false))⟩,
  ⟨none, .load none (.l 0), (some (4, false))⟩,
  ⟨none, .len false (.l 0), (some (5, false))⟩,
  ⟨none, .mov (.v 0), (some (6, false))⟩,
  ⟨none, .nilck (.l 0), (some (7, false))⟩,
  ⟨none, .faddr 1 (.l 0), (some (8, false))⟩,
  ⟨none, .load none (.l 0), (some (9, false))⟩,
  ⟨none, .bin .sub (.l 4) (.l 0), (some (10, false))⟩,
  ⟨none, .bin .gtr (.l 10) (.l 0), (some (11, false))⟩,
  ⟨(some 4), .pick (.l 12) (.c (.bool true)) (.l 0), none⟩] ⟨[], [0, 1, 3, 7, 15, 31, 31, 95, 223, 479, 991, 31, 2079, 6175, 14367, 32735, 65535, 131071]⟩)
 (.cond (.v 4)
 (.seq
 (.reg [⟨none, .mov (.v 0), none⟩,
  ⟨none, .nilck (.l 0), none⟩,
  ⟨none, .faddr 2 (.l 0), none⟩,
  ⟨none, .store 1 (.l 0) (.c (.bool true)), none⟩])
 (.seq
 (.reg [⟨(some 2), .mov (.c (.int .i64 (0))), none⟩])
 (.ret)))
 (.skip)))
 (.seq
 (.reg [⟨(some 3), .mov (.c (.int .u64 (0))), none⟩])
 (.seq
 (.seq
 (.reg [⟨(some 5), .mov (.v 1), none⟩,
  ⟨(some 6), .mov (.c (.int .i64 (0))), none⟩])
 (.block 0 (.loop [1, 2, 4, 7] l_ref20_Reader_Number_0)))
 (.seq
 (.reg [⟨none, .mov (.v 3), none⟩,
  ⟨none, .conv .i64 (.l 0), none⟩,
  ⟨(some 2), .mov (.l 0), none⟩])
 (.ret))))),
 [.v 2]⟩
theorem vfun_ref20_Reader_Number : funOf Go.Proofs.Tryz.prog ann F.ref20_Reader_Number = some vf_ref20_Reader_Number := by kernel_rfl
theorem call_ref20_Reader_Number (args : List V) (m : Mem) (hl : args.length = 2) : callL MM F.ref20_Reader_Number args m = (ex (callL MM) m.length vf_ref20_Reader_Number.body (enter vf_ref20_Reader_Number args) m).bind (leave m.length vf_ref20_Reader_Number.res) := call_fn vfun_ref20_Reader_Number rfl args m hl
def vf_ref20_Reader_String : VFun := ⟨[0, 2, 3, 23], 1,
 .seq
 (.reg [⟨(some 1), .mov (.c (.str [])), none⟩])
 (.seq
 (.reg [⟨none, .mov (.v 0), none⟩,
  ⟨none, .call F.ref20_Reader_Number [(.l 0), (.c (.int .i64 (2)))], none⟩,
  ⟨(some 2), .mov (.l 0), none⟩])
 (.seq
 (.seq
 (.draw [⟨none, .mov (.v 0), none⟩,
  ⟨none, .nilck (.l 0), none⟩,
  ⟨none, .faddr 2 (.l 0), none⟩,
  ⟨none, .load none (.l 0), none⟩,
  ⟨none, .mov (.l 0), none⟩,
  ⟨none, .mov (.v 2), (some (0, false))⟩,
  ⟨none, .mov (.v 0), (some (1, false))⟩,
  ⟨none, .nilck (.l 0), (some (2, false))⟩,
  ⟨none, .faddr 0 (.l 0), (some (3, false))⟩,
  ⟨none, .load none (.l 0), (some (4, false))⟩,
  ⟨none, .len false (.l 0), (some (5, false))⟩,
  ⟨none, .mov (.v 0), (some (6, false))⟩,
  ⟨none, .nilck (.l 0), (some (7, false))⟩,
  ⟨none, .faddr 1 (.l 0), (some (8, false))⟩,
  ⟨none, .load none (.l 0), (some (9, false))⟩,
  ⟨none, .bin .sub (.l 4) (.l 0), (some (10, false))⟩,
  ⟨none, .bin .gtr (.l 10) (.l 0), (some (11, false))⟩,
  ⟨(some 3), .pick (.l 12) (.c (.bool true)) (.l 0), none⟩] ⟨[], [0, 1, 3, 7, 15, 31, 31, 95, 223, 479, 991, 31, 2079, 6175, 14367, 32735, 65535, 131071]⟩)
 (.cond (.v 3)
 (.seq
 (.reg [⟨none, .mov (.v 0), none⟩,
  ⟨none, .nilck (.l 0), none⟩,
  ⟨none, .faddr 2 (.l 0), none⟩,
  ⟨none, .store 1 (.l 0) (.c (.bool true)), none⟩])
 (.seq
 (.reg [⟨(some 1), .mov (.c (.str [])), none⟩])
 (.ret)))
 (.skip)))
 (.seq
 (.reg [⟨none, .mov (.v 0), none⟩,
  ⟨none, .nilck (.l 0), none⟩,
  ⟨none, .faddr 1 (.l 0), none⟩,
  ⟨none, .load none (.l 0), none⟩,
  ⟨none, .mov (.v 2), none⟩,
  ⟨none, .bin .add (.l 1) (.l 0), none⟩,
  ⟨none, .nilck (.l 5), none⟩,
  ⟨none, .faddr 1 (.l 0), none⟩,
  ⟨none, .store 1 (.l 0) (.l 2), none⟩])
 (.seq
 (.draw [⟨none, .mov (.v 0), none⟩,
  ⟨none, .nilck (.l 0), none⟩,
  ⟨none, .faddr 0 (.l 0), none⟩,
  ⟨none, .load none (.l 0), none⟩,
  ⟨none, .mov (.v 0), none⟩,
  ⟨none, .nilck (.l 0), none⟩,
  ⟨none, .faddr 1 (.l 0), none⟩,
  ⟨none, .load none (.l 0), none⟩,
  ⟨none, .mov (.v 2), none⟩,
  ⟨none, .bin .sub (.l 1) (.l 0), none⟩,
  ⟨none, .mov (.v 0), none⟩,
  ⟨none, .nilck (.l 0), none⟩,
  ⟨none, .faddr 1 (.l 0), none⟩,
  ⟨none, .load none (.l 0), none⟩,
  ⟨none, .slice (some 1) (.l 10) (some (.l 4)) (some (.l 0)) none, none⟩,
  ⟨none, .toStr false (.l 0), none⟩,
  ⟨(some 1), .mov (.l 0), none⟩] ⟨[], [0, 1, 3, 7, 0, 16, 48, 112, 0, 496, 0, 1024, 3072, 7168, 16383, 32767, 65535]⟩)
 (.ret))))),
 [.v 1]⟩
theorem vfun_ref20_Reader_String : funOf Go.Proofs.Tryz.prog ann F.ref20_Reader_String = some vf_ref20_Reader_String := by kernel_rfl
theorem call_ref20_Reader_String (args : List V) (m : Mem) (hl : args.length = 1) : callL MM F.ref20_Reader_String args m = (ex (callL MM) m.length vf_ref20_Reader_String.body (enter vf_ref20_Reader_String args) m).bind (leave m.length vf_ref20_Reader_String.res) := call_fn vfun_ref20_Reader_String rfl args m hl
def l_ref20_Reader_Row_0 : VC := .seq
 (.seq
 (.reg [⟨none, .mov (.v 3), none⟩,
  ⟨none, .bin .gtr (.l 0) (.c (.int .i64 (0))), none⟩,
  ⟨none, .mov (.l 0), none⟩,
  ⟨none, .mov (.v 0), (some (0, true))⟩,
  ⟨none, .nilck (.l 0), (some (1, true))⟩,
  ⟨none, .faddr 2 (.l 0), (some (2, true))⟩,
  ⟨none, .load none (.l 0), (some (3, true))⟩,
  ⟨none, .not (.l 0), (some (4, true))⟩,
  ⟨(some 5), .pick (.l 5) (.l 0) (.c (.bool false)), none⟩])
 (.cond (.v 5)
 (.skip)
 (.exit 0)))
 (.seq
 (.block 1 (.seq
 (.reg [⟨none, .mov (.v 0), none⟩,
  ⟨none, .call F.ref20_Reader_Number [(.l 0), (.c (.int .i64 (1)))], none⟩,
  ⟨none, .build [.int .i64 (0), .int .i64 (0), .str []] [(0, 1, (.l 0))], none⟩,
  ⟨(some 4), .alloc [.int .i64 (0), .int .i64 (0), .str []] [], none⟩,
  ⟨none, .store 3 (.v 4) (.l 1), none⟩])
 (.seq
 (.seq
 (.reg [⟨none, .faddr 0 (.v 4), none⟩,
  ⟨(some 6), .load none (.l 0), none⟩])
 (.block 2 (.seq
 (.reg [⟨none, .bin .eql (.v 6) (.c (.int .i64 (1))), none⟩,
  ⟨(some 7), .mov (.l 0), none⟩])
 (.cond (.v 7)
 (.reg [⟨none, .mov (.v 0), none⟩,
  ⟨none, .call F.ref20_Reader_Number [(.l 0), (.c (.int .i64 (8)))], none⟩,
  ⟨none, .faddr 1 (.v 4), none⟩,
  ⟨none, .store 1 (.l 0) (.l 1), none⟩])
 (.seq
 (.reg [⟨none, .bin .eql (.v 6) (.c (.int .i64 (2))), none⟩,
  ⟨(some 8), .mov (.l 0), none⟩])
 (.cond (.v 8)
 (.reg [⟨none, .mov (.v 0), none⟩,
  ⟨none, .call F.ref20_Reader_String [(.l 0)], none⟩,
  ⟨none, .faddr 2 (.v 4), none⟩,
  ⟨none, .store 1 (.l 0) (.l 1), none⟩])
 (.seq
 (.reg [⟨none, .bin .eql (.v 6) (.c (.int .i64 (3))), none⟩,
  ⟨(some 9), .mov (.l 0), none⟩])
 (.cond (.v 9)
 (.reg [⟨none, .mov (.v 0), none⟩,
  ⟨none, .call F.ref20_Reader_Number [(.l 0), (.c (.int .i64 (1)))], none⟩,
  ⟨none, .faddr 1 (.v 4), none⟩,
  ⟨none, .store 1 (.l 0) (.l 1), none⟩])
 (.skip)))))))))
 (.reg [⟨none, .mov (.v 2), none⟩,
  ⟨none, .load (some 3) (.v 4), none⟩,
  ⟨none, .mksl 3 [(.l 0)], none⟩,
  ⟨none, .app 3 32 (.l 2) (.l 0), none⟩,
  ⟨(some 2), .mov (.l 0), none⟩]))))
 (.reg [⟨none, .mov (.v 3), none⟩,
  ⟨none, .bin .sub (.l 0) (.c (.int .i64 (1))), none⟩,
  ⟨(some 3), .mov (.l 0), none⟩]))
def vf_ref20_Reader_Row : VFun := ⟨[0, 2, 3, 4, 5, 16, 23, 24, 29, 34], 1,
 .seq
 (.reg [⟨(some 1), .mov (.c (.sl true 0 [])), none⟩])
 (.seq
 (.reg [⟨(some 2), .nilbuf 3, none⟩])
 (.seq
 (.seq
 (.reg [⟨none, .mov (.v 0), none⟩,
  ⟨none, .call F.ref20_Reader_Number [(.l 0), (.c (.int .i64 (1)))], none⟩,
  ⟨(some 3), .mov (.l 0), none⟩])
 (.block 0 (.loop [1, 4, 5, 6, 7, 8, 9] l_ref20_Reader_Row_0)))
 (.seq
 (.reg [⟨none, .mov (.v 2), none⟩,
  ⟨(some 1), .mov (.l 0), none⟩])
 (.ret)))),
 [.v 1]⟩
theorem vfun_ref20_Reader_Row : funOf Go.Proofs.Tryz.prog ann F.ref20_Reader_Row = some vf_ref20_Reader_Row := by kernel_rfl
theorem call_ref20_Reader_Row (args : List V) (m : Mem) (hl : args.length = 1) : callL MM F.ref20_Reader_Row args m = (ex (callL MM) m.length vf_ref20_Reader_Row.body (enter vf_ref20_Reader_Row args) m).bind (leave m.length vf_ref20_Reader_Row.res) := call_fn vfun_ref20_Reader_Row rfl args m hl
def vf_lex_Name : VFun := ⟨[0, 2], 1,
 .seq
 (.reg [⟨(some 1), .mov (.c (.bool false)), none⟩])
 (.seq
 (.reg [⟨none, .mov (.v 0), none⟩,
  ⟨none, .call F.lex_isName [(.l 0)], none⟩,
  ⟨none, .mov (.l 0), none⟩,
  ⟨none, .mov (.v 0), (some (0, true))⟩,
  ⟨none, .call F.lex_Word [(.l 0)], (some (1, true))⟩,
  ⟨none, .not (.l 0), (some (2, true))⟩,
  ⟨none, .pick (.l 3) (.l 0) (.c (.bool false)), none⟩,
  ⟨(some 1), .mov (.l 0), none⟩])
 (.ret)),
 [.v 1]⟩
theorem vfun_lex_Name : funOf Go.Proofs.Tryz.prog ann F.lex_Name = some vf_lex_Name := by kernel_rfl
theorem call_lex_Name (args : List V) (m : Mem) (hl : args.length = 1) : callL MM F.lex_Name args m = (ex (callL MM) m.length vf_lex_Name.body (enter vf_lex_Name args) m).bind (leave m.length vf_lex_Name.res) := call_fn vfun_lex_Name rfl args m hl
def vf_value_valid : VFun := ⟨[0, 2], 1,
 .seq
 (.reg [⟨(some 1), .mov (.c (.bool false)), none⟩])
 (.seq
 (.reg [⟨none, .mov (.v 0), none⟩,
  ⟨none, .call F.slices_ContainsFunc_api_Value_api_Value [(.l 0), (.c (.fn F.value_valid_1 [] []))], none⟩,
  ⟨none, .not (.l 0), none⟩,
  ⟨(some 1), .mov (.l 0), none⟩])
 (.ret)),
 [.v 1]⟩
theorem vfun_value_valid : funOf Go.Proofs.Tryz.prog ann F.value_valid = some vf_value_valid := by kernel_rfl
theorem call_value_valid (args : List V) (m : Mem) (hl : args.length = 1) : callL MM F.value_valid args m = (ex (callL MM) m.length vf_value_valid.body (enter vf_value_valid args) m).bind (leave m.length vf_value_valid.res) := call_fn vfun_value_valid rfl args m hl
def l_ref02_shaped_0 : VC := .seq
 (.seq
 (.reg [⟨none, .mov (.v 2), none⟩,
  ⟨none, .mov (.v 0), none⟩,
  ⟨none, .len true (.l 0), none⟩,
  ⟨(some 3), .bin .lss (.l 2) (.l 0), none⟩])
 (.cond (.v 3)
 (.skip)
 (.exit 0)))
 (.seq
 (.block 1 (.seq
 (.reg [⟨none, .mov (.v 0), none⟩,
  ⟨none, .mov (.v 2), none⟩,
  ⟨none, .idxs (.l 1) (.l 0), none⟩,
  ⟨none, .call F.ref02_named [(.l 0)], none⟩,
  ⟨(some 4), .not (.l 0), none⟩])
 (.cond (.v 4)
 (.seq
 (.reg [⟨(some 1), .mov (.c (.bool false)), none⟩])
 (.ret))
 (.skip))))
 (.reg [⟨none, .mov (.v 2), none⟩,
  ⟨none, .bin .add (.l 0) (.c (.int .i64 (1))), none⟩,
  ⟨(some 2), .mov (.l 0), none⟩]))
def vf_ref02_shaped : VFun := ⟨[0, 2, 3, 7, 14], 1,
 .seq
 (.reg [⟨(some 1), .mov (.c (.bool false)), none⟩])
 (.seq
 (.seq
 (.reg [⟨(some 2), .mov (.c (.int .i64 (0))), none⟩])
 (.block 0 (.loop [1, 3, 4] l_ref02_shaped_0)))
 (.seq
 (.reg [⟨none, .mov (.v 0), none⟩,
  ⟨none, .bin .neq (.l 0) (.c (.str [])), none⟩,
  ⟨none, .mov (.l 0), none⟩,
  ⟨none, .mov (.v 0), (some (0, true))⟩,
  ⟨none, .idxs (.l 0) (.c (.int .i64 (0))), (some (1, true))⟩,
  ⟨none, .call F.ref02_small [(.l 0)], (some (2, true))⟩,
  ⟨none, .pick (.l 3) (.l 0) (.c (.bool false)), none⟩,
  ⟨(some 1), .mov (.l 0), none⟩])
 (.ret))),
 [.v 1]⟩
theorem vfun_ref02_shaped : funOf Go.Proofs.Tryz.prog ann F.ref02_shaped = some vf_ref02_shaped := by kernel_rfl
theorem call_ref02_shaped (args : List V) (m : Mem) (hl : args.length = 1) : callL MM F.ref02_shaped args m = (ex (callL MM) m.length vf_ref02_shaped.body (enter vf_ref02_shaped args) m).bind (leave m.length vf_ref02_shaped.res) := call_fn vfun_ref02_shaped rfl args m hl
def l_ref02_Word_0 : VC := .seq
 (.seq
 (.reg [⟨none, .mov (.v 2), none⟩,
  ⟨none, .mov (.v 0), none⟩,
  ⟨none, .len true (.l 0), none⟩,
  ⟨(some 5), .bin .lss (.l 2) (.l 0), none⟩])
 (.cond (.v 5)
 (.skip)
 (.exit 0)))
 (.seq
 (.block 1 (.seq
 (.reg [⟨none, .mov (.v 0), none⟩,
  ⟨none, .mov (.v 2), none⟩,
  ⟨none, .idxs (.l 1) (.l 0), none⟩,
  ⟨none, .call F.ref02_small [(.l 0)], none⟩,
  ⟨(some 6), .not (.l 0), none⟩])
 (.cond (.v 6)
 (.seq
 (.reg [⟨(some 1), .mov (.c (.bool false)), none⟩])
 (.ret))
 (.skip))))
 (.reg [⟨none, .mov (.v 2), none⟩,
  ⟨none, .bin .add (.l 0) (.c (.int .i64 (1))), none⟩,
  ⟨(some 2), .mov (.l 0), none⟩]))
def l_ref02_Word_1 : VC := .seq
 (.seq
 (.reg [⟨none, .mov (.v 3), none⟩,
  ⟨none, .mov (.v 0), none⟩,
  ⟨none, .len true (.l 0), none⟩,
  ⟨none, .bin .add (.l 2) (.l 0), none⟩,
  ⟨(some 7), .bin .leq (.l 0) (.c (.int .i64 (662))), none⟩])
 (.cond (.v 7)
 (.skip)
 (.exit 2)))
 (.seq
 (.block 3 (.seq
 (.reg [⟨none, .mov (.v 3), none⟩,
  ⟨none, .mov (.v 3), none⟩,
  ⟨none, .mov (.v 0), none⟩,
  ⟨none, .len true (.l 0), none⟩,
  ⟨none, .bin .add (.l 2) (.l 0), none⟩,
  ⟨none, .slice none (.c (.str [32, 97, 100, 100, 32, 97, 102, 116, 101, 114, 32, 97, 108, 108, 32, 97, 108, 116, 101, 114, 32, 97, 110, 100, 32, 97, 114, 114, 97, 121, 32, 97, 115, 32, 97, 117, 116, 111, 110, 111, 109, 111, 117, 115, 32, 98, 101, 102, 111, 114, 101, 32, 98, 101, 103, 105, 110, 32, 98, 101, 116, 119, 101, 101, 110, 32, 98, 111, 111, 108, 32, 98, 117, 108, 107, 32, 98, 121, 32, 99, 97, 99, 104, 101, 32, 99, 97, 115, 101, 32, 99, 104, 101, 99, 107, 32, 99, 108, 111, 115, 101, 32, 99, 111, 108, 108, 101, 99, 116, 32, 99, 111, 109, 109, 105, 116, 32, 99, 111, 110, 115, 116, 114, 97, 105, 110, 116, 32, 99, 111, 117, 110, 116, 32, 99, 114, 101, 97, 116, 101, 32, 99, 117, 114, 115, 111, 114, 32, 100, 101, 99, 108, 97, 114, 101, 32, 100, 101, 102, 97, 117, 108, 116, 32, 100, 101, 102, 101, 114, 114, 101, 100, 32, 100, 101, 108, 101, 116, 101, 32, 100, 101, 115, 99, 32, 100, 105, 115, 116, 105, 110, 99, 116, 32, 100, 114, 111, 112, 32, 101, 97, 99, 104, 32, 101, 108, 115, 101, 32, 101, 108, 115, 105, 102, 32, 101, 110, 100, 32, 101, 120, 99, 101, 112, 116, 105, 111, 110, 32, 101, 120, 101, 99, 117, 116, 101, 32, 101, 120, 105, 115, 116, 115, 32, 101, 120, 105, 116, 32, 102, 97, 108, 115, 101, 32, 102, 101, 116, 99, 104, 32, 102, 111, 114, 32, 102, 111, 114, 97, 108, 108, 32, 102, 111, 114, 101, 105, 103, 110, 32, 102, 111, 117, 110, 100, 32, 102, 114, 111, 109, 32, 102, 117, 110, 99, 116, 105, 111, 110, 32, 103, 114, 97, 110, 116, 32, 103, 114, 111, 117, 112, 32, 104, 97, 118, 105, 110, 103, 32, 105, 102, 32, 105, 110, 32, 105, 110, 100, 101, 120, 32, 105, 110, 115, 101, 114, 116, 32, 105, 110, 116, 32, 105, 110, 116, 111, 32, 105, 110, 118, 111, 107, 101, 114, 32, 105, 115, 32, 105, 115, 111, 112, 101, 110, 32, 107, 101, 121, 32, 108, 105, 107, 101, 32, 108, 105, 109, 105, 116, 32, 108, 111, 111, 112, 32, 109, 111, 100, 32, 110, 101, 119, 32, 110, 111, 116, 32, 110, 111, 116, 102, 111, 117, 110, 100, 32, 110, 117, 108, 108, 32, 111, 102, 32, 111, 108, 100, 32, 111, 110, 32, 111, 112, 101, 110, 32, 111, 114, 32, 111, 114, 100, 101, 114, 32, 111, 117, 116, 32, 112, 97, 99, 107, 97, 103, 101, 32, 112, 114, 105, 109, 97, 114, 121, 32, 112, 114, 105, 118, 97, 116, 101, 32, 112, 114, 111, 99, 101, 100, 117, 114, 101, 32, 114, 97, 105, 115, 101, 32, 114, 101, 102, 101, 114, 101, 110, 99, 101, 115, 32, 114, 101, 112, 108, 97, 99, 101, 32, 114, 101, 116, 117, 114, 110, 32, 114, 101, 118, 101, 114, 115, 101, 32, 114, 101, 118, 111, 107, 101, 32, 114, 111, 108, 108, 98, 97, 99, 107, 32, 114, 111, 119, 32, 114, 111, 119, 99, 111, 117, 110, 116, 32, 115, 97, 118, 101, 112, 111, 105, 110, 116, 32, 115, 101, 108, 101, 99, 116, 32, 115, 101, 113, 117, 101, 110, 99, 101, 32, 115, 101, 116, 32, 115, 113, 108, 32, 115, 116, 97, 114, 116, 32, 116, 97, 98, 108, 101, 32, 116, 101, 120, 116, 32, 116, 104, 101, 110, 32, 116, 111, 32, 116, 114, 105, 103, 103, 101, 114, 32, 116, 114, 117, 101, 32, 117, 110, 105, 113, 117, 101, 32, 117, 112, 100, 97, 116, 101, 32, 117, 115, 101, 114, 32, 118, 97, 108, 117, 101, 115, 32, 118, 105, 101, 119, 32, 119, 104, 101, 110, 32, 119, 104, 101, 114, 101, 32, 119, 104, 105, 108, 101, 32])) (some (.l 4)) (some (.l 0)) none, none⟩,
  ⟨none, .mov (.v 0), none⟩,
  ⟨(some 8), .bin .eql (.l 1) (.l 0), none⟩])
 (.cond (.v 8)
 (.seq
 (.reg [⟨(some 1), .mov (.c (.bool true)), none⟩])
 (.ret))
 (.skip))))
 (.reg [⟨none, .mov (.v 3), none⟩,
  ⟨none, .bin .add (.l 0) (.c (.int .i64 (1))), none⟩,
  ⟨(some 3), .mov (.l 0), none⟩]))
def vf_ref02_Word : VFun := ⟨[0, 2, 3, 4, 6, 10, 17, 25, 35], 1,
 .seq
 (.reg [⟨(some 1), .mov (.c (.bool false)), none⟩])
 (.seq
 (.seq
 (.reg [⟨none, .mov (.v 0), none⟩,
  ⟨(some 4), .bin .eql (.l 0) (.c (.str [])), none⟩])
 (.cond (.v 4)
 (.seq
 (.reg [⟨(some 1), .mov (.c (.bool false)), none⟩])
 (.ret))
 (.skip)))
 (.seq
 (.seq
 (.reg [⟨(some 2), .mov (.c (.int .i64 (0))), none⟩])
 (.block 0 (.loop [1, 3, 4, 5, 6, 7, 8] l_ref02_Word_0)))
 (.seq
 (.reg [⟨none, .mov (.v 0), none⟩,
  ⟨none, .bin .add (.c (.str [32])) (.l 0), none⟩,
  ⟨none, .bin .add (.l 0) (.c (.str [32])), none⟩,
  ⟨(some 0), .mov (.l 0), none⟩])
 (.seq
 (.seq
 (.reg [⟨(some 3), .mov (.c (.int .i64 (0))), none⟩])
 (.block 2 (.loop [1, 2, 4, 5, 6, 7, 8] l_ref02_Word_1)))
 (.seq
 (.reg [⟨(some 1), .mov (.c (.bool false)), none⟩])
 (.ret)))))),
 [.v 1]⟩
theorem vfun_ref02_Word : funOf Go.Proofs.Tryz.prog ann F.ref02_Word = some vf_ref02_Word := by kernel_rfl
theorem call_ref02_Word (args : List V) (m : Mem) (hl : args.length = 1) : callL MM F.ref02_Word args m = (ex (callL MM) m.length vf_ref02_Word.body (enter vf_ref02_Word args) m).bind (leave m.length vf_ref02_Word.res) := call_fn vfun_ref02_Word rfl args m hl
def l_ref01_All_0 : VC := .seq
 (.reg [⟨(some 6), .bin .lss (.v 5) (.v 4), none⟩])
 (.seq
 (.cond (.v 6)
 (.skip)
 (.exit 0))
 (.seq
 (.block 1 (.seq
 (.reg [⟨none, .iaddr 3 (.v 3) (.v 5), none⟩,
  ⟨none, .load (some 3) (.l 0), none⟩,
  ⟨(some 2), .alloc [.int .i64 (0), .int .i64 (0), .str []] [], none⟩,
  ⟨none, .store 3 (.v 2) (.l 1), none⟩])
 (.seq
 (.reg [⟨none, .load (some 3) (.v 2), none⟩,
  ⟨none, .call F.ref01_Valid [(.l 0)], none⟩,
  ⟨(some 7), .not (.l 0), none⟩])
 (.cond (.v 7)
 (.seq
 (.reg [⟨(some 1), .mov (.c (.bool false)), none⟩])
 (.ret))
 (.skip)))))
 (.reg [⟨none, .bin .add (.v 5) (.c (.int .i64 (1))), none⟩,
  ⟨(some 5), .mov (.l 0), none⟩])))
def vf_ref01_All : VFun := ⟨[0, 2, 4, 5, 6, 7, 8, 13], 1,
 .seq
 (.reg [⟨(some 1), .mov (.c (.bool false)), none⟩])
 (.seq
 (.seq
 (.reg [⟨(some 3), .mov (.v 0), none⟩,
  ⟨(some 4), .len false (.v 3), none⟩,
  ⟨(some 5), .mov (.c (.int .i64 (0))), none⟩])
 (.block 0 (.loop [0, 1, 2, 6, 7] l_ref01_All_0)))
 (.seq
 (.reg [⟨(some 1), .mov (.c (.bool true)), none⟩])
 (.ret))),
 [.v 1]⟩
theorem vfun_ref01_All : funOf Go.Proofs.Tryz.prog ann F.ref01_All = some vf_ref01_All := by kernel_rfl
theorem call_ref01_All (args : List V) (m : Mem) (hl : args.length = 1) : callL MM F.ref01_All args m = (ex (callL MM) m.length vf_ref01_All.body (enter vf_ref01_All args) m).bind (leave m.length vf_ref01_All.res) := call_fn vfun_ref01_All rfl args m hl
def vf_value_Valid : VFun := ⟨[0, 1, 2, 4, 5, 10, 20, 30], 1,
 .seq
 (.reg [⟨(some 1), .box (.v 0) [], none⟩,
  ⟨(some 2), .mov (.c (.bool false)), none⟩])
 (.seq
 (.seq
 (.reg [⟨none, .faddr 0 (.v 1), none⟩,
  ⟨(some 3), .load none (.l 0), none⟩])
 (.block 0 (.seq
 (.reg [⟨none, .bin .eql (.v 3) (.c (.int .i64 (0))), none⟩,
  ⟨(some 4), .mov (.l 0), none⟩])
 (.cond (.v 4)
 (.seq
 (.reg [⟨none, .load (some 3) (.v 1), none⟩,
  ⟨none, .load (some 3) (.c (.ep (.agg [.int .i64 (0), .int .i64 (0), .str []]) 0)), none⟩,
  ⟨none, .eqs (.st [(0, none, .int), (1, none, .int), (2, none, .str)]) false (.l 1) (.l 0), none⟩,
  ⟨(some 2), .mov (.l 0), none⟩])
 (.ret))
 (.seq
 (.reg [⟨none, .bin .eql (.v 3) (.c (.int .i64 (1))), none⟩,
  ⟨(some 5), .mov (.l 0), none⟩])
 (.cond (.v 5)
 (.seq
 (.reg [⟨none, .faddr 2 (.v 1), none⟩,
  ⟨none, .load none (.l 0), none⟩,
  ⟨none, .bin .eql (.l 0) (.c (.str [])), none⟩,
  ⟨none, .mov (.l 0), none⟩,
  ⟨none, .faddr 1 (.v 1), (some (0, true))⟩,
  ⟨none, .load none (.l 0), (some (1, true))⟩,
  ⟨none, .call F.value_isInt [(.l 0)], (some (2, true))⟩,
  ⟨none, .pick (.l 3) (.l 0) (.c (.bool false)), none⟩,
  ⟨(some 2), .mov (.l 0), none⟩])
 (.ret))
 (.seq
 (.reg [⟨none, .bin .eql (.v 3) (.c (.int .i64 (2))), none⟩,
  ⟨(some 6), .mov (.l 0), none⟩])
 (.cond (.v 6)
 (.seq
 (.reg [⟨none, .faddr 1 (.v 1), none⟩,
  ⟨none, .load none (.l 0), none⟩,
  ⟨none, .bin .eql (.l 0) (.c (.int .i64 (0))), none⟩,
  ⟨none, .mov (.l 0), none⟩,
  ⟨none, .faddr 2 (.v 1), (some (0, true))⟩,
  ⟨none, .load none (.l 0), (some (1, true))⟩,
  ⟨none, .call F.value_isString [(.l 0)], (some (2, true))⟩,
  ⟨none, .pick (.l 3) (.l 0) (.c (.bool false)), none⟩,
  ⟨(some 2), .mov (.l 0), none⟩])
 (.ret))
 (.seq
 (.reg [⟨none, .bin .eql (.v 3) (.c (.int .i64 (3))), none⟩,
  ⟨(some 7), .mov (.l 0), none⟩])
 (.cond (.v 7)
 (.seq
 (.reg [⟨none, .faddr 2 (.v 1), none⟩,
  ⟨none, .load none (.l 0), none⟩,
  ⟨none, .bin .eql (.l 0) (.c (.str [])), none⟩,
  ⟨none, .mov (.l 0), none⟩,
  ⟨none, .faddr 1 (.v 1), (some (0, true))⟩,
  ⟨none, .load none (.l 0), (some (1, true))⟩,
  ⟨none, .bin .eql (.l 0) (.c (.int .i64 (0))), (some (2, true))⟩,
  ⟨none, .mov (.l 0), (some (3, true))⟩,
  ⟨none, .faddr 1 (.v 1), (some (0, false))⟩,
  ⟨none, .load none (.l 0), (some (1, false))⟩,
  ⟨none, .bin .eql (.l 0) (.c (.int .i64 (1))), (some (2, false))⟩,
  ⟨none, .pick (.l 3) (.c (.bool true)) (.l 0), (some (7, true))⟩,
  ⟨none, .pick (.l 8) (.l 0) (.c (.bool false)), none⟩,
  ⟨(some 2), .mov (.l 0), none⟩])
 (.ret))
 (.skip)))))))))))
 (.seq
 (.reg [⟨(some 2), .mov (.c (.bool false)), none⟩])
 (.ret))),
 [.v 2]⟩
theorem vfun_value_Valid : funOf Go.Proofs.Tryz.prog ann F.value_Valid = some vf_value_Valid := by kernel_rfl
theorem call_value_Valid (args : List V) (m : Mem) (hl : args.length = 1) : callL MM F.value_Valid args m = (ex (callL MM) m.length vf_value_Valid.body (enter vf_value_Valid args) m).bind (leave m.length vf_value_Valid.res) := call_fn vfun_value_Valid rfl args m hl
def vf_value_Written : VFun := ⟨[0, 1, 2, 4, 5, 10, 17], 1,
 .seq
 (.reg [⟨(some 1), .box (.v 0) [], none⟩,
  ⟨(some 2), .mov (.c (.str [])), none⟩])
 (.seq
 (.seq
 (.reg [⟨none, .faddr 0 (.v 1), none⟩,
  ⟨(some 3), .load none (.l 0), none⟩])
 (.block 0 (.seq
 (.reg [⟨none, .bin .eql (.v 3) (.c (.int .i64 (1))), none⟩,
  ⟨(some 4), .mov (.l 0), none⟩])
 (.cond (.v 4)
 (.seq
 (.reg [⟨none, .faddr 1 (.v 1), none⟩,
  ⟨none, .load none (.l 0), none⟩,
  ⟨none, .call F.strconv_Itoa [(.l 0)], none⟩,
  ⟨(some 2), .mov (.l 0), none⟩])
 (.ret))
 (.seq
 (.reg [⟨none, .bin .eql (.v 3) (.c (.int .i64 (2))), none⟩,
  ⟨(some 5), .mov (.l 0), none⟩])
 (.cond (.v 5)
 (.seq
 (.reg [⟨none, .faddr 2 (.v 1), none⟩,
  ⟨none, .load none (.l 0), none⟩,
  ⟨none, .call F.strings_ReplaceAll [(.l 0), (.c (.str [39])), (.c (.str [39, 39]))], none⟩,
  ⟨none, .bin .add (.c (.str [39])) (.l 0), none⟩,
  ⟨none, .bin .add (.l 0) (.c (.str [39])), none⟩,
  ⟨(some 2), .mov (.l 0), none⟩])
 (.ret))
 (.seq
 (.reg [⟨none, .bin .eql (.v 3) (.c (.int .i64 (3))), none⟩,
  ⟨(some 6), .mov (.l 0), none⟩])
 (.cond (.v 6)
 (.seq
 (.reg [⟨none, .faddr 1 (.v 1), none⟩,
  ⟨none, .load none (.l 0), none⟩,
  ⟨none, .bin .eql (.l 0) (.c (.int .i64 (1))), none⟩,
  ⟨none, .call F.strconv_FormatBool [(.l 0)], none⟩,
  ⟨(some 2), .mov (.l 0), none⟩])
 (.ret))
 (.skip)))))))))
 (.seq
 (.reg [⟨(some 2), .mov (.c (.str [110, 117, 108, 108])), none⟩])
 (.ret))),
 [.v 2]⟩
theorem vfun_value_Written : funOf Go.Proofs.Tryz.prog ann F.value_Written = some vf_value_Written := by kernel_rfl
theorem call_value_Written (args : List V) (m : Mem) (hl : args.length = 1) : callL MM F.value_Written args m = (ex (callL MM) m.length vf_value_Written.body (enter vf_value_Written args) m).bind (leave m.length vf_value_Written.res) := call_fn vfun_value_Written rfl args m hl
def vf_ref01_IsInt : VFun := ⟨[0, 2], 1,
 .seq
 (.reg [⟨(some 1), .mov (.c (.bool false)), none⟩])
 (.seq
 (.reg [⟨none, .mov (.v 0), none⟩,
  ⟨none, .bin .geq (.l 0) (.c (.int .i64 (-1099511627776))), none⟩,
  ⟨none, .mov (.l 0), none⟩,
  ⟨none, .mov (.v 0), (some (0, true))⟩,
  ⟨none, .bin .leq (.l 0) (.c (.int .i64 (1099511627776))), (some (1, true))⟩,
  ⟨none, .pick (.l 2) (.l 0) (.c (.bool false)), none⟩,
  ⟨(some 1), .mov (.l 0), none⟩])
 (.ret)),
 [.v 1]⟩
theorem vfun_ref01_IsInt : funOf Go.Proofs.Tryz.prog ann F.ref01_IsInt = some vf_ref01_IsInt := by kernel_rfl
theorem call_ref01_IsInt (args : List V) (m : Mem) (hl : args.length = 1) : callL MM F.ref01_IsInt args m = (ex (callL MM) m.length vf_ref01_IsInt.body (enter vf_ref01_IsInt args) m).bind (leave m.length vf_ref01_IsInt.res) := call_fn vfun_ref01_IsInt rfl args m hl
def l_ref01_IsString_0 : VC := .seq
 (.seq
 (.reg [⟨none, .mov (.v 2), none⟩,
  ⟨none, .mov (.v 0), none⟩,
  ⟨none, .len true (.l 0), none⟩,
  ⟨(some 3), .bin .lss (.l 2) (.l 0), none⟩])
 (.cond (.v 3)
 (.skip)
 (.exit 0)))
 (.seq
 (.block 1 (.seq
 (.reg [⟨none, .mov (.v 0), none⟩,
  ⟨none, .mov (.v 2), none⟩,
  ⟨none, .idxs (.l 1) (.l 0), none⟩,
  ⟨none, .bin .lss (.l 0) (.c (.int .u8 (32))), none⟩,
  ⟨none, .mov (.l 0), none⟩,
  ⟨none, .mov (.v 0), (some (0, false))⟩,
  ⟨none, .mov (.v 2), (some (1, false))⟩,
  ⟨none, .idxs (.l 1) (.l 0), (some (2, false))⟩,
  ⟨none, .bin .gtr (.l 0) (.c (.int .u8 (126))), (some (3, false))⟩,
  ⟨(some 4), .pick (.l 4) (.c (.bool true)) (.l 0), none⟩])
 (.cond (.v 4)
 (.seq
 (.reg [⟨(some 1), .mov (.c (.bool false)), none⟩])
 (.ret))
 (.skip))))
 (.reg [⟨none, .mov (.v 2), none⟩,
  ⟨none, .bin .add (.l 0) (.c (.int .i64 (1))), none⟩,
  ⟨(some 2), .mov (.l 0), none⟩]))
def vf_ref01_IsString : VFun := ⟨[0, 2, 3, 7, 19], 1,
 .seq
 (.reg [⟨(some 1), .mov (.c (.bool false)), none⟩])
 (.seq
 (.seq
 (.reg [⟨(some 2), .mov (.c (.int .i64 (0))), none⟩])
 (.block 0 (.loop [1, 3, 4] l_ref01_IsString_0)))
 (.seq
 (.reg [⟨none, .mov (.v 0), none⟩,
  ⟨none, .len true (.l 0), none⟩,
  ⟨none, .bin .leq (.l 0) (.c (.int .i64 (200))), none⟩,
  ⟨(some 1), .mov (.l 0), none⟩])
 (.ret))),
 [.v 1]⟩
theorem vfun_ref01_IsString : funOf Go.Proofs.Tryz.prog ann F.ref01_IsString = some vf_ref01_IsString := by kernel_rfl
theorem call_ref01_IsString (args : List V) (m : Mem) (hl : args.length = 1) : callL MM F.ref01_IsString args m = (ex (callL MM) m.length vf_ref01_IsString.body (enter vf_ref01_IsString args) m).bind (leave m.length vf_ref01_IsString.res) := call_fn vfun_ref01_IsString rfl args m hl
def vf_lex_isName : VFun := ⟨[0, 2, 15], 1,
 .seq
 (.reg [⟨(some 1), .mov (.c (.bool false)), none⟩])
 (.seq
 (.seq
 (.reg [⟨none, .mov (.v 0), none⟩,
  ⟨none, .bin .eql (.l 0) (.c (.str [])), none⟩,
  ⟨none, .mov (.l 0), none⟩,
  ⟨none, .mov (.v 0), (some (0, false))⟩,
  ⟨none, .idxs (.l 0) (.c (.int .i64 (0))), (some (1, false))⟩,
  ⟨none, .call F.lex_small [(.l 0)], (some (2, false))⟩,
  ⟨none, .not (.l 0), (some (3, false))⟩,
  ⟨none, .pick (.l 4) (.c (.bool true)) (.l 0), none⟩,
  ⟨none, .mov (.l 0), none⟩,
  ⟨none, .mov (.v 0), (some (0, false))⟩,
  ⟨none, .len true (.l 0), (some (1, false))⟩,
  ⟨none, .bin .gtr (.l 0) (.c (.int .i64 (30))), (some (2, false))⟩,
  ⟨(some 2), .pick (.l 3) (.c (.bool true)) (.l 0), none⟩])
 (.cond (.v 2)
 (.seq
 (.reg [⟨(some 1), .mov (.c (.bool false)), none⟩])
 (.ret))
 (.skip)))
 (.seq
 (.reg [⟨none, .mov (.v 0), none⟩,
  ⟨none, .toBytes (.l 0), none⟩,
  ⟨none, .call F.slices_ContainsFunc_byte_byte [(.l 0), (.c (.fn F.lex_isName_1 [] []))], none⟩,
  ⟨none, .not (.l 0), none⟩,
  ⟨(some 1), .mov (.l 0), none⟩])
 (.ret))),
 [.v 1]⟩
theorem vfun_lex_isName : funOf Go.Proofs.Tryz.prog ann F.lex_isName = some vf_lex_isName := by kernel_rfl
theorem call_lex_isName (args : List V) (m : Mem) (hl : args.length = 1) : callL MM F.lex_isName args m = (ex (callL MM) m.length vf_lex_isName.body (enter vf_lex_isName args) m).bind (leave m.length vf_lex_isName.res) := call_fn vfun_lex_isName rfl args m hl
def vf_lex_Word : VFun := ⟨[0, 2, 3, 4], 1,
 .seq
 (.reg [⟨(some 1), .mov (.c (.bool false)), none⟩])
 (.seq
 (.seq
 (.reg [⟨(some 2), .mov (.v 0), none⟩])
 (.block 0 (.seq
 (.seq
 (.reg [⟨none, .bin .eql (.v 2) (.c (.str [111, 114])), none⟩,
  ⟨(some 3), .mov (.l 0), none⟩])
 (.cond (.v 3)
 (.skip)
 (.seq
 (.reg [⟨none, .bin .eql (.v 2) (.c (.str [97, 110, 100])), none⟩,
  ⟨(some 3), .mov (.l 0), none⟩])
 (.cond (.v 3)
 (.skip)
 (.seq
 (.reg [⟨none, .bin .eql (.v 2) (.c (.str [110, 111, 116])), none⟩,
  ⟨(some 3), .mov (.l 0), none⟩])
 (.cond (.v 3)
 (.skip)
 (.seq
 (.reg [⟨none, .bin .eql (.v 2) (.c (.str [105, 115])), none⟩,
  ⟨(some 3), .mov (.l 0), none⟩])
 (.cond (.v 3)
 (.skip)
 (.seq
 (.reg [⟨none, .bin .eql (.v 2) (.c (.str [110, 117, 108, 108])), none⟩,
  ⟨(some 3), .mov (.l 0), none⟩])
 (.cond (.v 3)
 (.skip)
 (.seq
 (.reg [⟨none, .bin .eql (.v 2) (.c (.str [105, 110])), none⟩,
  ⟨(some 3), .mov (.l 0), none⟩])
 (.cond (.v 3)
 (.skip)
 (.seq
 (.reg [⟨none, .bin .eql (.v 2) (.c (.str [98, 101, 116, 119, 101, 101, 110])), none⟩,
  ⟨(some 3), .mov (.l 0), none⟩])
 (.cond (.v 3)
 (.skip)
 (.seq
 (.reg [⟨none, .bin .eql (.v 2) (.c (.str [108, 105, 107, 101])), none⟩,
  ⟨(some 3), .mov (.l 0), none⟩])
 (.cond (.v 3)
 (.skip)
 (.seq
 (.reg [⟨none, .bin .eql (.v 2) (.c (.str [109, 111, 100])), none⟩,
  ⟨(some 3), .mov (.l 0), none⟩])
 (.cond (.v 3)
 (.skip)
 (.seq
 (.reg [⟨none, .bin .eql (.v 2) (.c (.str [116, 114, 117, 101])), none⟩,
  ⟨(some 3), .mov (.l 0), none⟩])
 (.cond (.v 3)
 (.skip)
 (.seq
 (.reg [⟨none, .bin .eql (.v 2) (.c (.str [102, 97, 108, 115, 101])), none⟩,
  ⟨(some 3), .mov (.l 0), none⟩])
 (.cond (.v 3)
 (.skip)
 (.seq
 (.reg [⟨none, .bin .eql (.v 2) (.c (.str [110, 101, 119])), none⟩,
  ⟨(some 3), .mov (.l 0), none⟩])
 (.cond (.v 3)
 (.skip)
 (.seq
 (.reg [⟨none, .bin .eql (.v 2) (.c (.str [111, 108, 100])), none⟩,
  ⟨(some 3), .mov (.l 0), none⟩])
 (.cond (.v 3)
 (.skip)
 (.seq
 (.reg [⟨none, .bin .eql (.v 2) (.c (.str [115, 113, 108])), none⟩,
  ⟨(some 3), .mov (.l 0), none⟩])
 (.cond (.v 3)
 (.skip)
 (.seq
 (.reg [⟨none, .bin .eql (.v 2) (.c (.str [102, 111, 117, 110, 100])), none⟩,
  ⟨(some 3), .mov (.l 0), none⟩])
 (.cond (.v 3)
 (.skip)
 (.seq
 (.reg [⟨none, .bin .eql (.v 2) (.c (.str [110, 111, 116, 102, 111, 117, 110, 100])), none⟩,
  ⟨(some 3), .mov (.l 0), none⟩])
 (.cond (.v 3)
 (.skip)
 (.seq
 (.reg [⟨none, .bin .eql (.v 2) (.c (.str [105, 115, 111, 112, 101, 110])), none⟩,
  ⟨(some 3), .mov (.l 0), none⟩])
 (.cond (.v 3)
 (.skip)
 (.seq
 (.reg [⟨none, .bin .eql (.v 2) (.c (.str [114, 111, 119, 99, 111, 117, 110, 116])), none⟩,
  ⟨(some 3), .mov (.l 0), none⟩])
 (.cond (.v 3)
 (.skip)
 (.seq
 (.reg [⟨none, .bin .eql (.v 2) (.c (.str [99, 111, 117, 110, 116])), none⟩,
  ⟨(some 3), .mov (.l 0), none⟩])
 (.cond (.v 3)
 (.skip)
 (.seq
 (.reg [⟨none, .bin .eql (.v 2) (.c (.str [101, 120, 105, 115, 116, 115])), none⟩,
  ⟨(some 3), .mov (.l 0), none⟩])
 (.cond (.v 3)
 (.skip)
 (.seq
 (.reg [⟨none, .bin .eql (.v 2) (.c (.str [99, 97, 115, 101])), none⟩,
  ⟨(some 3), .mov (.l 0), none⟩])
 (.cond (.v 3)
 (.skip)
 (.seq
 (.reg [⟨none, .bin .eql (.v 2) (.c (.str [119, 104, 101, 110])), none⟩,
  ⟨(some 3), .mov (.l 0), none⟩])
 (.cond (.v 3)
 (.skip)
 (.seq
 (.reg [⟨none, .bin .eql (.v 2) (.c (.str [116, 104, 101, 110])), none⟩,
  ⟨(some 3), .mov (.l 0), none⟩])
 (.cond (.v 3)
 (.skip)
 (.seq
 (.reg [⟨none, .bin .eql (.v 2) (.c (.str [101, 108, 115, 101])), none⟩,
  ⟨(some 3), .mov (.l 0), none⟩])
 (.cond (.v 3)
 (.skip)
 (.seq
 (.reg [⟨none, .bin .eql (.v 2) (.c (.str [101, 110, 100])), none⟩,
  ⟨(some 3), .mov (.l 0), none⟩])
 (.cond (.v 3)
 (.skip)
 (.seq
 (.reg [⟨none, .bin .eql (.v 2) (.c (.str [115, 101, 108, 101, 99, 116])), none⟩,
  ⟨(some 3), .mov (.l 0), none⟩])
 (.cond (.v 3)
 (.skip)
 (.seq
 (.reg [⟨none, .bin .eql (.v 2) (.c (.str [100, 105, 115, 116, 105, 110, 99, 116])), none⟩,
  ⟨(some 3), .mov (.l 0), none⟩])
 (.cond (.v 3)
 (.skip)
 (.seq
 (.reg [⟨none, .bin .eql (.v 2) (.c (.str [102, 114, 111, 109])), none⟩,
  ⟨(some 3), .mov (.l 0), none⟩])
 (.cond (.v 3)
 (.skip)
 (.seq
 (.reg [⟨none, .bin .eql (.v 2) (.c (.str [119, 104, 101, 114, 101])), none⟩,
  ⟨(some 3), .mov (.l 0), none⟩])
 (.cond (.v 3)
 (.skip)
 (.seq
 (.reg [⟨none, .bin .eql (.v 2) (.c (.str [103, 114, 111, 117, 112])), none⟩,
  ⟨(some 3), .mov (.l 0), none⟩])
 (.cond (.v 3)
 (.skip)
 (.seq
 (.reg [⟨none, .bin .eql (.v 2) (.c (.str [98, 121])), none⟩,
  ⟨(some 3), .mov (.l 0), none⟩])
 (.cond (.v 3)
 (.skip)
 (.seq
 (.reg [⟨none, .bin .eql (.v 2) (.c (.str [104, 97, 118, 105, 110, 103])), none⟩,
  ⟨(some 3), .mov (.l 0), none⟩])
 (.cond (.v 3)
 (.skip)
 (.seq
 (.reg [⟨none, .bin .eql (.v 2) (.c (.str [111, 114, 100, 101, 114])), none⟩,
  ⟨(some 3), .mov (.l 0), none⟩])
 (.cond (.v 3)
 (.skip)
 (.seq
 (.reg [⟨none, .bin .eql (.v 2) (.c (.str [100, 101, 115, 99])), none⟩,
  ⟨(some 3), .mov (.l 0), none⟩])
 (.cond (.v 3)
 (.skip)
 (.seq
 (.reg [⟨none, .bin .eql (.v 2) (.c (.str [102, 111, 114])), none⟩,
  ⟨(some 3), .mov (.l 0), none⟩])
 (.cond (.v 3)
 (.skip)
 (.seq
 (.reg [⟨none, .bin .eql (.v 2) (.c (.str [117, 112, 100, 97, 116, 101])), none⟩,
  ⟨(some 3), .mov (.l 0), none⟩])
 (.cond (.v 3)
 (.skip)
 (.seq
 (.reg [⟨none, .bin .eql (.v 2) (.c (.str [97, 115])), none⟩,
  ⟨(some 3), .mov (.l 0), none⟩])
 (.cond (.v 3)
 (.skip)
 (.seq
 (.reg [⟨none, .bin .eql (.v 2) (.c (.str [111, 102])), none⟩,
  ⟨(some 3), .mov (.l 0), none⟩])
 (.cond (.v 3)
 (.skip)
 (.seq
 (.reg [⟨none, .bin .eql (.v 2) (.c (.str [105, 110, 115, 101, 114, 116])), none⟩,
  ⟨(some 3), .mov (.l 0), none⟩])
 (.cond (.v 3)
 (.skip)
 (.seq
 (.reg [⟨none, .bin .eql (.v 2) (.c (.str [105, 110, 116, 111])), none⟩,
  ⟨(some 3), .mov (.l 0), none⟩])
 (.cond (.v 3)
 (.skip)
 (.seq
 (.reg [⟨none, .bin .eql (.v 2) (.c (.str [118, 97, 108, 117, 101, 115])), none⟩,
  ⟨(some 3), .mov (.l 0), none⟩])
 (.cond (.v 3)
 (.skip)
 (.seq
 (.reg [⟨none, .bin .eql (.v 2) (.c (.str [115, 101, 116])), none⟩,
  ⟨(some 3), .mov (.l 0), none⟩])
 (.cond (.v 3)
 (.skip)
 (.seq
 (.reg [⟨none, .bin .eql (.v 2) (.c (.str [100, 101, 108, 101, 116, 101])), none⟩,
  ⟨(some 3), .mov (.l 0), none⟩])
 (.cond (.v 3)
 (.skip)
 (.seq
 (.reg [⟨none, .bin .eql (.v 2) (.c (.str [105, 110, 116])), none⟩,
  ⟨(some 3), .mov (.l 0), none⟩])
 (.cond (.v 3)
 (.skip)
 (.seq
 (.reg [⟨none, .bin .eql (.v 2) (.c (.str [116, 101, 120, 116])), none⟩,
  ⟨(some 3), .mov (.l 0), none⟩])
 (.cond (.v 3)
 (.skip)
 (.seq
 (.reg [⟨none, .bin .eql (.v 2) (.c (.str [98, 111, 111, 108])), none⟩,
  ⟨(some 3), .mov (.l 0), none⟩])
 (.cond (.v 3)
 (.skip)
 (.seq
 (.reg [⟨none, .bin .eql (.v 2) (.c (.str [97, 114, 114, 97, 121])), none⟩,
  ⟨(some 3), .mov (.l 0), none⟩])
 (.cond (.v 3)
 (.skip)
 (.seq
 (.reg [⟨none, .bin .eql (.v 2) (.c (.str [99, 117, 114, 115, 111, 114])), none⟩,
  ⟨(some 3), .mov (.l 0), none⟩])
 (.cond (.v 3)
 (.skip)
 (.seq
 (.reg [⟨none, .bin .eql (.v 2) (.c (.str [101, 120, 99, 101, 112, 116, 105, 111, 110])), none⟩,
  ⟨(some 3), .mov (.l 0), none⟩])
 (.cond (.v 3)
 (.skip)
 (.seq
 (.reg [⟨none, .bin .eql (.v 2) (.c (.str [100, 101, 99, 108, 97, 114, 101])), none⟩,
  ⟨(some 3), .mov (.l 0), none⟩])
 (.cond (.v 3)
 (.skip)
 (.seq
 (.reg [⟨none, .bin .eql (.v 2) (.c (.str [98, 101, 103, 105, 110])), none⟩,
  ⟨(some 3), .mov (.l 0), none⟩])
 (.cond (.v 3)
 (.skip)
 (.seq
 (.reg [⟨none, .bin .eql (.v 2) (.c (.str [101, 120, 105, 116])), none⟩,
  ⟨(some 3), .mov (.l 0), none⟩])
 (.cond (.v 3)
 (.skip)
 (.seq
 (.reg [⟨none, .bin .eql (.v 2) (.c (.str [114, 101, 116, 117, 114, 110])), none⟩,
  ⟨(some 3), .mov (.l 0), none⟩])
 (.cond (.v 3)
 (.skip)
 (.seq
 (.reg [⟨none, .bin .eql (.v 2) (.c (.str [114, 97, 105, 115, 101])), none⟩,
  ⟨(some 3), .mov (.l 0), none⟩])
 (.cond (.v 3)
 (.skip)
 (.seq
 (.reg [⟨none, .bin .eql (.v 2) (.c (.str [105, 102])), none⟩,
  ⟨(some 3), .mov (.l 0), none⟩])
 (.cond (.v 3)
 (.skip)
 (.seq
 (.reg [⟨none, .bin .eql (.v 2) (.c (.str [101, 108, 115, 105, 102])), none⟩,
  ⟨(some 3), .mov (.l 0), none⟩])
 (.cond (.v 3)
 (.skip)
 (.seq
 (.reg [⟨none, .bin .eql (.v 2) (.c (.str [119, 104, 105, 108, 101])), none⟩,
  ⟨(some 3), .mov (.l 0), none⟩])
 (.cond (.v 3)
 (.skip)
 (.seq
 (.reg [⟨none, .bin .eql (.v 2) (.c (.str [108, 111, 111, 112])), none⟩,
  ⟨(some 3), .mov (.l 0), none⟩])
 (.cond (.v 3)
 (.skip)
 (.seq
 (.reg [⟨none, .bin .eql (.v 2) (.c (.str [114, 101, 118, 101, 114, 115, 101])), none⟩,
  ⟨(some 3), .mov (.l 0), none⟩])
 (.cond (.v 3)
 (.skip)
 (.seq
 (.reg [⟨none, .bin .eql (.v 2) (.c (.str [111, 112, 101, 110])), none⟩,
  ⟨(some 3), .mov (.l 0), none⟩])
 (.cond (.v 3)
 (.skip)
 (.seq
 (.reg [⟨none, .bin .eql (.v 2) (.c (.str [99, 108, 111, 115, 101])), none⟩,
  ⟨(some 3), .mov (.l 0), none⟩])
 (.cond (.v 3)
 (.skip)
 (.seq
 (.reg [⟨none, .bin .eql (.v 2) (.c (.str [102, 101, 116, 99, 104])), none⟩,
  ⟨(some 3), .mov (.l 0), none⟩])
 (.cond (.v 3)
 (.skip)
 (.seq
 (.reg [⟨none, .bin .eql (.v 2) (.c (.str [98, 117, 108, 107])), none⟩,
  ⟨(some 3), .mov (.l 0), none⟩])
 (.cond (.v 3)
 (.skip)
 (.seq
 (.reg [⟨none, .bin .eql (.v 2) (.c (.str [99, 111, 108, 108, 101, 99, 116])), none⟩,
  ⟨(some 3), .mov (.l 0), none⟩])
 (.cond (.v 3)
 (.skip)
 (.seq
 (.reg [⟨none, .bin .eql (.v 2) (.c (.str [108, 105, 109, 105, 116])), none⟩,
  ⟨(some 3), .mov (.l 0), none⟩])
 (.cond (.v 3)
 (.skip)
 (.seq
 (.reg [⟨none, .bin .eql (.v 2) (.c (.str [102, 111, 114, 97, 108, 108])), none⟩,
  ⟨(some 3), .mov (.l 0), none⟩])
 (.cond (.v 3)
 (.skip)
 (.seq
 (.reg [⟨none, .bin .eql (.v 2) (.c (.str [99, 111, 109, 109, 105, 116])), none⟩,
  ⟨(some 3), .mov (.l 0), none⟩])
 (.cond (.v 3)
 (.skip)
 (.seq
 (.reg [⟨none, .bin .eql (.v 2) (.c (.str [114, 111, 108, 108, 98, 97, 99, 107])), none⟩,
  ⟨(some 3), .mov (.l 0), none⟩])
 (.cond (.v 3)
 (.skip)
 (.seq
 (.reg [⟨none, .bin .eql (.v 2) (.c (.str [116, 111])), none⟩,
  ⟨(some 3), .mov (.l 0), none⟩])
 (.cond (.v 3)
 (.skip)
 (.seq
 (.reg [⟨none, .bin .eql (.v 2) (.c (.str [115, 97, 118, 101, 112, 111, 105, 110, 116])), none⟩,
  ⟨(some 3), .mov (.l 0), none⟩])
 (.cond (.v 3)
 (.skip)
 (.seq
 (.reg [⟨none, .bin .eql (.v 2) (.c (.str [111, 117, 116])), none⟩,
  ⟨(some 3), .mov (.l 0), none⟩])
 (.cond (.v 3)
 (.skip)
 (.seq
 (.reg [⟨none, .bin .eql (.v 2) (.c (.str [112, 114, 111, 99, 101, 100, 117, 114, 101])), none⟩,
  ⟨(some 3), .mov (.l 0), none⟩])
 (.cond (.v 3)
 (.skip)
 (.seq
 (.reg [⟨none, .bin .eql (.v 2) (.c (.str [102, 117, 110, 99, 116, 105, 111, 110])), none⟩,
  ⟨(some 3), .mov (.l 0), none⟩])
 (.cond (.v 3)
 (.skip)
 (.seq
 (.reg [⟨none, .bin .eql (.v 2) (.c (.str [97, 117, 116, 111, 110, 111, 109, 111, 117, 115])), none⟩,
  ⟨(some 3), .mov (.l 0), none⟩])
 (.cond (.v 3)
 (.skip)
 (.seq
 (.reg [⟨none, .bin .eql (.v 2) (.c (.str [99, 114, 101, 97, 116, 101])), none⟩,
  ⟨(some 3), .mov (.l 0), none⟩])
 (.cond (.v 3)
 (.skip)
 (.seq
 (.reg [⟨none, .bin .eql (.v 2) (.c (.str [114, 101, 112, 108, 97, 99, 101])), none⟩,
  ⟨(some 3), .mov (.l 0), none⟩])
 (.cond (.v 3)
 (.skip)
 (.seq
 (.reg [⟨none, .bin .eql (.v 2) (.c (.str [100, 114, 111, 112])), none⟩,
  ⟨(some 3), .mov (.l 0), none⟩])
 (.cond (.v 3)
 (.skip)
 (.seq
 (.reg [⟨none, .bin .eql (.v 2) (.c (.str [97, 108, 116, 101, 114])), none⟩,
  ⟨(some 3), .mov (.l 0), none⟩])
 (.cond (.v 3)
 (.skip)
 (.seq
 (.reg [⟨none, .bin .eql (.v 2) (.c (.str [116, 97, 98, 108, 101])), none⟩,
  ⟨(some 3), .mov (.l 0), none⟩])
 (.cond (.v 3)
 (.skip)
 (.seq
 (.reg [⟨none, .bin .eql (.v 2) (.c (.str [97, 100, 100])), none⟩,
  ⟨(some 3), .mov (.l 0), none⟩])
 (.cond (.v 3)
 (.skip)
 (.seq
 (.reg [⟨none, .bin .eql (.v 2) (.c (.str [103, 114, 97, 110, 116])), none⟩,
  ⟨(some 3), .mov (.l 0), none⟩])
 (.cond (.v 3)
 (.skip)
 (.seq
 (.reg [⟨none, .bin .eql (.v 2) (.c (.str [111, 110])), none⟩,
  ⟨(some 3), .mov (.l 0), none⟩])
 (.cond (.v 3)
 (.skip)
 (.seq
 (.reg [⟨none, .bin .eql (.v 2) (.c (.str [114, 101, 118, 111, 107, 101])), none⟩,
  ⟨(some 3), .mov (.l 0), none⟩])
 (.cond (.v 3)
 (.skip)
 (.seq
 (.reg [⟨none, .bin .eql (.v 2) (.c (.str [97, 108, 108])), none⟩,
  ⟨(some 3), .mov (.l 0), none⟩])
 (.cond (.v 3)
 (.skip)
 (.seq
 (.reg [⟨none, .bin .eql (.v 2) (.c (.str [117, 115, 101, 114])), none⟩,
  ⟨(some 3), .mov (.l 0), none⟩])
 (.cond (.v 3)
 (.skip)
 (.seq
 (.reg [⟨none, .bin .eql (.v 2) (.c (.str [105, 110, 100, 101, 120])), none⟩,
  ⟨(some 3), .mov (.l 0), none⟩])
 (.cond (.v 3)
 (.skip)
 (.seq
 (.reg [⟨none, .bin .eql (.v 2) (.c (.str [115, 101, 113, 117, 101, 110, 99, 101])), none⟩,
  ⟨(some 3), .mov (.l 0), none⟩])
 (.cond (.v 3)
 (.skip)
 (.seq
 (.reg [⟨none, .bin .eql (.v 2) (.c (.str [115, 116, 97, 114, 116])), none⟩,
  ⟨(some 3), .mov (.l 0), none⟩])
 (.cond (.v 3)
 (.skip)
 (.seq
 (.reg [⟨none, .bin .eql (.v 2) (.c (.str [99, 97, 99, 104, 101])), none⟩,
  ⟨(some 3), .mov (.l 0), none⟩])
 (.cond (.v 3)
 (.skip)
 (.seq
 (.reg [⟨none, .bin .eql (.v 2) (.c (.str [118, 105, 101, 119])), none⟩,
  ⟨(some 3), .mov (.l 0), none⟩])
 (.cond (.v 3)
 (.skip)
 (.seq
 (.reg [⟨none, .bin .eql (.v 2) (.c (.str [105, 110, 118, 111, 107, 101, 114])), none⟩,
  ⟨(some 3), .mov (.l 0), none⟩])
 (.cond (.v 3)
 (.skip)
 (.seq
 (.reg [⟨none, .bin .eql (.v 2) (.c (.str [112, 97, 99, 107, 97, 103, 101])), none⟩,
  ⟨(some 3), .mov (.l 0), none⟩])
 (.cond (.v 3)
 (.skip)
 (.seq
 (.reg [⟨none, .bin .eql (.v 2) (.c (.str [112, 114, 105, 118, 97, 116, 101])), none⟩,
  ⟨(some 3), .mov (.l 0), none⟩])
 (.cond (.v 3)
 (.skip)
 (.seq
 (.reg [⟨none, .bin .eql (.v 2) (.c (.str [116, 114, 105, 103, 103, 101, 114])), none⟩,
  ⟨(some 3), .mov (.l 0), none⟩])
 (.cond (.v 3)
 (.skip)
 (.seq
 (.reg [⟨none, .bin .eql (.v 2) (.c (.str [98, 101, 102, 111, 114, 101])), none⟩,
  ⟨(some 3), .mov (.l 0), none⟩])
 (.cond (.v 3)
 (.skip)
 (.seq
 (.reg [⟨none, .bin .eql (.v 2) (.c (.str [97, 102, 116, 101, 114])), none⟩,
  ⟨(some 3), .mov (.l 0), none⟩])
 (.cond (.v 3)
 (.skip)
 (.seq
 (.reg [⟨none, .bin .eql (.v 2) (.c (.str [101, 97, 99, 104])), none⟩,
  ⟨(some 3), .mov (.l 0), none⟩])
 (.cond (.v 3)
 (.skip)
 (.seq
 (.reg [⟨none, .bin .eql (.v 2) (.c (.str [114, 111, 119])), none⟩,
  ⟨(some 3), .mov (.l 0), none⟩])
 (.cond (.v 3)
 (.skip)
 (.seq
 (.reg [⟨none, .bin .eql (.v 2) (.c (.str [100, 101, 102, 97, 117, 108, 116])), none⟩,
  ⟨(some 3), .mov (.l 0), none⟩])
 (.cond (.v 3)
 (.skip)
 (.seq
 (.reg [⟨none, .bin .eql (.v 2) (.c (.str [99, 111, 110, 115, 116, 114, 97, 105, 110, 116])), none⟩,
  ⟨(some 3), .mov (.l 0), none⟩])
 (.cond (.v 3)
 (.skip)
 (.seq
 (.reg [⟨none, .bin .eql (.v 2) (.c (.str [117, 110, 105, 113, 117, 101])), none⟩,
  ⟨(some 3), .mov (.l 0), none⟩])
 (.cond (.v 3)
 (.skip)
 (.seq
 (.reg [⟨none, .bin .eql (.v 2) (.c (.str [112, 114, 105, 109, 97, 114, 121])), none⟩,
  ⟨(some 3), .mov (.l 0), none⟩])
 (.cond (.v 3)
 (.skip)
 (.seq
 (.reg [⟨none, .bin .eql (.v 2) (.c (.str [107, 101, 121])), none⟩,
  ⟨(some 3), .mov (.l 0), none⟩])
 (.cond (.v 3)
 (.skip)
 (.seq
 (.reg [⟨none, .bin .eql (.v 2) (.c (.str [99, 104, 101, 99, 107])), none⟩,
  ⟨(some 3), .mov (.l 0), none⟩])
 (.cond (.v 3)
 (.skip)
 (.seq
 (.reg [⟨none, .bin .eql (.v 2) (.c (.str [102, 111, 114, 101, 105, 103, 110])), none⟩,
  ⟨(some 3), .mov (.l 0), none⟩])
 (.cond (.v 3)
 (.skip)
 (.seq
 (.reg [⟨none, .bin .eql (.v 2) (.c (.str [114, 101, 102, 101, 114, 101, 110, 99, 101, 115])), none⟩,
  ⟨(some 3), .mov (.l 0), none⟩])
 (.cond (.v 3)
 (.skip)
 (.seq
 (.reg [⟨none, .bin .eql (.v 2) (.c (.str [100, 101, 102, 101, 114, 114, 101, 100])), none⟩,
  ⟨(some 3), .mov (.l 0), none⟩])
 (.cond (.v 3)
 (.skip)
 (.reg [⟨none, .bin .eql (.v 2) (.c (.str [101, 120, 101, 99, 117, 116, 101])), none⟩,
  ⟨(some 3), .mov (.l 0), none⟩])))))))))))))))))))))))))))))))))))))))))))))))))))))))))))))))))))))))))))))))))))))))))))))))))))))))))))))))))))))))))))))))))))))))))))))))))))))))))))))))))))))))))))))))))))))))))))))))))))))))))))))))))))))))
 (.cond (.v 3)
 (.seq
 (.reg [⟨(some 1), .mov (.c (.bool true)), none⟩])
 (.ret))
 (.skip)))))
 (.seq
 (.reg [⟨(some 1), .mov (.c (.bool false)), none⟩])
 (.ret))),
 [.v 1]⟩
theorem vfun_lex_Word : funOf Go.Proofs.Tryz.prog ann F.lex_Word = some vf_lex_Word := by kernel_rfl
theorem call_lex_Word (args : List V) (m : Mem) (hl : args.length = 1) : callL MM F.lex_Word args m = (ex (callL MM) m.length vf_lex_Word.body (enter vf_lex_Word args) m).bind (leave m.length vf_lex_Word.res) := call_fn vfun_lex_Word rfl args m hl
def vf_slices_ContainsFunc_api_Value_api_Value : VFun := ⟨[0, 1, 4], 2,
 .seq
 (.reg [⟨(some 2), .mov (.c (.bool false)), none⟩])
 (.seq
 (.reg [⟨none, .mov (.v 0), none⟩,
  ⟨none, .mov (.v 1), none⟩,
  ⟨none, .call F.slices_IndexFunc_api_Value_api_Value [(.l 1), (.l 0)], none⟩,
  ⟨none, .bin .geq (.l 0) (.c (.int .i64 (0))), none⟩,
  ⟨(some 2), .mov (.l 0), none⟩])
 (.ret)),
 [.v 2]⟩
theorem vfun_slices_ContainsFunc_api_Value_api_Value : funOf Go.Proofs.Tryz.prog ann F.slices_ContainsFunc_api_Value_api_Value = some vf_slices_ContainsFunc_api_Value_api_Value := by kernel_rfl
theorem call_slices_ContainsFunc_api_Value_api_Value (args : List V) (m : Mem) (hl : args.length = 2) : callL MM F.slices_ContainsFunc_api_Value_api_Value args m = (ex (callL MM) m.length vf_slices_ContainsFunc_api_Value_api_Value.body (enter vf_slices_ContainsFunc_api_Value_api_Value args) m).bind (leave m.length vf_slices_ContainsFunc_api_Value_api_Value.res) := call_fn vfun_slices_ContainsFunc_api_Value_api_Value rfl args m hl
def vf_value_valid_1 : VFun := ⟨[0, 1, 2], 1,
 .seq
 (.reg [⟨(some 1), .box (.v 0) [], none⟩,
  ⟨(some 2), .mov (.c (.bool false)), none⟩])
 (.seq
 (.reg [⟨none, .load (some 3) (.v 1), none⟩,
  ⟨none, .call F.value_Valid [(.l 0)], none⟩,
  ⟨none, .not (.l 0), none⟩,
  ⟨(some 2), .mov (.l 0), none⟩])
 (.ret)),
 [.v 2]⟩
theorem vfun_value_valid_1 : funOf Go.Proofs.Tryz.prog ann F.value_valid_1 = some vf_value_valid_1 := by kernel_rfl
theorem call_value_valid_1 (args : List V) (m : Mem) (hl : args.length = 1) : callL MM F.value_valid_1 args m = (ex (callL MM) m.length vf_value_valid_1.body (enter vf_value_valid_1 args) m).bind (leave m.length vf_value_valid_1.res) := call_fn vfun_value_valid_1 rfl args m hl
def vf_ref02_named : VFun := ⟨[0, 2], 1,
 .seq
 (.reg [⟨(some 1), .mov (.c (.bool false)), none⟩])
 (.seq
 (.reg [⟨none, .mov (.v 0), none⟩,
  ⟨none, .call F.ref02_small [(.l 0)], none⟩,
  ⟨none, .mov (.l 0), none⟩,
  ⟨none, .mov (.v 0), (some (0, false))⟩,
  ⟨none, .call F.ref02_digit [(.l 0)], (some (1, false))⟩,
  ⟨none, .pick (.l 2) (.c (.bool true)) (.l 0), none⟩,
  ⟨none, .mov (.l 0), none⟩,
  ⟨none, .mov (.v 0), (some (0, false))⟩,
  ⟨none, .bin .eql (.l 0) (.c (.int .u8 (95))), (some (1, false))⟩,
  ⟨none, .pick (.l 2) (.c (.bool true)) (.l 0), none⟩,
  ⟨(some 1), .mov (.l 0), none⟩])
 (.ret)),
 [.v 1]⟩
theorem vfun_ref02_named : funOf Go.Proofs.Tryz.prog ann F.ref02_named = some vf_ref02_named := by kernel_rfl
theorem call_ref02_named (args : List V) (m : Mem) (hl : args.length = 1) : callL MM F.ref02_named args m = (ex (callL MM) m.length vf_ref02_named.body (enter vf_ref02_named args) m).bind (leave m.length vf_ref02_named.res) := call_fn vfun_ref02_named rfl args m hl
def vf_ref02_small : VFun := ⟨[0, 2], 1,
 .seq
 (.reg [⟨(some 1), .mov (.c (.bool false)), none⟩])
 (.seq
 (.reg [⟨none, .mov (.v 0), none⟩,
  ⟨none, .bin .geq (.l 0) (.c (.int .u8 (97))), none⟩,
  ⟨none, .mov (.l 0), none⟩,
  ⟨none, .mov (.v 0), (some (0, true))⟩,
  ⟨none, .bin .leq (.l 0) (.c (.int .u8 (122))), (some (1, true))⟩,
  ⟨none, .pick (.l 2) (.l 0) (.c (.bool false)), none⟩,
  ⟨(some 1), .mov (.l 0), none⟩])
 (.ret)),
 [.v 1]⟩
theorem vfun_ref02_small : funOf Go.Proofs.Tryz.prog ann F.ref02_small = some vf_ref02_small := by kernel_rfl
theorem call_ref02_small (args : List V) (m : Mem) (hl : args.length = 1) : callL MM F.ref02_small args m = (ex (callL MM) m.length vf_ref02_small.body (enter vf_ref02_small args) m).bind (leave m.length vf_ref02_small.res) := call_fn vfun_ref02_small rfl args m hl
def vf_value_isInt : VFun := ⟨[0, 2], 1,
 .seq
 (.reg [⟨(some 1), .mov (.c (.bool false)), none⟩])
 (.seq
 (.reg [⟨none, .mov (.v 0), none⟩,
  ⟨none, .bin .geq (.l 0) (.c (.int .i64 (-1099511627776))), none⟩,
  ⟨none, .mov (.l 0), none⟩,
  ⟨none, .mov (.v 0), (some (0, true))⟩,
  ⟨none, .bin .leq (.l 0) (.c (.int .i64 (1099511627776))), (some (1, true))⟩,
  ⟨none, .pick (.l 2) (.l 0) (.c (.bool false)), none⟩,
  ⟨(some 1), .mov (.l 0), none⟩])
 (.ret)),
 [.v 1]⟩
theorem vfun_value_isInt : funOf Go.Proofs.Tryz.prog ann F.value_isInt = some vf_value_isInt := by kernel_rfl
theorem call_value_isInt (args : List V) (m : Mem) (hl : args.length = 1) : callL MM F.value_isInt args m = (ex (callL MM) m.length vf_value_isInt.body (enter vf_value_isInt args) m).bind (leave m.length vf_value_isInt.res) := call_fn vfun_value_isInt rfl args m hl
def vf_value_isString : VFun := ⟨[0, 2], 1,
 .seq
 (.reg [⟨(some 1), .mov (.c (.bool false)), none⟩])
 (.seq
 (.reg [⟨none, .mov (.v 0), none⟩,
  ⟨none, .len true (.l 0), none⟩,
  ⟨none, .bin .leq (.l 0) (.c (.int .i64 (200))), none⟩,
  ⟨none, .mov (.l 0), none⟩,
  ⟨none, .mov (.v 0), (some (0, true))⟩,
  ⟨none, .call F.strings_ContainsFunc [(.l 0), (.c (.fn F.value_isString_1 [] []))], (some (1, true))⟩,
  ⟨none, .not (.l 0), (some (2, true))⟩,
  ⟨none, .pick (.l 3) (.l 0) (.c (.bool false)), none⟩,
  ⟨(some 1), .mov (.l 0), none⟩])
 (.ret)),
 [.v 1]⟩
theorem vfun_value_isString : funOf Go.Proofs.Tryz.prog ann F.value_isString = some vf_value_isString := by kernel_rfl
theorem call_value_isString (args : List V) (m : Mem) (hl : args.length = 1) : callL MM F.value_isString args m = (ex (callL MM) m.length vf_value_isString.body (enter vf_value_isString args) m).bind (leave m.length vf_value_isString.res) := call_fn vfun_value_isString rfl args m hl
def vf_strconv_FormatBool : VFun := ⟨[0, 2], 1,
 .seq
 (.reg [⟨(some 1), .mov (.c (.str [])), none⟩])
 (.seq
 (.reg [⟨none, .mov (.v 0), none⟩,
  ⟨none, .call F.internal_strconv_FormatBool [(.l 0)], none⟩,
  ⟨(some 1), .mov (.l 0), none⟩])
 (.ret)),
 [.v 1]⟩
theorem vfun_strconv_FormatBool : funOf Go.Proofs.Tryz.prog ann F.strconv_FormatBool = some vf_strconv_FormatBool := by kernel_rfl
theorem call_strconv_FormatBool (args : List V) (m : Mem) (hl : args.length = 1) : callL MM F.strconv_FormatBool args m = (ex (callL MM) m.length vf_strconv_FormatBool.body (enter vf_strconv_FormatBool args) m).bind (leave m.length vf_strconv_FormatBool.res) := call_fn vfun_strconv_FormatBool rfl args m hl
def vf_lex_small : VFun := ⟨[0, 2], 1,
 .seq
 (.reg [⟨(some 1), .mov (.c (.bool false)), none⟩])
 (.seq
 (.reg [⟨none, .mov (.v 0), none⟩,
  ⟨none, .bin .geq (.l 0) (.c (.int .u8 (97))), none⟩,
  ⟨none, .mov (.l 0), none⟩,
  ⟨none, .mov (.v 0), (some (0, true))⟩,
  ⟨none, .bin .leq (.l 0) (.c (.int .u8 (122))), (some (1, true))⟩,
  ⟨none, .pick (.l 2) (.l 0) (.c (.bool false)), none⟩,
  ⟨(some 1), .mov (.l 0), none⟩])
 (.ret)),
 [.v 1]⟩
theorem vfun_lex_small : funOf Go.Proofs.Tryz.prog ann F.lex_small = some vf_lex_small := by kernel_rfl
theorem call_lex_small (args : List V) (m : Mem) (hl : args.length = 1) : callL MM F.lex_small args m = (ex (callL MM) m.length vf_lex_small.body (enter vf_lex_small args) m).bind (leave m.length vf_lex_small.res) := call_fn vfun_lex_small rfl args m hl
def vf_slices_ContainsFunc_byte_byte : VFun := ⟨[0, 1, 4], 2,
 .seq
 (.reg [⟨(some 2), .mov (.c (.bool false)), none⟩])
 (.seq
 (.reg [⟨none, .mov (.v 0), none⟩,
  ⟨none, .mov (.v 1), none⟩,
  ⟨none, .call F.slices_IndexFunc_byte_byte [(.l 1), (.l 0)], none⟩,
  ⟨none, .bin .geq (.l 0) (.c (.int .i64 (0))), none⟩,
  ⟨(some 2), .mov (.l 0), none⟩])
 (.ret)),
 [.v 2]⟩
theorem vfun_slices_ContainsFunc_byte_byte : funOf Go.Proofs.Tryz.prog ann F.slices_ContainsFunc_byte_byte = some vf_slices_ContainsFunc_byte_byte := by kernel_rfl
theorem call_slices_ContainsFunc_byte_byte (args : List V) (m : Mem) (hl : args.length = 2) : callL MM F.slices_ContainsFunc_byte_byte args m = (ex (callL MM) m.length vf_slices_ContainsFunc_byte_byte.body (enter vf_slices_ContainsFunc_byte_byte args) m).bind (leave m.length vf_slices_ContainsFunc_byte_byte.res) := call_fn vfun_slices_ContainsFunc_byte_byte rfl args m hl
def vf_lex_isName_1 : VFun := ⟨[0, 2], 1,
 .seq
 (.reg [⟨(some 1), .mov (.c (.bool false)), none⟩])
 (.seq
 (.reg [⟨none, .mov (.v 0), none⟩,
  ⟨none, .call F.lex_small [(.l 0)], none⟩,
  ⟨none, .not (.l 0), none⟩,
  ⟨none, .mov (.l 0), none⟩,
  ⟨none, .mov (.v 0), (some (0, true))⟩,
  ⟨none, .call F.lex_digit [(.l 0)], (some (1, true))⟩,
  ⟨none, .not (.l 0), (some (2, true))⟩,
  ⟨none, .pick (.l 3) (.l 0) (.c (.bool false)), none⟩,
  ⟨none, .mov (.l 0), none⟩,
  ⟨none, .mov (.v 0), (some (0, true))⟩,
  ⟨none, .bin .neq (.l 0) (.c (.int .u8 (95))), (some (1, true))⟩,
  ⟨none, .pick (.l 2) (.l 0) (.c (.bool false)), none⟩,
  ⟨(some 1), .mov (.l 0), none⟩])
 (.ret)),
 [.v 1]⟩
theorem vfun_lex_isName_1 : funOf Go.Proofs.Tryz.prog ann F.lex_isName_1 = some vf_lex_isName_1 := by kernel_rfl
theorem call_lex_isName_1 (args : List V) (m : Mem) (hl : args.length = 1) : callL MM F.lex_isName_1 args m = (ex (callL MM) m.length vf_lex_isName_1.body (enter vf_lex_isName_1 args) m).bind (leave m.length vf_lex_isName_1.res) := call_fn vfun_lex_isName_1 rfl args m hl
def vf_lex_digit : VFun := ⟨[0, 2], 1,
 .seq
 (.reg [⟨(some 1), .mov (.c (.bool false)), none⟩])
 (.seq
 (.reg [⟨none, .mov (.v 0), none⟩,
  ⟨none, .bin .geq (.l 0) (.c (.int .u8 (48))), none⟩,
  ⟨none, .mov (.l 0), none⟩,
  ⟨none, .mov (.v 0), (some (0, true))⟩,
  ⟨none, .bin .leq (.l 0) (.c (.int .u8 (57))), (some (1, true))⟩,
  ⟨none, .pick (.l 2) (.l 0) (.c (.bool false)), none⟩,
  ⟨(some 1), .mov (.l 0), none⟩])
 (.ret)),
 [.v 1]⟩
theorem vfun_lex_digit : funOf Go.Proofs.Tryz.prog ann F.lex_digit = some vf_lex_digit := by kernel_rfl
theorem call_lex_digit (args : List V) (m : Mem) (hl : args.length = 1) : callL MM F.lex_digit args m = (ex (callL MM) m.length vf_lex_digit.body (enter vf_lex_digit args) m).bind (leave m.length vf_lex_digit.res) := call_fn vfun_lex_digit rfl args m hl
def l_slices_IndexFunc_api_Value_api_Value_0 : VC := .seq
 (.reg [⟨(some 6), .bin .lss (.v 5) (.v 4), none⟩])
 (.seq
 (.cond (.v 6)
 (.skip)
 (.exit 0))
 (.seq
 (.block 1 (.seq
 (.reg [⟨none, .mov (.v 5), none⟩,
  ⟨(some 3), .mov (.l 0), none⟩])
 (.seq
 (.reg [⟨none, .mov (.v 1), none⟩,
  ⟨none, .mov (.v 0), none⟩,
  ⟨none, .mov (.v 3), none⟩,
  ⟨none, .iaddr 3 (.l 1) (.l 0), none⟩,
  ⟨none, .load (some 3) (.l 0), none⟩,
  ⟨(some 7), .callv (.l 4) [(.l 0)], none⟩])
 (.cond (.v 7)
 (.seq
 (.reg [⟨none, .mov (.v 3), none⟩,
  ⟨(some 2), .mov (.l 0), none⟩])
 (.ret))
 (.skip)))))
 (.reg [⟨none, .bin .add (.v 5) (.c (.int .i64 (1))), none⟩,
  ⟨(some 5), .mov (.l 0), none⟩])))
def vf_slices_IndexFunc_api_Value_api_Value : VFun := ⟨[0, 1, 4, 5, 7, 8, 9, 16], 2,
 .seq
 (.reg [⟨(some 2), .mov (.c (.int .i64 (0))), none⟩])
 (.seq
 (.seq
 (.reg [⟨none, .mov (.v 0), none⟩,
  ⟨(some 4), .len false (.l 0), none⟩,
  ⟨(some 5), .mov (.c (.int .i64 (0))), none⟩])
 (.block 0 (.loop [2, 3, 6, 7] l_slices_IndexFunc_api_Value_api_Value_0)))
 (.seq
 (.reg [⟨(some 2), .mov (.c (.int .i64 (-1))), none⟩])
 (.ret))),
 [.v 2]⟩
theorem vfun_slices_IndexFunc_api_Value_api_Value : funOf Go.Proofs.Tryz.prog ann F.slices_IndexFunc_api_Value_api_Value = some vf_slices_IndexFunc_api_Value_api_Value := by kernel_rfl
theorem call_slices_IndexFunc_api_Value_api_Value (args : List V) (m : Mem) (hl : args.length = 2) : callL MM F.slices_IndexFunc_api_Value_api_Value args m = (ex (callL MM) m.length vf_slices_IndexFunc_api_Value_api_Value.body (enter vf_slices_IndexFunc_api_Value_api_Value args) m).bind (leave m.length vf_slices_IndexFunc_api_Value_api_Value.res) := call_fn vfun_slices_IndexFunc_api_Value_api_Value rfl args m hl
def vf_ref02_digit : VFun := ⟨[0, 2], 1,
 .seq
 (.reg [⟨(some 1), .mov (.c (.bool false)), none⟩])
 (.seq
 (.reg [⟨none, .mov (.v 0), none⟩,
  ⟨none, .bin .geq (.l 0) (.c (.int .u8 (48))), none⟩,
  ⟨none, .mov (.l 0), none⟩,
  ⟨none, .mov (.v 0), (some (0, true))⟩,
  ⟨none, .bin .leq (.l 0) (.c (.int .u8 (57))), (some (1, true))⟩,
  ⟨none, .pick (.l 2) (.l 0) (.c (.bool false)), none⟩,
  ⟨(some 1), .mov (.l 0), none⟩])
 (.ret)),
 [.v 1]⟩
theorem vfun_ref02_digit : funOf Go.Proofs.Tryz.prog ann F.ref02_digit = some vf_ref02_digit := by kernel_rfl
theorem call_ref02_digit (args : List V) (m : Mem) (hl : args.length = 1) : callL MM F.ref02_digit args m = (ex (callL MM) m.length vf_ref02_digit.body (enter vf_ref02_digit args) m).bind (leave m.length vf_ref02_digit.res) := call_fn vfun_ref02_digit rfl args m hl
def vf_strings_ContainsFunc : VFun := ⟨[0, 1, 4], 2,
 .seq
 (.reg [⟨(some 2), .mov (.c (.bool false)), none⟩])
 (.seq
 (.reg [⟨none, .mov (.v 0), none⟩,
  ⟨none, .mov (.v 1), none⟩,
  ⟨none, .call F.strings_IndexFunc [(.l 1), (.l 0)], none⟩,
  ⟨none, .bin .geq (.l 0) (.c (.int .i64 (0))), none⟩,
  ⟨(some 2), .mov (.l 0), none⟩])
 (.ret)),
 [.v 2]⟩
theorem vfun_strings_ContainsFunc : funOf Go.Proofs.Tryz.prog ann F.strings_ContainsFunc = some vf_strings_ContainsFunc := by kernel_rfl
theorem call_strings_ContainsFunc (args : List V) (m : Mem) (hl : args.length = 2) : callL MM F.strings_ContainsFunc args m = (ex (callL MM) m.length vf_strings_ContainsFunc.body (enter vf_strings_ContainsFunc args) m).bind (leave m.length vf_strings_ContainsFunc.res) := call_fn vfun_strings_ContainsFunc rfl args m hl
def vf_value_isString_1 : VFun := ⟨[0, 2], 1,
 .seq
 (.reg [⟨(some 1), .mov (.c (.bool false)), none⟩])
 (.seq
 (.reg [⟨none, .mov (.v 0), none⟩,
  ⟨none, .bin .lss (.l 0) (.c (.int .i32 (32))), none⟩,
  ⟨none, .mov (.l 0), none⟩,
  ⟨none, .mov (.v 0), (some (0, false))⟩,
  ⟨none, .bin .gtr (.l 0) (.c (.int .i32 (126))), (some (1, false))⟩,
  ⟨none, .pick (.l 2) (.c (.bool true)) (.l 0), none⟩,
  ⟨(some 1), .mov (.l 0), none⟩])
 (.ret)),
 [.v 1]⟩
theorem vfun_value_isString_1 : funOf Go.Proofs.Tryz.prog ann F.value_isString_1 = some vf_value_isString_1 := by kernel_rfl
theorem call_value_isString_1 (args : List V) (m : Mem) (hl : args.length = 1) : callL MM F.value_isString_1 args m = (ex (callL MM) m.length vf_value_isString_1.body (enter vf_value_isString_1 args) m).bind (leave m.length vf_value_isString_1.res) := call_fn vfun_value_isString_1 rfl args m hl
def vf_internal_strconv_FormatBool : VFun := ⟨[0, 2, 3], 1,
 .seq
 (.reg [⟨(some 1), .mov (.c (.str [])), none⟩])
 (.seq
 (.seq
 (.reg [⟨(some 2), .mov (.v 0), none⟩])
 (.cond (.v 2)
 (.seq
 (.reg [⟨(some 1), .mov (.c (.str [116, 114, 117, 101])), none⟩])
 (.ret))
 (.skip)))
 (.seq
 (.reg [⟨(some 1), .mov (.c (.str [102, 97, 108, 115, 101])), none⟩])
 (.ret))),
 [.v 1]⟩
theorem vfun_internal_strconv_FormatBool : funOf Go.Proofs.Tryz.prog ann F.internal_strconv_FormatBool = some vf_internal_strconv_FormatBool := by kernel_rfl
theorem call_internal_strconv_FormatBool (args : List V) (m : Mem) (hl : args.length = 1) : callL MM F.internal_strconv_FormatBool args m = (ex (callL MM) m.length vf_internal_strconv_FormatBool.body (enter vf_internal_strconv_FormatBool args) m).bind (leave m.length vf_internal_strconv_FormatBool.res) := call_fn vfun_internal_strconv_FormatBool rfl args m hl
def l_slices_IndexFunc_byte_byte_0 : VC := .seq
 (.reg [⟨(some 6), .bin .lss (.v 5) (.v 4), none⟩])
 (.seq
 (.cond (.v 6)
 (.skip)
 (.exit 0))
 (.seq
 (.block 1 (.seq
 (.reg [⟨none, .mov (.v 5), none⟩,
  ⟨(some 3), .mov (.l 0), none⟩])
 (.seq
 (.reg [⟨none, .mov (.v 1), none⟩,
  ⟨none, .mov (.v 0), none⟩,
  ⟨none, .mov (.v 3), none⟩,
  ⟨none, .iaddr 1 (.l 1) (.l 0), none⟩,
  ⟨none, .load none (.l 0), none⟩,
  ⟨(some 7), .callv (.l 4) [(.l 0)], none⟩])
 (.cond (.v 7)
 (.seq
 (.reg [⟨none, .mov (.v 3), none⟩,
  ⟨(some 2), .mov (.l 0), none⟩])
 (.ret))
 (.skip)))))
 (.reg [⟨none, .bin .add (.v 5) (.c (.int .i64 (1))), none⟩,
  ⟨(some 5), .mov (.l 0), none⟩])))
def vf_slices_IndexFunc_byte_byte : VFun := ⟨[0, 1, 4, 5, 7, 8, 9, 16], 2,
 .seq
 (.reg [⟨(some 2), .mov (.c (.int .i64 (0))), none⟩])
 (.seq
 (.seq
 (.reg [⟨none, .mov (.v 0), none⟩,
  ⟨(some 4), .len false (.l 0), none⟩,
  ⟨(some 5), .mov (.c (.int .i64 (0))), none⟩])
 (.block 0 (.loop [2, 3, 6, 7] l_slices_IndexFunc_byte_byte_0)))
 (.seq
 (.reg [⟨(some 2), .mov (.c (.int .i64 (-1))), none⟩])
 (.ret))),
 [.v 2]⟩
theorem vfun_slices_IndexFunc_byte_byte : funOf Go.Proofs.Tryz.prog ann F.slices_IndexFunc_byte_byte = some vf_slices_IndexFunc_byte_byte := by kernel_rfl
theorem call_slices_IndexFunc_byte_byte (args : List V) (m : Mem) (hl : args.length = 2) : callL MM F.slices_IndexFunc_byte_byte args m = (ex (callL MM) m.length vf_slices_IndexFunc_byte_byte.body (enter vf_slices_IndexFunc_byte_byte args) m).bind (leave m.length vf_slices_IndexFunc_byte_byte.res) := call_fn vfun_slices_IndexFunc_byte_byte rfl args m hl
def vf_strings_IndexFunc : VFun := ⟨[0, 1, 4], 2,
 .seq
 (.reg [⟨(some 2), .mov (.c (.int .i64 (0))), none⟩])
 (.seq
 (.reg [⟨none, .mov (.v 0), none⟩,
  ⟨none, .mov (.v 1), none⟩,
  ⟨none, .call F.strings_indexFunc [(.l 1), (.l 0), (.c (.bool true))], none⟩,
  ⟨(some 2), .mov (.l 0), none⟩])
 (.ret)),
 [.v 2]⟩
theorem vfun_strings_IndexFunc : funOf Go.Proofs.Tryz.prog ann F.strings_IndexFunc = some vf_strings_IndexFunc := by kernel_rfl
theorem call_strings_IndexFunc (args : List V) (m : Mem) (hl : args.length = 2) : callL MM F.strings_IndexFunc args m = (ex (callL MM) m.length vf_strings_IndexFunc.body (enter vf_strings_IndexFunc args) m).bind (leave m.length vf_strings_IndexFunc.res) := call_fn vfun_strings_IndexFunc rfl args m hl
def l_strings_indexFunc_0 : VC := .seq
 (.reg [⟨(some 7), .next (.v 6), none⟩,
  ⟨(some 8), .ext (.v 7) 0, none⟩])
 (.seq
 (.cond (.v 8)
 (.skip)
 (.exit 0))
 (.block 1 (.seq
 (.reg [⟨none, .ext (.v 7) 1, none⟩,
  ⟨none, .ext (.v 7) 2, none⟩,
  ⟨(some 4), .mov (.l 1), none⟩,
  ⟨(some 5), .mov (.l 1), none⟩])
 (.seq
 (.reg [⟨none, .mov (.v 1), none⟩,
  ⟨none, .mov (.v 5), none⟩,
  ⟨none, .callv (.l 1) [(.l 0)], none⟩,
  ⟨none, .mov (.v 2), none⟩,
  ⟨(some 9), .eqs .bool false (.l 1) (.l 0), none⟩])
 (.cond (.v 9)
 (.seq
 (.reg [⟨none, .mov (.v 4), none⟩,
  ⟨(some 3), .mov (.l 0), none⟩])
 (.ret))
 (.skip))))))
def vf_strings_indexFunc : VFun := ⟨[0, 1, 2, 6, 7, 8, 10, 11, 12, 19], 3,
 .seq
 (.reg [⟨(some 3), .mov (.c (.int .i64 (0))), none⟩])
 (.seq
 (.seq
 (.reg [⟨none, .mov (.v 0), none⟩,
  ⟨(some 6), .range (.l 0), none⟩])
 (.block 0 (.loop [0, 3, 4, 5, 7, 8, 9] l_strings_indexFunc_0)))
 (.seq
 (.reg [⟨(some 3), .mov (.c (.int .i64 (-1))), none⟩])
 (.ret))),
 [.v 3]⟩
theorem vfun_strings_indexFunc : funOf Go.Proofs.Tryz.prog ann F.strings_indexFunc = some vf_strings_indexFunc := by kernel_rfl
theorem call_strings_indexFunc (args : List V) (m : Mem) (hl : args.length = 3) : callL MM F.strings_indexFunc args m = (ex (callL MM) m.length vf_strings_indexFunc.body (enter vf_strings_indexFunc args) m).bind (leave m.length vf_strings_indexFunc.res) := call_fn vfun_strings_indexFunc rfl args m hl
end Go.Vm.Redo
-- RW0: Walks: redo's writer.
set_option maxRecDepth 100000
namespace Go.Vm.Redo
open Go Go.Vm

/-- A writer's memory once it has some bytes. -/
def putW (m : Mem) (r k : Nat) (born : Bool) (bs : List UInt8) : Mem := upd (upd m k (.buf 1 born (bytesV bs))) r (.cells [.gs k bs.length])

structure IsW (m : Mem) (r k : Nat) (born : Bool) (bs : List UInt8) : Prop where
  cell : look m r = some (.cells [.gs k bs.length])
  row : look m k = some (.buf 1 born (bytesV bs))
  lt : k < r

section
variable {m : Mem} {r k : Nat} {born : Bool} {bs : List UInt8}
theorem IsW.ne (h : IsW m r k born bs) : r ≠ k := by have := h.lt; omega
theorem IsW.put (h : IsW m r k born bs) (ys : List UInt8) : IsW (putW m r k born ys) r k born ys := by
  have h1 := look_lt h.cell
  have h2 := look_lt h.row
  refine ⟨look_upd (by rw [upd_len]; exact h1), ?_, h.lt⟩
  unfold putW
  rw [look_upd_other (Ne.symm h.ne), look_upd h2]
theorem put_put (hne : r ≠ k) (xs ys : List UInt8) : putW (putW m r k born xs) r k born ys = putW m r k born ys := by
  unfold putW
  rw [upd_comm hne, upd_upd, upd_upd]
theorem put_self (h : IsW m r k born bs) : putW m r k born bs = m := by
  unfold putW
  rw [upd_self h.row, upd_self h.cell]
@[simp] theorem put_len {xs : List UInt8} : (putW m r k born xs).length = m.length := by simp [putW]
theorem IsW.cons (h : IsW m r k born bs) (o : O) : IsW (o :: m) r k born bs :=
  ⟨by rw [look_cons_old (look_lt h.cell)]; exact h.cell, by rw [look_cons_old (look_lt h.row)]; exact h.row, h.lt⟩
theorem putW_cons {ys : List UInt8} (h : IsW m r k born bs) (o : O) : putW (o :: m) r k born ys = o :: putW m r k born ys := by
  have h1 := look_lt h.cell
  have h2 := look_lt h.row
  unfold putW
  rw [upd_cons_old h2, upd_cons_old (by rw [upd_len]; exact h1)]
end

theorem u8_wrap (z : Int) : V.int .u8 (IntKind.u8.wrap z) = .int .u8 ((UInt8.ofNat (z % 256).toNat).toNat : Int) := by
  have h : IntKind.u8.wrap z = z % 256 := by simp [IntKind.wrap, IntKind.signed, IntKind.bits]
  rw [h]
  congr 1
  rw [UInt8.toNat_ofNat']
  omega
theorem beB_len (x : Int) : ∀ k, (beB x k).length = k
  | 0 => rfl
  | k + 1 => by simp [beB, beB_len x k]

theorem number_round (m : Mem) (r k : Nat) (born : Bool) (bs : List UInt8) (h : IsW m r k born bs) (hb : bs.length < 100000000) (x : Int) (j : Nat) (hj : j < 8) (v2 v4 : V) :
    ex (callL MM) m.length l_redo_writer_number_0 [.ptr r 0, .int .i64 x, v2, .int .i64 j, v4] m = some (.nrm [.ptr r 0, .int .i64 x, v2, .int .i64 ((j : Int) - 1), .bool true] (putW m r k born (bs ++ [UInt8.ofNat (x.fdiv (2 ^ (Nat.min (8 * j) 64)) % 256).toNat]))) := by
  have h1 := look_lt h.cell
  have h2 := look_lt h.row
  have hc := h.cell
  have hr := h.row
  have w1 : IntKind.i64.wrap (8 * (j : Int)) = 8 * (j : Int) := wrap64_id (by omega) (by omega)
  have w2 : ¬ (8 * (j : Int) < 0) := by omega
  have w3 : (8 * (j : Int)).toNat = 8 * j := by omega
  have w4 : IntKind.i64.wrap ((j : Int) - 1) = (j : Int) - 1 := wrap64_id (by omega) (by omega)
  have w5 : IntKind.i64.bits = 64 := rfl
  have w6 : bs.length + 1 ≤ 140737488355328 := by omega
  have hne := fun o => look_upd_other (m := m) (o := o) h.ne
  have hlt := h.lt
  simp [l_redo_writer_number_0, hlt, hc, hr, h1, h2, w1, w2, w3, w4, w5, w6, hne, drawEnd_nil, putW, bytesV_append, bytesV_len]
  rw [u8_wrap]; rfl

theorem number_out (b : Nat) (m : Mem) (r : Nat) (x : Int) (v2 v4 : V) :
    ex (callL MM) b l_redo_writer_number_0 [.ptr r 0, .int .i64 x, v2, .int .i64 (-1), v4] m = some (.exit 0 [.ptr r 0, .int .i64 x, v2, .int .i64 (-1), .bool false] m) := by
  simp [l_redo_writer_number_0]

theorem number_loop (r k : Nat) (born : Bool) (x : Int) : ∀ (j : Nat) (m : Mem) (bs : List UInt8) (v2 v4 : V), IsW m r k born bs → bs.length + j < 100000000 → j ≤ 8 →
    loopL (callL MM) m.length m.length [2, 4] l_redo_writer_number_0 [.ptr r 0, .int .i64 x, v2, .int .i64 ((j : Int) - 1), v4] m = some (.exit 0 [.ptr r 0, .int .i64 x, .undef, .int .i64 (-1), .bool false] (putW m r k born (bs ++ beB x j)))
  | 0, m, bs, v2, v4, h, hb, hj => by
    have h1 := look_lt h.cell
    refine loop_end (fresh_flat rfl (by simp [h1])) ?_ rfl
    rw [beB, List.append_nil, put_self h]
    exact number_out m.length m r x .undef .undef
  | j + 1, m, bs, v2, v4, h, hb, hj => by
    have h1 := look_lt h.cell
    have hr := number_round m r k born bs h (by omega) x j (by omega) .undef .undef
    have e : ((j + 1 : Nat) : Int) - 1 = (j : Int) := by omega
    rw [e, loop_next (fresh_flat rfl (by simp [h1])) hr]
    have hl := number_loop r k born x j _ _ .undef (.bool true) (h.put (bs ++ [UInt8.ofNat (x.fdiv (2 ^ (Nat.min (8 * j) 64)) % 256).toNat])) (by simp; omega) (by omega)
    rw [put_len, put_put h.ne, List.append_assoc] at hl
    exact hl

/-- redo.writer.number. -/
theorem number_ok (m : Mem) (r k : Nat) (born : Bool) (bs : List UInt8) (h : IsW m r k born bs) (x : Int) (j : Nat) (hb : bs.length + j < 100000000) (hj : j ≤ 8) :
    callL MM F.redo_writer_number [.ptr r 0, .int .i64 x, .int .i64 j] m = some (.ret [] (putW m r k born (bs ++ beB x j))) := by
  rw [call_redo_writer_number _ _ rfl]
  have hl := number_loop r k born x j m bs (.int .i64 j) .undef h hb hj
  have w1 : IntKind.i64.wrap ((j : Int) - 1) = (j : Int) - 1 := wrap64_id (by omega) (by omega)
  simp [vf_redo_writer_number, w1, hl, dropTo_len]

/-- redo.writer.text. -/
theorem text_ok (m : Mem) (r k : Nat) (born : Bool) (bs : List UInt8) (h : IsW m r k born bs) (s : List UInt8) (hb : bs.length + s.length < 10000000) :
    callL MM F.redo_writer_text [.ptr r 0, .str s] m = some (.ret [] (putW m r k born (bs ++ textB s))) := by
  rw [call_redo_writer_text _ _ rfl]
  have hn : callL MM F.redo_writer_number [.ptr r 0, .int .i64 s.length, .int .i64 2] m = _ := number_ok m r k born bs h s.length 2 (by omega) (by omega)
  have h' := h.put (bs ++ beB s.length 2)
  have hlt := h'.lt
  have hc := h'.cell
  have hr := h'.row
  have h1 := look_lt hc
  have h2 := look_lt hr
  have hne := fun o => look_upd_other (m := putW m r k born (bs ++ beB s.length 2)) (o := o) h.ne
  have hl2 : (bs ++ beB s.length 2).length = bs.length + 2 := by simp [beB_len]
  have hfin : upd (upd (putW m r k born (bs ++ beB s.length 2)) k (.buf 1 born (bytesV (bs ++ beB s.length 2) ++ bytesV s))) r (.cells [.gs k (bs.length + 2 + s.length)]) = putW m r k born (bs ++ textB s) := by
    have e : bs.length + 2 + s.length = (bs ++ beB s.length 2 ++ s).length := by simp [beB_len]; omega
    rw [e, ← bytesV_append]
    show putW (putW m r k born (bs ++ beB s.length 2)) r k born (bs ++ beB s.length 2 ++ s) = _
    rw [put_put h.ne, textB, List.append_assoc]
  rw [hl2] at hc
  have w1 : bs.length + 2 + s.length ≤ 140737488355328 := by omega
  have hlw : (putW m r k born (bs ++ textB s)).length ≤ m.length := by simp
  simp only [put_len] at h1 h2
  simp [vf_redo_writer_text, hn, hc, hr, hlt, h1, h2, hl2, w1, hne, bytesV_len, hfin, dropTo_len]
end Go.Vm.Redo
-- RW1: Walks: redo's writer of rows and fields.
set_option maxRecDepth 100000
namespace Go.Vm.Redo
open Go Go.Vm

theorem RowR.shape (x : RowR) : ∃ nl sz, x.toV = .sl nl sz (x.vals.map Val.toV) ∧ (sz = 3 ∨ x.vals = []) := by
  cases x with
  | nil sz => exact ⟨true, sz, rfl, .inr rfl⟩
  | mk l => exact ⟨false, 3, rfl, .inl rfl⟩

@[simp] theorem rowV_nil (sz : Nat) : (RowR.nil sz).toV = .sl true sz [] := rfl
@[simp] theorem RowR.shut (m : Mem) (x : RowR) : V.shut m x.toV = some x.toV := by cases x <;> rfl
@[simp] theorem RowR.under (n : Nat) (x : RowR) : V.under n x.toV = true := by cases x <;> rfl
@[simp] theorem RowR.fits (x : RowR) : V.fits 1 x.toV = true := by cases x <;> rfl
@[simp] theorem RowR.cells (x : RowR) : V.cells x.toV = [x.toV] := by cases x <;> rfl

def Val.weight (v : Val) : Nat := v.t.length + 16
def weights (l : List Val) : Nat := (l.map Val.weight).sum
def Rec.weight (x : Rec) : Nat := x.owner.length + x.name.length + x.text.length + weights x.row.vals

theorem valB_len (v : Val) : (valB v).length ≤ v.weight := by
  unfold valB Val.weight textB
  rw [List.length_append, beB_len]
  split
  · rw [beB_len]; omega
  · split
    · rw [beB_len]; omega
    · split
      · rw [List.length_append, beB_len]; omega
      · simp
theorem weights_cons (v : Val) (l : List Val) : weights (v :: l) = v.weight + weights l := by simp [weights]
theorem len_weights : ∀ l : List Val, 16 * l.length ≤ weights l
  | [] => by simp [weights]
  | v :: l => by
    have := len_weights l
    rw [weights_cons, List.length_cons]
    unfold Val.weight; omega

theorem row_round (m : Mem) (r k : Nat) (born : Bool) (bs : List UInt8) (h : IsW m r k born bs) (nl : Bool) (vals : List V) (i : Nat) (v : Val) (hv : vals[i]? = some v.toV)
    (hb : bs.length + v.t.length < 1000000) (hi : vals.length < 1000000) :
    ∃ w2 w6 w7 w8 w9 w10, ex (callL MM) m.length l_redo_writer_row_0 [.ptr r 0, .undef, .undef, .sl nl 3 vals, .int .i64 vals.length, .int .i64 i, .undef, .undef, .undef, .undef, .undef] m =
      some (.nrm [.ptr r 0, .undef, w2, .sl nl 3 vals, .int .i64 vals.length, .int .i64 ((i : Int) + 1), w6, w7, w8, w9, w10] ([.cells [.int .i64 v.kd, .int .i64 v.n, .str v.t]] ++ putW m r k born (bs ++ valB v))) := by
  obtain ⟨kd, n, t⟩ := v
  have hv : vals[i]? = some (.agg [.int .i64 kd, .int .i64 n, .str t]) := hv
  have hb : bs.length + t.length < 1000000 := hb
  have hl1 : (bs ++ beB kd 1).length = bs.length + 1 := by simp [beB_len]
  have hlt : i < vals.length := (List.getElem?_eq_some_iff.1 hv).1
  have hlt' : (i : Int) < (vals.length : Int) := by omega
  have w1 : IntKind.i64.wrap ((i : Int) + 1) = (i : Int) + 1 := wrap64_id (by omega) (by omega)
  have hw := h.cons (.cells [.int .i64 kd, .int .i64 n, .str t])
  have h1 : callL MM F.redo_writer_number [.ptr r 0, .int .i64 kd, .int .i64 1] (.cells [.int .i64 kd, .int .i64 n, .str t] :: m) = some (.ret [] (.cells [.int .i64 kd, .int .i64 n, .str t] :: putW m r k born (bs ++ beB kd 1))) := by
    rw [← putW_cons h]; exact number_ok _ r k born _ hw kd 1 (by omega) (by omega)
  have hp := h.put (bs ++ beB kd 1)
  have hpw := hp.cons (.cells [.int .i64 kd, .int .i64 n, .str t])
  have h8 : ∀ j : Nat, j ≤ 8 → callL MM F.redo_writer_number [.ptr r 0, .int .i64 n, .int .i64 j] (.cells [.int .i64 kd, .int .i64 n, .str t] :: putW m r k born (bs ++ beB kd 1)) = some (.ret [] (.cells [.int .i64 kd, .int .i64 n, .str t] :: putW m r k born (bs ++ (beB kd 1 ++ beB n j)))) := fun j hj => by
    have := number_ok _ r k born _ hpw n j (by omega) hj
    rw [putW_cons hp, put_put h.ne, List.append_assoc] at this
    exact this
  have h88 : callL MM F.redo_writer_number [.ptr r 0, .int .i64 n, .int .i64 8] (.cells [.int .i64 kd, .int .i64 n, .str t] :: putW m r k born (bs ++ beB kd 1)) = _ := h8 8 (by omega)
  have h81 : callL MM F.redo_writer_number [.ptr r 0, .int .i64 n, .int .i64 1] (.cells [.int .i64 kd, .int .i64 n, .str t] :: putW m r k born (bs ++ beB kd 1)) = _ := h8 1 (by omega)
  have ht : callL MM F.redo_writer_text [.ptr r 0, .str t] (.cells [.int .i64 kd, .int .i64 n, .str t] :: putW m r k born (bs ++ beB kd 1)) = some (.ret [] (.cells [.int .i64 kd, .int .i64 n, .str t] :: putW m r k born (bs ++ (beB kd 1 ++ textB t)))) := by
    have := text_ok _ r k born _ hpw t (by omega)
    rw [putW_cons hp, put_put h.ne, List.append_assoc] at this
    exact this
  have hlk1 : look (.cells [.int .i64 kd, .int .i64 n, .str t] :: m) m.length = some _ := look_cons_new
  have hlk2 : look (.cells [.int .i64 kd, .int .i64 n, .str t] :: putW m r k born (bs ++ beB kd 1)) m.length = some _ := look_new (by simp)
  by_cases k1 : kd = 1
  · subst k1
    simp [l_redo_writer_row_0, hlt', hv, hlk1, hlk2, h1, h88, w1, valB, upd_cons_new]
  by_cases k3 : kd = 3
  · subst k3
    simp [l_redo_writer_row_0, hlt', hv, hlk1, hlk2, h1, h81, w1, valB, upd_cons_new]
  by_cases k2 : kd = 2
  · subst k2
    simp [l_redo_writer_row_0, hlt', hv, hlk1, hlk2, h1, ht, w1, valB, upd_cons_new]
  have b1 : (kd == 1) = false := by simpa using k1
  have b2 : (kd == 2) = false := by simpa using k2
  have b3 : (kd == 3) = false := by simpa using k3
  simp [l_redo_writer_row_0, hlt', hv, hlk1, hlk2, h1, k1, k2, k3, b1, b2, b3, w1, valB, upd_cons_new]

/-- redo.writer.row. -/
theorem row_ok (m : Mem) (r k : Nat) (born : Bool) (bs : List UInt8) (h : IsW m r k born bs) (x : RowR) (hb : bs.length + weights x.vals < 900000) :
    callL MM F.redo_writer_row [.ptr r 0, x.toV] m = some (.ret [] (putW m r k born (bs ++ rowB x.vals))) := by
  obtain ⟨nl, sz, hx, hsz⟩ := x.shape
  rw [hx, call_redo_writer_row _ _ rfl]
  generalize x.vals = l at *
  have hlw := len_weights l
  have hlen : l.length < 900000 := by omega
  have hn : callL MM F.redo_writer_number [.ptr r 0, .int .i64 l.length, .int .i64 1] m = _ := number_ok m r k born bs h l.length 1 (by omega) (by omega)
  have hw := h.put (bs ++ beB l.length 1)
  have h1 := look_lt hw.cell
  rw [put_len] at h1
  have hq := loop_list (cf := callL MM) (b := m.length) (L := m.length) (kill := [1, 2, 6, 7, 8, 9, 10]) (c := l_redo_writer_row_0) l
    (fun i (_ : List UInt8) => [.ptr r 0, .undef, .undef, .sl nl sz (l.map Val.toV), .int .i64 l.length, .int .i64 i, .undef, .undef, .undef, .undef, .undef])
    (fun _ ys => putW m r k born ys) (fun i ys => ys.length + weights (l.drop i) < 900100)
    (fun rest _ ys => .exit 0 [.ptr r 0, .undef, .undef, .sl nl sz (l.map Val.toV), .int .i64 l.length, .int .i64 l.length, .bool false, .undef, .undef, .undef, .undef] (putW m r k born (ys ++ rest.flatMap valB)))
    (fun ys hI => by
      refine ⟨?_, rfl⟩
      simp [l_redo_writer_row_0])
    (fun i v rest ys hv hd hI => by
      refine .inr ?_
      have hs : sz = 3 := by
        rcases hsz with h | h
        · exact h
        · rw [h] at hv; simp at hv
      subst hs
      rw [hd, weights_cons] at hI
      have hvw : v.t.length ≤ v.weight := by unfold Val.weight; omega
      obtain ⟨w2, w6, w7, w8, w9, w10, hr⟩ := row_round (putW m r k born ys) r k born ys (h.put ys) nl (l.map Val.toV) i v (by rw [List.getElem?_map, hv]; rfl) (by omega) (by rw [List.length_map]; omega)
      rw [put_len, put_put h.ne, List.length_map] at hr
      refine ⟨_, _, ys ++ valB v, hr, ?_, ?_, ?_⟩
      · rw [fresh_news (by simp) _ (by simp [look_lt h.cell])]; rfl
      · have := valB_len v
        have hnext : l.drop (i + 1) = rest := by rw [← List.drop_drop, hd]; rfl
        rw [hnext, List.length_append]; omega
      · simp [List.append_assoc])
    l 0 (bs ++ beB l.length 1) [.ptr r 0, .sl nl sz (l.map Val.toV), .undef, .sl nl sz (l.map Val.toV), .int .i64 l.length, .int .i64 0, .undef, .undef, .undef, .undef, .undef] (putW m r k born (bs ++ beB l.length 1)) rfl (by omega)
    (by simp [beB_len]; omega) (by rw [fresh_flat (by simp) (by simp [h1])]; rfl)
  simp [vf_redo_writer_row, hn, hq, dropTo_len, rowB]

/-- redo.writer.field. -/
theorem field_ok (m : Mem) (r k : Nat) (born : Bool) (bs : List UInt8) (h : IsW m r k born bs) (x : Rec) (f : Int) (hb : bs.length + x.weight < 800000) :
    callL MM F.redo_writer_field [.ptr r 0, x.toV, .int .i64 f] m = some (.ret [] (putW m r k born (bs ++ fieldB x f))) := by
  rw [call_redo_writer_field _ _ rfl]
  unfold Rec.weight at hb
  have hw := h.cons (.cells x.cells)
  have hn : ∀ z : Int, callL MM F.redo_writer_number [.ptr r 0, .int .i64 z, .int .i64 8] (.cells x.cells :: m) = some (.ret [] (.cells x.cells :: putW m r k born (bs ++ beB z 8))) := fun z => by
    rw [← putW_cons h]; exact number_ok _ r k born _ hw z 8 (by omega) (by omega)
  have ht : ∀ s : List UInt8, s.length < 900000 → callL MM F.redo_writer_text [.ptr r 0, .str s] (.cells x.cells :: m) = some (.ret [] (.cells x.cells :: putW m r k born (bs ++ textB s))) := fun s hs => by
    rw [← putW_cons h]; exact text_ok _ r k born _ hw s (by omega)
  have hr : callL MM F.redo_writer_row [.ptr r 0, x.row.toV] (.cells x.cells :: m) = some (.ret [] (.cells x.cells :: putW m r k born (bs ++ rowB x.row.vals))) := by
    rw [← putW_cons h]; exact row_ok _ r k born _ hw x.row (by omega)
  have h1 := ht x.owner (by omega)
  have h2 := ht x.name (by omega)
  have h3 := ht x.text (by omega)
  have hd : ∀ ys, dropTo m.length (.cells x.cells :: putW m r k born ys) = putW m r k born ys := fun ys => dropTo_one put_len
  have hd0 : dropTo m.length (.cells x.cells :: m) = m := dropTo_one rfl
  have h0 : putW m r k born bs = m := put_self h
  have lk : look (.cells x.cells :: m) m.length = some (.cells x.cells) := look_cons_new
  unfold Rec.toV
  simp only [Rec.cells] at *
  by_cases f0 : f = 0
  · subst f0; simp [vf_redo_writer_field, lk, hn, h1, h2, h3, hr, hd, fieldB]
  by_cases f1 : f = 1
  · subst f1; simp [vf_redo_writer_field, lk, hn, h1, h2, h3, hr, hd, fieldB]
  by_cases f2 : f = 2
  · subst f2; simp [vf_redo_writer_field, lk, hn, h1, h2, h3, hr, hd, fieldB]
  by_cases f3 : f = 3
  · subst f3; simp [vf_redo_writer_field, lk, hn, h1, h2, h3, hr, hd, fieldB]
  by_cases f4 : f = 4
  · subst f4; simp [vf_redo_writer_field, lk, hn, h1, h2, h3, hr, hd, fieldB]
  by_cases f5 : f = 5
  · subst f5; simp [vf_redo_writer_field, lk, hn, h1, h2, h3, hr, hd, fieldB]
  by_cases f6 : f = 6
  · subst f6; simp [vf_redo_writer_field, lk, hn, h1, h2, h3, hr, hd, fieldB]
  by_cases f7 : f = 7
  · subst f7; simp [vf_redo_writer_field, lk, hn, h1, h2, h3, hr, hd, fieldB]
  have bb : ∀ g : Int, f ≠ g → (f == g) = false := fun g h => by simpa using h
  simp [vf_redo_writer_field, lk, hd0, h0, fieldB, f0, f1, f2, f3, f4, f5, f6, f7, bb 0 f0, bb 1 f1, bb 2 f2, bb 3 f3, bb 4 f4, bb 5 f5, bb 6 f6, bb 7 f7]
end Go.Vm.Redo
-- RR0: Walks: redo's reader.
set_option maxRecDepth 100000
namespace Go.Vm.Redo
open Go Go.Vm

/-- A reader's memory. -/
def rO (nl : Bool) (s : RS) : O := .cells [.sl nl 1 (bytesV s.1), .bool s.2]

theorem take_ok (m : Mem) (r : Nat) (nl : Bool) (s : RS) (h : look m r = some (rO nl s)) (n : Nat) (hn : n ≤ s.1.length) :
    callL MM F.redo_reader_take [.ptr r 0, .int .i64 n] m = some (.ret [.sl nl 1 (bytesV (s.1.take n))] (upd m r (rO nl (s.1.drop n, s.2)))) := by
  obtain ⟨bs, bad⟩ := s
  have hlt := look_lt h
  simp only [rO] at h ⊢
  have hn : n ≤ bs.length := hn
  have hn' : n ≤ (bytesV bs).length := by rw [bytesV_len]; exact hn
  have hgt : ¬ ((bs.length : Int) < (n : Int)) := by omega
  rw [call_redo_reader_take _ _ rfl, ← bytesV_take, ← bytesV_drop]
  have htk : (bytesV bs).take bs.length = bytesV bs := by rw [bytesV_take, List.take_length]
  simp [vf_redo_reader_take, h, hgt, hlt, hn, bytesV_len, htk]

theorem take_bad (m : Mem) (r : Nat) (nl : Bool) (s : RS) (h : look m r = some (rO nl s)) (n : Nat) (hn : s.1.length < n) (hs : n < 1000000000) :
    callL MM F.redo_reader_take [.ptr r 0, .int .i64 n] m = some (.ret [.sl false 1 (bytesV (List.replicate (min n 8) 0))] (upd m r (rO nl (s.1, true)))) := by
  obtain ⟨bs, bad⟩ := s
  have hlt := look_lt h
  simp only [rO] at h ⊢
  have hn : bs.length < n := hn
  have hgt : ((bs.length : Int) < (n : Int)) := by omega
  have hrep : bytesV (List.replicate (min n 8) 0) = List.replicate (min n 8) (.int .u8 0) := by simp [bytesV]
  rw [call_redo_reader_take _ _ rfl, hrep]
  by_cases h8 : (8 : Int) < n
  · have e : min n 8 = 8 := by omega
    rw [e]
    simp [vf_redo_reader_take, h, hgt, hlt, h8, bytesV_len]
  · have e : min n 8 = n := by omega
    have e2 : (n : Int) ≤ 140737488355328 := by omega
    rw [e]
    simp [vf_redo_reader_take, h, hgt, hlt, h8, e2, bytesV_len]

theorem or_low (a : BitVec 64) (c : Nat) (hc : c < 256) : (a <<< 8) ||| BitVec.ofNat 64 c = (a <<< 8) + BitVec.ofNat 64 c := by
  rw [BitVec.add_eq_or_of_and_eq_zero]
  apply BitVec.eq_of_getLsbD_eq
  intro i hi
  simp only [BitVec.getLsbD_and, BitVec.getLsbD_shiftLeft, BitVec.getLsbD_ofNat, BitVec.getLsbD_zero]
  by_cases h : i < 8
  · simp [h]
  · have : c.testBit i = false := Nat.testBit_lt_two_pow (Nat.lt_of_lt_of_le hc (by
      have : 2 ^ 8 ≤ 2 ^ i := Nat.pow_le_pow_right (by omega) (by omega)
      simpa using this))
    simp [this]
theorem wrap_mod (x : Int) : IntKind.i64.wrap (x % 18446744073709551616) = IntKind.i64.wrap x := by
  rw [IntKind.wrap_i64, IntKind.wrap_i64]; omega
theorem rdStep_eq (n : Int) (c : Nat) (hc : c < 256) : IntKind.i64.wrap ((BitVec.ofInt 64 (IntKind.i64.wrap (n * 2 ^ 8)) ||| BitVec.ofInt 64 (c : Int)).toNat : Int) = IntKind.i64.wrap (n * 256 + c) := by
  have e1 : BitVec.ofInt 64 (IntKind.i64.wrap (n * 2 ^ 8)) = BitVec.ofInt 64 n <<< 8 := by
    apply BitVec.eq_of_toInt_eq
    rw [BitVec.shiftLeft_eq_mul_twoPow]
    apply congrArg
    apply BitVec.eq_of_toNat_eq
    rw [IntKind.wrap_i64]
    simp only [BitVec.toNat_ofInt, BitVec.toNat_mul, BitVec.toNat_twoPow]
    omega
  have e2 : BitVec.ofInt 64 (c : Int) = BitVec.ofNat 64 c := by simp
  rw [e1, e2, or_low _ _ hc, ← wrap_mod (n * 256 + c)]
  congr 1
  rw [BitVec.toNat_add, ← e1, IntKind.wrap_i64]
  simp only [BitVec.toNat_ofInt, BitVec.toNat_ofNat]
  omega

theorem rdNum_zero (k : Nat) : rdNum (List.replicate k 0) 0 = 0 := by
  induction k with
  | zero => rfl
  | succ k ih => rw [List.replicate_succ, rdNum, List.foldl_cons]; exact ih

theorem rnum_loop (m : Mem) (nl : Bool) (cs : List UInt8) (hlen : cs.length < 1000000) (u0 u1 u2 u4 u8 : V) :
    ∃ a4, loopL (callL MM) m.length m.length [0, 1, 2, 4, 8] l_redo_reader_number_0 [u0, u1, u2, .int .i64 0, u4, .sl nl 1 (bytesV cs), .int .i64 cs.length, .int .i64 0, u8] m =
      some (.exit 0 [.undef, .undef, .undef, .int .i64 (rdNum cs 0), a4, .sl nl 1 (bytesV cs), .int .i64 cs.length, .int .i64 cs.length, .bool false] m) := by
  refine ⟨.undef, ?_⟩
  refine loop_list cs (fun i (n : Int) => [.undef, .undef, .undef, .int .i64 n, .undef, .sl nl 1 (bytesV cs), .int .i64 cs.length, .int .i64 i, .undef]) (fun _ _ => m) (fun _ _ => True)
    (fun rest _ n => .exit 0 [.undef, .undef, .undef, .int .i64 (rdNum rest n), .undef, .sl nl 1 (bytesV cs), .int .i64 cs.length, .int .i64 cs.length, .bool false] m)
    (fun n _ => ⟨?_, rfl⟩) (fun i c rest n hc hd _ => .inr ?_) cs 0 0 _ m rfl (by omega) trivial (fresh_flat rfl (by simp))
  · simp [l_redo_reader_number_0, rdNum]
  · have hlt : i < cs.length := (List.getElem?_eq_some_iff.1 hc).1
    have hlt' : (i : Int) < (cs.length : Int) := by omega
    have hb : (bytesV cs)[i]? = some (.int .u8 c.toNat) := by simp [bytesV, hc]
    have hc2 : c.toNat < 256 := c.toNat_lt
    have w1 : IntKind.i64.wrap ((i : Int) + 1) = (i : Int) + 1 := wrap64_id (by omega) (by omega)
    have w2 : IntKind.i64.wrap (c.toNat : Int) = (c.toNat : Int) := wrap64_id (by omega) (by omega)
    have w3 : (Nat.min 8 IntKind.i64.bits) = 8 := rfl
    have w4 : IntKind.i64.bits = 64 := rfl
    have hst := rdStep_eq n c.toNat hc2
    have hx : ex (callL MM) m.length l_redo_reader_number_0 [.undef, .undef, .undef, .int .i64 n, .undef, .sl nl 1 (bytesV cs), .int .i64 cs.length, .int .i64 i, .undef] m =
        some (.nrm [.undef, .undef, .undef, .int .i64 (IntKind.i64.wrap (n * 256 + c.toNat)), .int .u8 c.toNat, .sl nl 1 (bytesV cs), .int .i64 cs.length, .int .i64 ((i : Int) + 1), .bool true] m) := by
      rw [← hst]
      simp [l_redo_reader_number_0, hlt', hb, w1, w2, w3, w4, intBits]
    exact ⟨_, _, IntKind.i64.wrap (n * 256 + c.toNat), hx, fresh_flat rfl (by simp), trivial, by simp [rdNum]⟩

/-- redo.reader.number. -/
theorem rnum (m : Mem) (r : Nat) (nl : Bool) (s : RS) (h : look m r = some (rO nl s)) (n : Nat) (hs : n ≤ 8) :
    callL MM F.redo_reader_number [.ptr r 0, .int .i64 n] m = some (.ret [.int .i64 (rdN n s).1] (upd m r (rO nl (rdN n s).2))) := by
  have fin : ∀ (nl' : Bool) (cs : List UInt8) (m' : Mem), cs.length ≤ 8 → m'.length = m.length → callL MM F.redo_reader_take [.ptr r 0, .int .i64 n] m = some (.ret [.sl nl' 1 (bytesV cs)] m') → callL MM F.redo_reader_number [.ptr r 0, .int .i64 n] m = some (.ret [.int .i64 (rdNum cs 0)] m') := fun nl' cs m' hcs hm' hc => by
    rw [call_redo_reader_number _ _ rfl]
    obtain ⟨a4, hq⟩ := rnum_loop m' nl' cs (by omega) (.ptr r 0) (.int .i64 n) (.int .i64 0) .undef .undef
    rw [hm'] at hq
    simp [vf_redo_reader_number, hc, bytesV_len, hm', hq]
  unfold rdN
  by_cases hn : n ≤ s.1.length
  · rw [if_pos hn]
    exact fin _ _ _ (by simp; omega) (upd_len m) (take_ok m r nl s h n hn)
  · rw [if_neg hn]
    have := take_bad m r nl s h n (by omega) (by omega)
    rw [Nat.min_eq_left hs] at this
    have := fin _ _ _ (by simp; omega) (upd_len m) this
    rw [rdNum_zero] at this
    exact this

theorem num_two (a b : UInt8) : rdNum [a, b] 0 = 256 * a.toNat + b.toNat := by
  have ha := a.toNat_lt
  have hb := b.toNat_lt
  simp only [rdNum, List.foldl_cons, List.foldl_nil]
  rw [wrap64_id (n := 0 * 256 + (a.toNat : Int)) (by omega) (by omega), wrap64_id (by omega) (by omega)]
  omega
theorem num_one (a : UInt8) : rdNum [a] 0 = a.toNat := by
  have ha := a.toNat_lt
  simp only [rdNum, List.foldl_cons, List.foldl_nil]
  rw [wrap64_id (by omega) (by omega)]
  omega
theorem rdN_two (s : RS) : 0 ≤ (rdN 2 s).1 ∧ (rdN 2 s).1 < 65536 := by
  obtain ⟨l, bad⟩ := s
  match l with
  | a :: b :: l =>
    have ha := a.toNat_lt
    have hb := b.toNat_lt
    have e : (rdN 2 (a :: b :: l, bad)).1 = rdNum [a, b] 0 := by simp [rdN]
    rw [e, num_two]; omega
  | [] => simp [rdN]
  | [_] => simp [rdN]
theorem rdN_one (s : RS) : 0 ≤ (rdN 1 s).1 ∧ (rdN 1 s).1 < 256 := by
  obtain ⟨l, bad⟩ := s
  match l with
  | a :: l =>
    have ha := a.toNat_lt
    have e : (rdN 1 (a :: l, bad)).1 = rdNum [a] 0 := by simp [rdN]
    rw [e, num_one]; omega
  | [] => simp [rdN]

/-- redo.reader.text. -/
theorem rtext (m : Mem) (r : Nat) (nl : Bool) (s : RS) (h : look m r = some (rO nl s)) :
    callL MM F.redo_reader_text [.ptr r 0] m = some (.ret [.str (rdT s).1] (upd m r (rO nl (rdT s).2))) := by
  have hlt := look_lt h
  have h55 : callL MM F.redo_reader_number [.ptr r 0, .int .i64 2] m = _ := rnum m r nl s h 2 (by omega)
  obtain ⟨h0, h1⟩ := rdN_two s
  unfold rdT
  generalize hN : rdN 2 s = N at h55 h0 h1
  obtain ⟨n, b1, bad1⟩ := N
  simp only at h55 h0 h1 ⊢
  have hl : look (upd m r (rO nl (b1, bad1))) r = some (.cells [.sl nl 1 (bytesV b1), .bool bad1]) := look_upd hlt
  rw [call_redo_reader_text _ _ rfl]
  by_cases hc : n > (b1.length : Int)
  · rw [if_pos hc]
    simp [vf_redo_reader_text, h55, hl, bytesV_len, hc, hlt, upd_upd, rO]
  · rw [if_neg hc]
    have hcl : ¬ ((b1.length : Int) < n) := hc
    have ht := take_ok (upd m r (rO nl (b1, bad1))) r nl (b1, bad1) hl n.toNat (by simp; omega)
    have e : ((n.toNat : Nat) : Int) = n := by omega
    rw [e, upd_upd] at ht
    simp only [rO] at ht h55
    simp [vf_redo_reader_text, h55, bytesV_len, hcl, hlt, ht, strOf_bytes, rO]
end Go.Vm.Redo
-- RR1: Walks: redo's reader of rows and fields.
set_option maxRecDepth 100000
namespace Go.Vm.Redo
open Go Go.Vm

theorem look_app_old {r : Nat} {m : Mem} (h : r < m.length) : ∀ pre : Mem, look (pre ++ m) r = look m r
  | [] => rfl
  | o :: pre => by rw [List.cons_append, look_cons_old (by simp; omega), look_app_old h pre]
theorem upd_app_old {r : Nat} {m : Mem} {o : O} (h : r < m.length) : ∀ pre : Mem, upd (pre ++ m) r o = pre ++ upd m r o
  | [] => rfl
  | x :: pre => by rw [List.cons_append, upd_cons_old (by simp; omega), upd_app_old h pre]; rfl

theorem rnum_pre (pre m : Mem) (r : Nat) (nl : Bool) (s : RS) (h : r < m.length) (n : Nat) (hs : n ≤ 8) :
    callL MM F.redo_reader_number [.ptr r 0, .int .i64 n] (pre ++ upd m r (rO nl s)) = some (.ret [.int .i64 (rdN n s).1] (pre ++ upd m r (rO nl (rdN n s).2))) := by
  rw [rnum (pre ++ upd m r (rO nl s)) r nl s (by rw [look_app_old (by simpa using h)]; exact look_upd h) n hs, upd_app_old (by simpa using h), upd_upd]
theorem rtext_pre (pre m : Mem) (r : Nat) (nl : Bool) (s : RS) (h : r < m.length) :
    callL MM F.redo_reader_text [.ptr r 0] (pre ++ upd m r (rO nl s)) = some (.ret [.str (rdT s).1] (pre ++ upd m r (rO nl (rdT s).2))) := by
  rw [rtext (pre ++ upd m r (rO nl s)) r nl s (by rw [look_app_old (by simpa using h)]; exact look_upd h), upd_app_old (by simpa using h), upd_upd]

@[simp] theorem Val.under (n : Nat) (v : Val) : V.under n v.toV = true := rfl
@[simp] theorem Val.fits (v : Val) : V.fits 3 v.toV = true := rfl
@[simp] theorem Val.shut (m : Mem) (v : Val) : V.shut m v.toV = some v.toV := rfl

theorem rrow_round (m : Mem) (r : Nat) (nl : Bool) (s : RS) (h : r < m.length) (vs : List Val) (cnt : Int) (i : Nat) (hi : (i : Int) < cnt) (hc : cnt < 256) (hv : vs.length = i) :
    rnd (callL MM) m.length (m.length + 1) [1, 3, 6, 7, 8, 9, 10] l_redo_reader_row_0 [.ptr r 0, .undef, .gs m.length vs.length, .undef, .int .i64 cnt, .int .i64 i, .undef, .undef, .undef, .undef, .undef] (.buf 3 true (vs.map Val.toV) :: upd m r (rO nl s)) =
      some ([.ptr r 0, .undef, .gs m.length (vs ++ [(rdV s).1]).length, .undef, .int .i64 cnt, .int .i64 ((i + 1 : Nat) : Int), .undef, .undef, .undef, .undef, .undef], .buf 3 true ((vs ++ [(rdV s).1]).map Val.toV) :: upd m r (rO nl (rdV s).2)) := by
  have hlt : r < m.length + 1 := by omega
  have w1 : IntKind.i64.wrap ((i : Int) + 1) = (i : Int) + 1 := wrap64_id (by omega) (by omega)
  have h1 : callL MM F.redo_reader_number [.ptr r 0, .int .i64 1] (.buf 3 true (vs.map Val.toV) :: upd m r (rO nl s)) = _ := rnum_pre [_] m r nl s h 1 (by omega)
  have hc2 : (i + 1) * 32 ≤ 140737488355328 := by omega
  have hc3 : (i + 1) ≤ 140737488355328 := by omega
  generalize hk : rdN 1 s = K at h1
  obtain ⟨kd, s1⟩ := K
  simp only at h1
  have h8 : ∀ o : O, callL MM F.redo_reader_number [.ptr r 0, .int .i64 8] (o :: .buf 3 true (vs.map Val.toV) :: upd m r (rO nl s1)) = _ := fun o => rnum_pre [_, _] m r nl s1 h 8 (by omega)
  have h81 : ∀ o : O, callL MM F.redo_reader_number [.ptr r 0, .int .i64 1] (o :: .buf 3 true (vs.map Val.toV) :: upd m r (rO nl s1)) = _ := fun o => rnum_pre [_, _] m r nl s1 h 1 (by omega)
  have ht : ∀ o : O, callL MM F.redo_reader_text [.ptr r 0] (o :: .buf 3 true (vs.map Val.toV) :: upd m r (rO nl s1)) = _ := fun o => rtext_pre [_, _] m r nl s1 h
  simp only [rdV, hk]
  by_cases k1 : kd = 1
  · subst k1
    simp [l_redo_reader_row_0, hi, hv, h1, h8, w1, fill, drawEnd_nil, hc2, hc3, Val.toV, hlt]
  by_cases k3 : kd = 3
  · subst k3
    simp [l_redo_reader_row_0, hi, hv, h1, h81, w1, fill, drawEnd_nil, hc2, hc3, Val.toV, hlt]
  by_cases k2 : kd = 2
  · subst k2
    simp [l_redo_reader_row_0, hi, hv, h1, ht, w1, fill, drawEnd_nil, hc2, hc3, Val.toV, hlt]
  have bb : ∀ g : Int, kd ≠ g → (kd == g) = false := fun g h => by simpa using h
  simp [l_redo_reader_row_0, hi, hv, h1, w1, fill, drawEnd_nil, hc2, hc3, Val.toV, k1, k2, k3, bb 1 k1, bb 2 k2, bb 3 k3, hlt]

theorem rowV_of (l : List Val) : V.sl (decide (l.length = 0)) 3 (l.map Val.toV) = (RowR.of l).toV := by cases l <;> rfl

/-- redo.reader.row. -/
theorem rrow (m : Mem) (r : Nat) (nl : Bool) (s : RS) (h : look m r = some (rO nl s)) :
    callL MM F.redo_reader_row [.ptr r 0] m = some (.ret [(RowR.of (rdRow s).1).toV] (upd m r (rO nl (rdRow s).2))) := by
  rw [call_redo_reader_row _ _ rfl]
  have hlt := look_lt h
  have hlt1 : r < m.length + 1 := by omega
  have h1 : callL MM F.redo_reader_number [.ptr r 0, .int .i64 1] (.buf 3 true [] :: m) = some (.ret [.int .i64 (rdN 1 s).1] (.buf 3 true [] :: upd m r (rO nl (rdN 1 s).2))) := by
    have := rnum_pre [.buf 3 true []] m r nl s hlt 1 (by omega)
    rwa [upd_self h] at this
  obtain ⟨h0, h2⟩ := rdN_one s
  simp only [rdRow]
  generalize hk : rdN 1 s = K at h1 h0 h2
  obtain ⟨cnt, s1⟩ := K
  simp only at h1 h0 h2 ⊢
  obtain ⟨n, rfl⟩ : ∃ n : Nat, cnt = n := ⟨cnt.toNat, by omega⟩
  have hq := loop_each (cf := callL MM) (b := m.length) (L := m.length + 1) (kill := [1, 3, 6, 7, 8, 9, 10]) (c := l_redo_reader_row_0) (List.replicate n ())
    (fun i (p : List Val × RS) => [.ptr r 0, .undef, .gs m.length p.1.length, .undef, .int .i64 n, .int .i64 i, .undef, .undef, .undef, .undef, .undef])
    (fun i p => .buf 3 true (p.1.map Val.toV) :: upd m r (rO nl p.2)) (fun i p => p.1.length = i)
    (fun rest i p => .exit 0 [.ptr r 0, .undef, .gs m.length (p.1 ++ (rdVs rest.length p.2).1).length, .undef, .int .i64 n, .int .i64 n, .bool false, .undef, .undef, .undef, .undef] (.buf 3 true ((p.1 ++ (rdVs rest.length p.2).1).map Val.toV) :: upd m r (rO nl (rdVs rest.length p.2).2)))
    (fun p hI => ⟨by simp [l_redo_reader_row_0, rdVs], rfl⟩)
    (fun i a rest p ha hd hlen hI => .inr ⟨(p.1 ++ [(rdV p.2).1], (rdV p.2).2), rrow_round m r nl p.2 hlt p.1 n i (by simp at hlen; omega) h2 hI, by simp [hI], by simp [rdVs, List.append_assoc]⟩)
    ([], s1) [.ptr r 0, .sl true 0 [], .gs m.length 0, .undef, .int .i64 n, .int .i64 0, .undef, .undef, .undef, .undef, .undef] (.buf 3 true [] :: upd m r (rO nl s1)) rfl (by simp [hlt1])
  simp only [List.length_replicate, List.nil_append] at hq
  have hn : (n : Int).toNat = n := by omega
  rw [hn, ← rowV_of]
  simp [vf_redo_reader_row, h1, hq, hlt1, Rs.ends]
  rw [List.take_of_length_le (by simp)]
  cases (rdVs n s1).1 <;> exact ⟨rfl, rfl⟩

theorem field_pre (m : Mem) (r q : Nat) (nl : Bool) (s : RS) (x : Rec) (f : Int) (hr : look m r = some (rO nl s)) (hq : look m q = some (.cells x.cells)) (hne : q ≠ r) :
    callL MM F.redo_reader_field [.ptr r 0, .ptr q 0, .int .i64 f] m = some (.ret [] (upd (upd m r (rO nl (rdF x f s).2)) q (.cells (rdF x f s).1.cells))) := by
  rw [call_redo_reader_field _ _ rfl]
  have hlt := look_lt hr
  have hlq := look_lt hq
  have h8 : callL MM F.redo_reader_number [.ptr r 0, .int .i64 8] m = _ := rnum m r nl s hr 8 (by omega)
  have ht := rtext m r nl s hr
  have hw := rrow m r nl s hr
  have hlk : ∀ o, look (upd m r o) q = look m q := fun o => look_upd_other hne
  have hself : upd m q (.cells x.cells) = m := upd_self hq
  have hself2 : upd m r (rO nl s) = m := upd_self hr
  unfold Rec.cells at hq hself
  by_cases f0 : f = 0
  · subst f0; simp [vf_redo_reader_field, h8, hlk, hq, hlq, hlt, rdF, Rec.cells]
  by_cases f1 : f = 1
  · subst f1; simp [vf_redo_reader_field, ht, hlk, hq, hlq, hlt, rdF, Rec.cells]
  by_cases f2 : f = 2
  · subst f2; simp [vf_redo_reader_field, ht, hlk, hq, hlq, hlt, rdF, Rec.cells]
  by_cases f3 : f = 3
  · subst f3; simp [vf_redo_reader_field, h8, hlk, hq, hlq, hlt, rdF, Rec.cells]
  by_cases f4 : f = 4
  · subst f4; simp [vf_redo_reader_field, hw, hlk, hq, hlq, hlt, rdF, Rec.cells]
  by_cases f5 : f = 5
  · subst f5; simp [vf_redo_reader_field, h8, hlk, hq, hlq, hlt, rdF, Rec.cells]
  by_cases f6 : f = 6
  · subst f6; simp [vf_redo_reader_field, ht, hlk, hq, hlq, hlt, rdF, Rec.cells]
  by_cases f7 : f = 7
  · subst f7; simp [vf_redo_reader_field, h8, hlk, hq, hlq, hlt, rdF, Rec.cells]
  have bb : ∀ g : Int, f ≠ g → (f == g) = false := fun g h => by simpa using h
  simp [vf_redo_reader_field, hself, hself2, rdF, Rec.cells, f0, f1, f2, f3, f4, f5, f6, f7, bb 0 f0, bb 1 f1, bb 2 f2, bb 3 f3, bb 4 f4, bb 5 f5, bb 6 f6, bb 7 f7]
end Go.Vm.Redo
-- RS0: Walks: small functions on bytes, names, values.
set_option maxRecDepth 100000
namespace Go.Vm.Redo
open Go Go.Vm

theorem run_lex_small (c : UInt8) (m : Mem) : callL MM F.lex_small [.int .u8 c.toNat] m = some (.ret [.bool (smallB c)] m) := by
  rw [call_lex_small _ _ rfl]
  by_cases h : 97 ≤ c.toNat
  · have h' : (97 : Int) ≤ c.toNat := by omega
    simp [vf_lex_small, h, h', smallB]; omega
  · have h' : ¬ (97 : Int) ≤ c.toNat := by omega
    simp [vf_lex_small, h, h', smallB]
theorem run_lex_digit (c : UInt8) (m : Mem) : callL MM F.lex_digit [.int .u8 c.toNat] m = some (.ret [.bool (digitB c)] m) := by
  rw [call_lex_digit _ _ rfl]
  by_cases h : 48 ≤ c.toNat
  · have h' : (48 : Int) ≤ c.toNat := by omega
    simp [vf_lex_digit, h, h', digitB]; omega
  · have h' : ¬ (48 : Int) ≤ c.toNat := by omega
    simp [vf_lex_digit, h, h', digitB]
theorem run_ref02_small (c : UInt8) (m : Mem) : callL MM F.ref02_small [.int .u8 c.toNat] m = some (.ret [.bool (smallB c)] m) := by
  rw [call_ref02_small _ _ rfl]
  by_cases h : 97 ≤ c.toNat
  · have h' : (97 : Int) ≤ c.toNat := by omega
    simp [vf_ref02_small, h, h', smallB]; omega
  · have h' : ¬ (97 : Int) ≤ c.toNat := by omega
    simp [vf_ref02_small, h, h', smallB]
theorem run_ref02_digit (c : UInt8) (m : Mem) : callL MM F.ref02_digit [.int .u8 c.toNat] m = some (.ret [.bool (digitB c)] m) := by
  rw [call_ref02_digit _ _ rfl]
  by_cases h : 48 ≤ c.toNat
  · have h' : (48 : Int) ≤ c.toNat := by omega
    simp [vf_ref02_digit, h, h', digitB]; omega
  · have h' : ¬ (48 : Int) ≤ c.toNat := by omega
    simp [vf_ref02_digit, h, h', digitB]
theorem natcast_beq (a b : Nat) : ((a : Int) == (b : Int)) = (a == b) := by
  by_cases h : a = b
  · subst h; simp
  · have h' : ¬ ((a : Int) = b) := by omega
    rw [beq_eq_false_iff_ne.2 h, beq_eq_false_iff_ne.2 h']
theorem run_ref02_named (c : UInt8) (m : Mem) : callL MM F.ref02_named [.int .u8 c.toNat] m = some (.ret [.bool (namedB c)] m) := by
  rw [call_ref02_named _ _ rfl]
  have e : ((c.toNat : Int) == 95) = (c.toNat == 95) := natcast_beq c.toNat 95
  cases h : smallB c <;> cases h2 : digitB c <;> simp [vf_ref02_named, run_ref02_small, run_ref02_digit, h, h2, namedB, e]
theorem run_lex_isName_1 (c : UInt8) (m : Mem) : callL MM F.lex_isName_1 [.int .u8 c.toNat] m = some (.ret [.bool (!namedB c)] m) := by
  rw [call_lex_isName_1 _ _ rfl]
  have e : ((c.toNat : Int) == 95) = (c.toNat == 95) := natcast_beq c.toNat 95
  cases h : smallB c <;> cases h2 : digitB c <;> simp [vf_lex_isName_1, run_lex_small, run_lex_digit, h, h2, namedB, e, bne]

/-! ### the first of some -/
def idxP {α : Type} (p : α → Bool) : List α → Int → Int
  | [], _ => -1
  | a :: l, i => if p a then i else idxP p l (i + 1)
theorem idxP_any {α : Type} (p : α → Bool) : ∀ (l : List α) (i : Int), 0 ≤ i → decide (0 ≤ idxP p l i) = l.any p
  | [], i, _ => by simp [idxP]
  | a :: l, i, h => by
    have ih := idxP_any p l (i + 1) (by omega)
    cases hp : p a <;> simp [idxP, hp, h, ← ih]
theorem idxP_none {α : Type} (p : α → Bool) : ∀ (l : List α) (i : Int), l.any p = false → idxP p l i = -1
  | [], i, _ => rfl
  | a :: l, i, h => by
    simp only [List.any_cons, Bool.or_eq_false_iff] at h
    simp only [idxP, h.1]
    exact idxP_none p l _ h.2

theorem run_IndexFunc_byte (p : UInt8 → Bool) (f : FuncId) (hf : ∀ (c : UInt8) (m : Mem), callL MM f [.int .u8 c.toNat] m = some (.ret [.bool (p c)] m)) (nl : Bool) (l : List UInt8) (hl : l.length < 4611686018427387904) (m : Mem) :
    callL MM F.slices_IndexFunc_byte_byte [.sl nl 1 (bytesV l), .fn f [] []] m = some (.ret [.int .i64 (idxP p l 0)] m) := by
  rw [call_slices_IndexFunc_byte_byte _ _ rfl]
  have hq := loop_each (cf := callL MM) (b := m.length) (L := m.length) (kill := [2, 3, 6, 7]) (c := l_slices_IndexFunc_byte_byte_0) l
    (fun i (_ : Unit) => [.sl nl 1 (bytesV l), .fn f [] [], .undef, .undef, .int .i64 l.length, .int .i64 i, .undef, .undef])
    (fun i _ => m) (fun i _ => True)
    (fun rest i _ => if rest.any p then .ret [.sl nl 1 (bytesV l), .fn f [] [], .int .i64 (idxP p rest i), .int .i64 (idxP p rest i), .int .i64 l.length, .int .i64 (idxP p rest i), .bool true, .bool true] m
      else .exit 0 [.sl nl 1 (bytesV l), .fn f [] [], .undef, .undef, .int .i64 l.length, .int .i64 l.length, .bool false, .undef] m)
    (fun s _ => ⟨by simp [l_slices_IndexFunc_byte_byte_0], rfl⟩)
    (fun i c rest s hc hd hi _ => by
      have hlt' : (i : Int) < (l.length : Int) := by omega
      have hb : (bytesV l)[i]? = some (.int .u8 c.toNat) := by simp [bytesV, hc]
      have w1 : IntKind.i64.wrap ((i : Int) + 1) = (i : Int) + 1 := wrap64_id (by omega) (by omega)
      cases hp : p c with
      | true => exact .inl (by simp [l_slices_IndexFunc_byte_byte_0, hlt', hb, hf, hp, idxP, Rs.ends])
      | false => exact .inr ⟨(), by simp [l_slices_IndexFunc_byte_byte_0, hlt', hb, hf, hp, w1], trivial, by simp [hp, idxP]⟩)
    () [.sl nl 1 (bytesV l), .fn f [] [], .int .i64 0, .undef, .int .i64 l.length, .int .i64 0, .undef, .undef] m trivial (by simp)
  cases hany : l.any p with
  | true => simp [vf_slices_IndexFunc_byte_byte, bytesV_len, hq, hany, Rs.ends]
  | false =>
    have e := idxP_none p l 0 hany
    simp [vf_slices_IndexFunc_byte_byte, bytesV_len, hq, hany, e]
theorem run_ContainsFunc_byte (p : UInt8 → Bool) (f : FuncId) (hf : ∀ (c : UInt8) (m : Mem), callL MM f [.int .u8 c.toNat] m = some (.ret [.bool (p c)] m)) (nl : Bool) (l : List UInt8) (hl : l.length < 4611686018427387904) (m : Mem) :
    callL MM F.slices_ContainsFunc_byte_byte [.sl nl 1 (bytesV l), .fn f [] []] m = some (.ret [.bool (l.any p)] m) := by
  rw [call_slices_ContainsFunc_byte_byte _ _ rfl, ← idxP_any p l 0 (by omega)]
  simp [vf_slices_ContainsFunc_byte_byte, run_IndexFunc_byte p f hf nl l hl]
end Go.Vm.Redo
-- RS1: Walks: slices.IndexFunc over values and fields; names.
set_option maxRecDepth 100000
namespace Go.Vm.Redo
open Go Go.Vm

theorem run_IndexFunc_Value (p : Val → Bool) (f : FuncId) (hf : ∀ (v : Val) (m : Mem), callL MM f [v.toV] m = some (.ret [.bool (p v)] m)) (nl : Bool) (sz : Nat) (l : List Val) (hs : sz = 3 ∨ l = []) (hl : l.length < 4611686018427387904) (m : Mem) :
    callL MM F.slices_IndexFunc_api_Value_api_Value [.sl nl sz (l.map Val.toV), .fn f [] []] m = some (.ret [.int .i64 (idxP p l 0)] m) := by
  rw [call_slices_IndexFunc_api_Value_api_Value _ _ rfl]
  have hq := loop_each (cf := callL MM) (b := m.length) (L := m.length) (kill := [2, 3, 6, 7]) (c := l_slices_IndexFunc_api_Value_api_Value_0) l
    (fun i (_ : Unit) => [.sl nl sz (l.map Val.toV), .fn f [] [], .undef, .undef, .int .i64 l.length, .int .i64 i, .undef, .undef])
    (fun i _ => m) (fun i _ => True)
    (fun rest i _ => if rest.any p then .ret [.sl nl sz (l.map Val.toV), .fn f [] [], .int .i64 (idxP p rest i), .int .i64 (idxP p rest i), .int .i64 l.length, .int .i64 (idxP p rest i), .bool true, .bool true] m
      else .exit 0 [.sl nl sz (l.map Val.toV), .fn f [] [], .undef, .undef, .int .i64 l.length, .int .i64 l.length, .bool false, .undef] m)
    (fun s _ => ⟨by simp [l_slices_IndexFunc_api_Value_api_Value_0], rfl⟩)
    (fun i v rest s hc hd hi _ => by
      have hlt' : (i : Int) < (l.length : Int) := by omega
      have w1 : IntKind.i64.wrap ((i : Int) + 1) = (i : Int) + 1 := wrap64_id (by omega) (by omega)
      have e3 : sz = 3 := by
        rcases hs with h | h
        · exact h
        · rw [h] at hc; simp at hc
      subst e3
      have hf' := hf v m
      simp only [Val.toV] at hf'
      cases hp : p v with
      | true => exact .inl (by rw [hp] at hf'; simp [l_slices_IndexFunc_api_Value_api_Value_0, hlt', hc, Val.toV, hf', hp, idxP, Rs.ends])
      | false => exact .inr ⟨(), by rw [hp] at hf'; simp [l_slices_IndexFunc_api_Value_api_Value_0, hlt', hc, Val.toV, hf', hp, w1], trivial, by simp [hp, idxP]⟩)
    () [.sl nl sz (l.map Val.toV), .fn f [] [], .int .i64 0, .undef, .int .i64 l.length, .int .i64 0, .undef, .undef] m trivial (by simp)
  cases hany : l.any p with
  | true => simp [vf_slices_IndexFunc_api_Value_api_Value, hq, hany, Rs.ends]
  | false =>
    have e := idxP_none p l 0 hany
    simp [vf_slices_IndexFunc_api_Value_api_Value, hq, hany, e]
theorem run_ContainsFunc_Value (p : Val → Bool) (f : FuncId) (hf : ∀ (v : Val) (m : Mem), callL MM f [v.toV] m = some (.ret [.bool (p v)] m)) (nl : Bool) (sz : Nat) (l : List Val) (hs : sz = 3 ∨ l = []) (hl : l.length < 4611686018427387904) (m : Mem) :
    callL MM F.slices_ContainsFunc_api_Value_api_Value [.sl nl sz (l.map Val.toV), .fn f [] []] m = some (.ret [.bool (l.any p)] m) := by
  rw [call_slices_ContainsFunc_api_Value_api_Value _ _ rfl, ← idxP_any p l 0 (by omega)]
  simp [vf_slices_ContainsFunc_api_Value_api_Value, run_IndexFunc_Value p f hf nl sz l hs hl]

theorem run_IndexFunc_field (p : Int → Bool) (f : FuncId) (r : Nat) (m : Mem) (hr : r < m.length) (hf : ∀ (v : Int), callL MM f [.int .i64 v, .ptr r 0] m = some (.ret [.bool (p v)] m)) (nl : Bool) (l : List Int) (hl : l.length < 1000) :
    callL MM F.slices_IndexFunc_redo_field_redo_field [.sl nl 1 (l.map (.int .i64)), .fn f [] [.ptr r 0]] m = some (.ret [.int .i64 (idxP p l 0)] m) := by
  rw [call_slices_IndexFunc_redo_field_redo_field _ _ rfl]
  have hq := loop_each (cf := callL MM) (b := m.length) (L := m.length) (kill := [2, 3, 6, 7]) (c := l_slices_IndexFunc_redo_field_redo_field_0) l
    (fun i (_ : Unit) => [.sl nl 1 (l.map (.int .i64)), .fn f [] [.ptr r 0], .undef, .undef, .int .i64 l.length, .int .i64 i, .undef, .undef])
    (fun i _ => m) (fun i _ => True)
    (fun rest i _ => if rest.any p then .ret [.sl nl 1 (l.map (.int .i64)), .fn f [] [.ptr r 0], .int .i64 (idxP p rest i), .int .i64 (idxP p rest i), .int .i64 l.length, .int .i64 (idxP p rest i), .bool true, .bool true] m
      else .exit 0 [.sl nl 1 (l.map (.int .i64)), .fn f [] [.ptr r 0], .undef, .undef, .int .i64 l.length, .int .i64 l.length, .bool false, .undef] m)
    (fun s _ => ⟨by simp [l_slices_IndexFunc_redo_field_redo_field_0], rfl⟩)
    (fun i v rest s hc hd hi _ => by
      have hlt' : (i : Int) < (l.length : Int) := by omega
      have w1 : IntKind.i64.wrap ((i : Int) + 1) = (i : Int) + 1 := wrap64_id (by omega) (by omega)
      have hf' := hf v
      cases hp : p v with
      | true => exact .inl (by rw [hp] at hf'; simp [l_slices_IndexFunc_redo_field_redo_field_0, hlt', hc, Val.toV, hf', hp, idxP, Rs.ends, hr])
      | false => exact .inr ⟨(), by rw [hp] at hf'; simp [l_slices_IndexFunc_redo_field_redo_field_0, hlt', hc, Val.toV, hf', hp, w1, hr], trivial, by simp [hp, idxP]⟩)
    () [.sl nl 1 (l.map (.int .i64)), .fn f [] [.ptr r 0], .int .i64 0, .undef, .int .i64 l.length, .int .i64 0, .undef, .undef] m trivial (by simp [hr])
  cases hany : l.any p with
  | true => simp [vf_slices_IndexFunc_redo_field_redo_field, hq, hany, Rs.ends]
  | false =>
    have e := idxP_none p l 0 hany
    simp [vf_slices_IndexFunc_redo_field_redo_field, hq, hany, e]
theorem run_ContainsFunc_field (p : Int → Bool) (f : FuncId) (r : Nat) (m : Mem) (hr : r < m.length) (hf : ∀ (v : Int), callL MM f [.int .i64 v, .ptr r 0] m = some (.ret [.bool (p v)] m)) (nl : Bool) (l : List Int) (hl : l.length < 1000) :
    callL MM F.slices_ContainsFunc_redo_field_redo_field [.sl nl 1 (l.map (.int .i64)), .fn f [] [.ptr r 0]] m = some (.ret [.bool (l.any p)] m) := by
  rw [call_slices_ContainsFunc_redo_field_redo_field _ _ rfl, ← idxP_any p l 0 (by omega)]
  simp [vf_slices_ContainsFunc_redo_field_redo_field, run_IndexFunc_field p f r m hr hf nl l hl]

/-! ### names -/
/-- A row of tests, each for a word. -/
def chain : List (List UInt8) → VC
  | [] => .skip
  | [w] => .reg [⟨none, .bin .eql (.v 2) (.c (.str w)), none⟩, ⟨some 3, .mov (.l 0), none⟩]
  | w :: w' :: ws => .seq (.reg [⟨none, .bin .eql (.v 2) (.c (.str w)), none⟩, ⟨some 3, .mov (.l 0), none⟩]) (.cond (.v 3) .skip (chain (w' :: ws)))
theorem chain_ok (s : List UInt8) (b : Nat) (m : Mem) : ∀ (ws : List (List UInt8)) (x : V), ws ≠ [] →
    ex (callL MM) b (chain ws) [.str s, .bool false, .str s, x] m = some (.nrm [.str s, .bool false, .str s, .bool (ws.contains s)] m)
  | [], x, h => absurd rfl h
  | [w], x, h => by
    have : [w].contains s = (s == w) := by simp only [List.contains_cons, List.contains_nil, Bool.or_false]
    rw [this]
    simp [chain, binStr]
  | w :: w' :: ws, x, h => by
    have ih := chain_ok s b m (w' :: ws) (.bool false) (by simp)
    cases hs : s == w with
    | true =>
      have : (w :: w' :: ws).contains s = true := by simp only [List.contains_cons, hs, Bool.true_or]
      rw [this]
      simp [chain, binStr, hs]
    | false =>
      have : (w :: w' :: ws).contains s = (w' :: ws).contains s := by simp only [List.contains_cons, hs, Bool.false_or]
      rw [this]
      simp [chain, binStr, hs, ih]
theorem run_lex_Word (s : List UInt8) (m : Mem) : callL MM F.lex_Word [.str s] m = some (.ret [.bool (isWord s)] m) := by
  rw [call_lex_Word _ _ rfl]
  have e : vf_lex_Word.body = .seq (.reg [⟨some 1, .mov (.c (.bool false)), none⟩]) (.seq (.seq (.reg [⟨some 2, .mov (.v 0), none⟩]) (.block 0 (.seq (chain wordL) (.cond (.v 3) (.seq (.reg [⟨some 1, .mov (.c (.bool true)), none⟩]) .ret) .skip))))
      (.seq (.reg [⟨some 1, .mov (.c (.bool false)), none⟩]) .ret)) := rfl
  have hc := chain_ok s m.length m wordL .undef (by decide)
  rw [e]
  have h1 : vf_lex_Word.slots = [0, 2, 3, 4] := rfl
  have h2 : vf_lex_Word.res = [.v 1] := rfl
  unfold isWord
  generalize chain wordL = C at hc ⊢
  cases hw : wordL.contains s <;> rw [hw] at hc <;> simp [h1, h2, hc]
theorem run_lex_isName (s : List UInt8) (hs : s.length ≤ 140737488355328) (m : Mem) : callL MM F.lex_isName [.str s] m = some (.ret [.bool (shaped s && decide (s.length ≤ 30))] m) := by
  rw [call_lex_isName _ _ rfl]
  have hc := run_ContainsFunc_byte (fun c => !namedB c) F.lex_isName_1 run_lex_isName_1 false s (by omega) m
  cases s with
  | nil => simp [vf_lex_isName, binStr, shaped]
  | cons a l =>
    have hh := run_lex_small a m
    have e : (a :: l).any (fun c => !namedB c) = !(a :: l).all namedB := by rw [List.any_eq_not_all_not]; simp
    rw [e] at hc
    have hl : ((a :: l).length : Int) = (l.length : Int) + 1 := by simp
    cases ha : smallB a with
    | false => rw [ha] at hh; simp [vf_lex_isName, binStr, shaped, hh, ha]
    | true =>
      rw [ha] at hh
      by_cases h30 : (a :: l).length ≤ 30
      · have h1 : ¬ ((30 : Int) < (l.length : Int) + 1) := by simp at h30; omega
        have h2 : l.length + 1 ≤ 140737488355328 := by simpa using hs
        have h3 : l.length + 1 ≤ 30 := by simpa using h30
        simp [vf_lex_isName, binStr, shaped, hh, ha, h1, h2, hc, h3]
      · have h1 : ((30 : Int) < (l.length : Int) + 1) := by simp at h30; omega
        have h3 : ¬ (l.length + 1 ≤ 30) := by simpa using h30
        simp [vf_lex_isName, binStr, shaped, hh, ha, h1, h3]
theorem run_lex_Name (s : List UInt8) (hs : s.length ≤ 140737488355328) (m : Mem) : callL MM F.lex_Name [.str s] m = some (.ret [.bool (isName s)] m) := by
  rw [call_lex_Name _ _ rfl]
  have h1 := run_lex_isName s hs m
  have h2 := run_lex_Word s m
  unfold isName
  cases h : shaped s && decide (s.length ≤ 30) <;> rw [h] at h1 <;> simp [vf_lex_Name, h1, h2]
theorem run_valid_IsName (s : List UInt8) (hs : s.length ≤ 140737488355328) (m : Mem) : callL MM F.valid_IsName [.str s] m = some (.ret [.bool (isName s)] m) := by
  rw [call_valid_IsName _ _ rfl]
  simp [vf_valid_IsName, run_lex_Name s hs m]
theorem run_valid_IsNumber (n : Int) (m : Mem) : callL MM F.valid_IsNumber [.int .i64 n] m = some (.ret [.bool (between n 1)] m) := by
  rw [call_valid_IsNumber _ _ rfl]
  by_cases h : 1 ≤ n <;> simp [vf_valid_IsNumber, h, between, big] <;> rfl
end Go.Vm.Redo
