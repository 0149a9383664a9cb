/- Part 11 of the ground under the rows: Names of functions, and what is chosen for each. -/
import Derived.Test.YtcifkahbdimkbaaGreatDoorM10
import Derived.Test.YtcifkahbdimkbaaGreatDoorProg
import Derived.KernelRfl
set_option linter.unusedSimpArgs false
set_option linter.unusedVariables false
-- RA: Names of functions, and what is chosen for each.
set_option maxRecDepth 100000
namespace Go.Vm.Redo
open Go Go.Vm
namespace F
def law20_RedoEncodes : FuncId := 3
def law20_RedoDecodes : FuncId := 4
def law20_RedoWrites : FuncId := 6
def law20_RedoBack : FuncId := 7
def law20_RedoCuts : FuncId := 8
def law20_RedoParts : FuncId := 9
def ref20_Few : FuncId := 10
def law20_awake : FuncId := 11
def redo_Encode : FuncId := 12
def ref20_Encode : FuncId := 13
def redo_Valid : FuncId := 14
def ref20_Valid : FuncId := 15
def redo_Same : FuncId := 16
def ref20_Same : FuncId := 17
def redo_Text : FuncId := 18
def ref20_Text : FuncId := 19
def law20_long : FuncId := 20
def redo_Decode : FuncId := 21
def ref20_Decode : FuncId := 22
def redo_Read : FuncId := 23
def ref20_Read : FuncId := 24
def ref20_SameAll : FuncId := 25
def redo_Cut : FuncId := 26
def ref20_Cut : FuncId := 27
def redo_Write : FuncId := 28
def ref20_Write : FuncId := 29
def ref01_Int : FuncId := 30
def ref01_String : FuncId := 31
def ref01_Null : FuncId := 32
def ref01_Bool : FuncId := 33
def redo_writer_number : FuncId := 34
def redo_fields : FuncId := 35
def redo_writer_field : FuncId := 36
def redo_Sum : FuncId := 37
def ref20_Bytes : FuncId := 38
def redo_clear : FuncId := 39
def slices_ContainsFunc_redo_field_redo_field : FuncId := 40
def redo_Valid_1 : FuncId := 41
def redo_isField : FuncId := 42
def ref20_Fields : FuncId := 43
def ref20_field : FuncId := 44
def ref20_blank : FuncId := 45
def value_SameRow : FuncId := 46
def ref01_SameRow : FuncId := 47
def strings_Fields : FuncId := 48
def redo_shown : FuncId := 49
def ref20_word : FuncId := 50
def ref20_Digits : FuncId := 51
def ref20_quoted : FuncId := 52
def ref01_Text : FuncId := 53
def redo_reader_field : FuncId := 54
def redo_reader_number : FuncId := 55
def ref20_Reader_Rec : FuncId := 56
def redo_writer_text : FuncId := 57
def redo_writer_row : FuncId := 58
def ref20_Number : FuncId := 59
def ref20_String : FuncId := 60
def ref20_Row : FuncId := 61
def slices_IndexFunc_redo_field_redo_field : FuncId := 62
def valid_IsNumber : FuncId := 63
def valid_IsName : FuncId := 64
def value_IsRow : FuncId := 65
def redo_isJoint : FuncId := 66
def ref20_between : FuncId := 67
def ref02_IsName : FuncId := 68
def ref01_IsRow : FuncId := 69
def ref20_Joint : FuncId := 70
def slices_Equal_api_Row_api_Value : FuncId := 71
def strconv_Itoa : FuncId := 74
def redo_quoted : FuncId := 75
def value_Text : FuncId := 76
def strings_Join : FuncId := 77
def ref01_Valid : FuncId := 78
def ref01_digits : FuncId := 79
def ref01_Quoted : FuncId := 80
def redo_reader_text : FuncId := 81
def redo_reader_row : FuncId := 82
def redo_reader_take : FuncId := 83
def ref20_Reader_Number : FuncId := 84
def ref20_Reader_String : FuncId := 85
def ref20_Reader_Row : FuncId := 86
def lex_Name : FuncId := 87
def value_valid : FuncId := 88
def ref02_shaped : FuncId := 89
def ref02_Word : FuncId := 90
def ref01_All : FuncId := 91
def strings_ReplaceAll : FuncId := 94
def value_Valid : FuncId := 95
def value_Written : FuncId := 96
def ref01_IsInt : FuncId := 100
def ref01_IsString : FuncId := 101
def lex_isName : FuncId := 102
def lex_Word : FuncId := 103
def slices_ContainsFunc_api_Value_api_Value : FuncId := 104
def value_valid_1 : FuncId := 105
def ref02_named : FuncId := 106
def ref02_small : FuncId := 107
def value_isInt : FuncId := 112
def value_isString : FuncId := 113
def strconv_FormatBool : FuncId := 114
def lex_small : FuncId := 117
def slices_ContainsFunc_byte_byte : FuncId := 118
def lex_isName_1 : FuncId := 119
def lex_digit : FuncId := 120
def slices_IndexFunc_api_Value_api_Value : FuncId := 121
def ref02_digit : FuncId := 122
def strings_ContainsFunc : FuncId := 130
def value_isString_1 : FuncId := 131
def internal_strconv_FormatBool : FuncId := 132
def slices_IndexFunc_byte_byte : FuncId := 135
def strings_IndexFunc : FuncId := 145
def strings_indexFunc : FuncId := 152
end F
def annF : FuncId → FAnn
  | 3 => ⟨[0, 1, 2, 3, 4, 5, 6, 7, 8, 9, 10, 15, 52], [], [], [], 0, false⟩
  | 4 => ⟨[0, 1, 4, 5, 6, 7, 8, 9, 10, 11, 12, 13, 15, 45, 64], [], [], [17], 0, false⟩
  | 6 => ⟨[0, 2, 3, 4, 5, 6, 9], [], [], [], 0, false⟩
  | 7 => ⟨[0, 1, 4, 5, 6, 7, 8, 9, 10, 11, 18, 26, 51, 54, 84], [], [], [56], 0, false⟩
  | 8 => ⟨[0, 1, 4, 5, 6, 7, 8, 9, 10, 11, 12, 13, 16, 24, 57, 70, 75], [], [], [], 0, false⟩
  | 9 => ⟨[0, 1, 4, 5, 6, 7, 8, 9, 10, 11, 12, 20, 37], [], [], [40, 49, 66], 0, false⟩
  | 10 => ⟨[0, 2, 3, 4, 14], [[1, 4]], [], [], 0, false⟩
  | 11 => ⟨[0, 1, 2, 3, 4, 5, 6, 7, 8, 9, 10, 13, 16, 17, 18, 19, 20, 22, 24, 91], [], [], [48], 0, false⟩
  | 13 => ⟨[0, 1, 2, 3, 4, 7, 12], [], [], [], 0, false⟩
  | 14 => ⟨[0, 1, 2, 3, 16], [], [], [], 0, false⟩
  | 15 => ⟨[0, 1, 2, 3, 4, 5, 6, 15, 16, 17], [[0, 2, 6, 9]], [], [], 0, false⟩
  | 16 => ⟨[0, 1, 2, 3, 4, 5], [], [], [], 0, false⟩
  | 17 => ⟨[0, 1, 2, 3, 4], [], [], [], 0, false⟩
  | 18 => ⟨[0, 1, 2, 3, 4, 6, 9, 18, 19, 20, 21], [[0, 2, 3, 5, 6, 10]], [], [], 0, false⟩
  | 19 => ⟨[0, 1, 2, 3, 4, 5, 7, 8, 9, 10, 14, 25, 26, 27, 33, 39, 46, 53, 60, 67, 72, 73, 74, 75, 80, 94, 102], [[0, 2, 3, 6, 7, 8, 9, 10, 13, 14, 15, 16, 17, 18, 19, 20, 21, 22, 23, 24, 25, 26], [0, 2, 3, 6, 7, 8, 9, 10, 13, 14, 15, 16, 17, 18, 19, 23, 24, 25, 26]], [], [], 0, false⟩
  | 20 => ⟨[0, 2], [], [], [], 0, false⟩
  | 21 => ⟨[0, 2, 3, 4, 5, 6, 7, 9, 10, 13, 29, 32, 47, 48, 49, 50, 90], [[2, 3, 7, 8, 9, 10, 11, 15, 16]], [], [], 0, false⟩
  | 22 => ⟨[0, 2, 3, 4, 5, 6, 7, 10, 26, 48], [], [], [], 0, false⟩
  | 23 => ⟨[0, 2, 3, 4, 5, 6, 7, 8, 18], [[1, 2, 5, 6, 7, 8]], [4], [], 0, false⟩
  | 24 => ⟨[0, 2, 3, 4, 5, 6, 7, 8, 18], [[1, 2, 5, 6, 7, 8]], [4], [], 0, false⟩
  | 25 => ⟨[0, 1, 4, 5, 10, 12, 13, 14, 25], [[2, 3, 4, 7, 8]], [], [], 0, false⟩
  | 26 => ⟨[0, 1, 4, 5, 6, 15], [], [], [], 0, false⟩
  | 27 => ⟨[0, 1, 4, 5, 6, 15], [], [], [], 0, false⟩
  | 28 => ⟨[0, 2, 3, 4, 6, 7, 8, 9, 10, 11, 12, 21], [[0, 1, 2, 4, 5, 6, 10, 11]], [4], [], 0, false⟩
  | 29 => ⟨[0, 2, 3, 4, 6, 7, 8, 9, 10, 11, 12, 21], [[0, 1, 2, 4, 5, 6, 10, 11]], [4], [], 0, false⟩
  | 30 => ⟨[0, 2], [], [], [], 0, false⟩
  | 31 => ⟨[0, 2], [], [], [], 0, false⟩
  | 32 => ⟨[0], [], [], [], 0, false⟩
  | 33 => ⟨[0, 2, 3], [], [], [], 0, false⟩
  | 34 => ⟨[0, 1, 2, 6, 10], [[2, 4]], [], [], 0, false⟩
  | 35 => ⟨[0, 2, 3, 4, 8, 11, 14, 17, 20, 23, 26, 29, 32], [], [], [], 0, false⟩
  | 36 => ⟨[0, 1, 2, 4, 6, 7, 13, 19, 25, 31, 37, 43, 49], [], [], [], 0, false⟩
  | 37 => ⟨[0, 2, 3, 4, 5, 6, 7, 8, 9], [[0, 1, 3, 4, 8]], [], [], 0, false⟩
  | 38 => ⟨[0, 1, 2, 3, 4, 6, 7, 8, 9, 21, 22, 23, 27, 32, 38, 44, 50, 56, 62, 69, 82, 83, 84, 85], [[0, 2, 5, 6, 7, 8, 11, 12, 13, 14, 15, 16, 17, 18, 19, 20, 21, 22, 23], [0, 1, 2, 4, 5, 7, 8, 9, 10, 11, 12, 13, 14, 15, 16, 17, 18, 19, 23]], [], [13], 0, false⟩
  | 39 => ⟨[0, 1, 2, 4, 5, 7, 11, 12, 13, 14, 17, 18, 23, 28, 33, 38, 43, 48, 53], [[0, 1, 5, 9, 10, 11, 12, 13, 14, 15, 16, 17, 18]], [], [], 0, false⟩
  | 40 => ⟨[0, 1, 4], [], [], [], 0, false⟩
  | 41 => ⟨[0, 1, 3], [], [], [], 0, false⟩
  | 42 => ⟨[0, 1, 2, 4, 5, 6, 7, 12, 17, 22, 27, 32, 42, 65], [], [], [], 0, false⟩
  | 43 => ⟨[0, 2, 3, 4, 5, 8, 10, 12, 14, 16, 18, 20, 22, 24], [], [], [], 0, false⟩
  | 44 => ⟨[0, 1, 2, 4, 5, 6, 11, 16, 21, 26, 31, 36, 41, 46], [], [], [], 0, false⟩
  | 45 => ⟨[0, 1, 2, 4, 5, 7, 10, 13, 16, 19, 22, 26], [], [], [], 0, false⟩
  | 46 => ⟨[0, 1, 4], [], [], [], 0, false⟩
  | 47 => ⟨[0, 1, 4, 5, 10, 12, 13, 14, 24], [[2, 3, 4, 7, 8]], [], [], 0, false⟩
  | 49 => ⟨[0, 1, 2, 4, 5, 7, 8, 10, 11, 16, 21, 26, 31, 36, 41, 47, 48, 49, 50], [[0, 1, 2, 3, 5, 6, 7, 8, 9, 10, 11, 12, 13, 14, 18]], [5], [], 0, false⟩
  | 50 => ⟨[0, 2], [], [], [], 0, false⟩
  | 51 => ⟨[0, 2, 4, 14, 20], [], [], [], 0, false⟩
  | 52 => ⟨[0, 2, 3, 4, 6, 7, 8, 13], [[1, 3, 6, 7]], [], [], 0, false⟩
  | 53 => ⟨[0, 1, 2, 3, 6, 8, 9, 11, 16, 23], [], [], [], 0, false⟩
  | 54 => ⟨[0, 1, 2, 6, 7, 14, 21, 28, 35, 42, 49, 56], [], [], [], 0, false⟩
  | 55 => ⟨[0, 1, 4, 5, 7, 10, 11, 12, 13], [[0, 1, 2, 4, 8]], [], [], 0, false⟩
  | 56 => ⟨[0, 2, 3, 4, 6, 17, 18, 19, 23, 27, 32, 37, 42, 47, 52, 58], [[4, 7, 8, 9, 10, 11, 12, 13, 14, 15]], [], [], 0, false⟩
  | 57 => ⟨[0, 1], [], [], [], 0, false⟩
  | 58 => ⟨[0, 1, 5, 10, 11, 12, 13, 21, 22, 28, 34], [[1, 2, 6, 7, 8, 9, 10]], [], [], 0, false⟩
  | 59 => ⟨[0, 1, 2, 6, 7, 11], [[2, 3, 5]], [], [], 0, true⟩
  | 60 => ⟨[0, 1, 4], [], [], [], 0, true⟩
  | 61 => ⟨[0, 1, 4, 6, 13, 14, 15, 16, 26, 27, 33, 39], [[1, 2, 3, 7, 8, 9, 10, 11]], [], [], 0, true⟩
  | 62 => ⟨[0, 1, 4, 5, 7, 8, 9, 16], [[2, 3, 6, 7]], [], [], 0, false⟩
  | 63 => ⟨[0, 2], [], [], [], 0, false⟩
  | 64 => ⟨[0, 2], [], [], [], 0, false⟩
  | 65 => ⟨[0, 2], [], [], [], 0, false⟩
  | 66 => ⟨[0, 2, 3, 5, 6, 7, 18], [[1, 2, 5, 6]], [], [], 0, false⟩
  | 67 => ⟨[0, 1, 4], [], [], [], 0, false⟩
  | 68 => ⟨[0, 2], [], [], [], 0, false⟩
  | 69 => ⟨[0, 2], [], [], [], 0, false⟩
  | 70 => ⟨[0, 2, 3, 5, 6, 7, 18], [[1, 2, 5, 6]], [], [], 0, false⟩
  | 71 => ⟨[0, 1, 4, 5, 10, 12, 13, 14, 24], [[2, 3, 4, 7, 8]], [], [], 0, false⟩
  | 75 => ⟨[0, 2], [], [], [], 0, false⟩
  | 76 => ⟨[0, 1, 2, 3, 6], [], [], [], 0, false⟩
  | 78 => ⟨[0, 1, 2, 4, 5, 15, 25], [], [], [], 0, false⟩
  | 79 => ⟨[0, 2, 3, 5, 16], [], [], [], 0, false⟩
  | 80 => ⟨[0, 2, 3, 4, 9, 21], [[1, 4, 5]], [], [5], 0, false⟩
  | 81 => ⟨[0, 2, 3, 12], [], [], [], 0, false⟩
  | 82 => ⟨[0, 2, 3, 4, 6, 7, 8, 13, 14, 19, 24], [[1, 3, 6, 7, 8, 9, 10]], [3], [], 0, false⟩
  | 83 => ⟨[0, 1, 4, 5, 12], [], [], [], 0, false⟩
  | 84 => ⟨[0, 1, 4, 5, 23, 27, 28, 29], [[1, 2, 4, 7]], [], [], 0, false⟩
  | 85 => ⟨[0, 2, 3, 23], [], [], [], 0, false⟩
  | 86 => ⟨[0, 2, 3, 4, 5, 16, 23, 24, 29, 34], [[1, 4, 5, 6, 7, 8, 9]], [3], [], 0, false⟩
  | 87 => ⟨[0, 2], [], [], [], 0, false⟩
  | 88 => ⟨[0, 2], [], [], [], 0, false⟩
  | 89 => ⟨[0, 2, 3, 7, 14], [[1, 3, 4]], [], [], 0, false⟩
  | 90 => ⟨[0, 2, 3, 4, 6, 10, 17, 25, 35], [[1, 3, 4, 5, 6, 7, 8], [1, 2, 4, 5, 6, 7, 8]], [], [], 0, false⟩
  | 91 => ⟨[0, 2, 4, 5, 6, 7, 8, 13], [[0, 1, 2, 6, 7]], [], [], 0, false⟩
  | 95 => ⟨[0, 1, 2, 4, 5, 10, 20, 30], [], [], [], 0, false⟩
  | 96 => ⟨[0, 1, 2, 4, 5, 10, 17], [], [], [], 0, false⟩
  | 100 => ⟨[0, 2], [], [], [], 0, false⟩
  | 101 => ⟨[0, 2, 3, 7, 19], [[1, 3, 4]], [], [], 0, false⟩
  | 102 => ⟨[0, 2, 15], [], [], [], 0, false⟩
  | 103 => ⟨[0, 2, 3, 4], [], [], [], 0, false⟩
  | 104 => ⟨[0, 1, 4], [], [], [], 0, false⟩
  | 105 => ⟨[0, 1, 2], [], [], [], 0, false⟩
  | 106 => ⟨[0, 2], [], [], [], 0, false⟩
  | 107 => ⟨[0, 2], [], [], [], 0, false⟩
  | 112 => ⟨[0, 2], [], [], [], 0, false⟩
  | 113 => ⟨[0, 2], [], [], [], 0, false⟩
  | 114 => ⟨[0, 2], [], [], [], 0, false⟩
  | 117 => ⟨[0, 2], [], [], [], 0, false⟩
  | 118 => ⟨[0, 1, 4], [], [], [], 0, false⟩
  | 119 => ⟨[0, 2], [], [], [], 0, false⟩
  | 120 => ⟨[0, 2], [], [], [], 0, false⟩
  | 121 => ⟨[0, 1, 4, 5, 7, 8, 9, 16], [[2, 3, 6, 7]], [], [], 0, false⟩
  | 122 => ⟨[0, 2], [], [], [], 0, false⟩
  | 130 => ⟨[0, 1, 4], [], [], [], 0, false⟩
  | 131 => ⟨[0, 2], [], [], [], 0, false⟩
  | 132 => ⟨[0, 2, 3], [], [], [], 0, false⟩
  | 135 => ⟨[0, 1, 4, 5, 7, 8, 9, 16], [[2, 3, 6, 7]], [], [], 0, false⟩
  | 145 => ⟨[0, 1, 4], [], [], [], 0, false⟩
  | 152 => ⟨[0, 1, 2, 6, 7, 8, 10, 11, 12, 19], [[0, 3, 4, 5, 7, 8, 9]], [], [], 0, false⟩
  | _ => {}
def bufsR : TypeId → List (Nat × Nat) | 61 => [(0,1)] | _ => []
def globR : Nat → Option V | 2 => some (.agg [.int .i64 0, .int .i64 0, .str []]) | _ => none
def linR (f : FuncId) : Option Nat := if f = F.ref20_Number ∨ f = F.ref20_String ∨ f = F.ref20_Row then some 1 else none
def Val.toV (v : Val) : V := .agg [.int .i64 v.kd, .int .i64 v.n, .str v.t]
def RowR.toV : RowR → V
  | .nil sz => .sl true sz []
  | .mk l => .sl false 3 (l.map Val.toV)
def Rec.cells (x : Rec) : List V := [.int .i64 x.op, .int .i64 x.txn, .str x.owner, .str x.name, .int .i64 x.id, x.row.toV, .int .i64 x.time, .str x.text, .int .i64 x.n]
def Rec.toV (x : Rec) : V := .agg x.cells
/-- What is returned for bytes, or none. -/
def bytesR : Option (List UInt8) → V
  | none => .sl true 0 []
  | some b => .sl false 1 (bytesV b)
open Classical in
noncomputable def pEncode (args : List V) (m : Mem) : Option Out := if h : ∃ x : Rec, args = [x.toV] then some (.ret [bytesR (encode h.choose).1, .int .i64 (encode h.choose).2] m) else none
def pItoa (args : List V) (m : Mem) : Option Out := match args with
  | [.int .i64 n] => if -9223372036854775808 ≤ n ∧ n ≤ 9223372036854775807 then some (.ret [.str (Lib.itoa n)] m) else none
  | _ => none
def pFields (args : List V) (m : Mem) : Option Out := match args with
  | [.str s] => if s.length < 1000 ∧ s.all (fun c => c.toNat < 128) then some (.ret [.sl false 1 ((Lib.fields s).map .str)] m) else none
  | _ => none
def pReplaceAll (args : List V) (m : Mem) : Option Out := match args with
  | [.str s, .str old, .str new] => if s.length < 1000000 ∧ 1 ≤ old.length ∧ old.length < 1000 ∧ new.length < 1000 then some (.ret [.str (Lib.replaceAll s old new)] m) else none
  | _ => none
open Classical in
noncomputable def pJoin (args : List V) (m : Mem) : Option Out := match args with
  | [.sl nl sz xs, .str sep] => if h : ∃ l : List (List UInt8), xs = l.map .str ∧ (sz = 1 ∨ l = []) ∧ l.length < 100000 ∧ sep.length < 1000 ∧ (l.map List.length).sum < 100000000 then some (.ret [.str (Lib.join h.choose sep)] m) else none
  | _ => none
noncomputable def primR (f : FuncId) : Option (List V → Mem → Option Out) :=
  if f = F.strconv_Itoa then some pItoa else if f = F.strings_Fields then some pFields else if f = F.strings_ReplaceAll then some pReplaceAll else if f = F.strings_Join then some pJoin else none
def ann : Ann := { bufs := bufsR, globals := globR, lin := linR, fns := annF }
/-- The machine of this seat. -/
noncomputable def MM : Machine' := ⟨funOf Go.Proofs.Tryz.prog ann, primR⟩
theorem call_fn {f : FuncId} {F : VFun} (hF : funOf Go.Proofs.Tryz.prog ann f = some F) (hp : primR f = none) (args : List V) (m : Mem) (hl : args.length = F.params) :
    callL MM f args m = (ex (callL MM) m.length F.body (enter F args) m).bind (leave m.length F.res) := by
  rw [call_eq (F := F) (hp := hp) (hF := hF) (hl := hl)]
end Go.Vm.Redo
-- RV0: Functions of the program, resolved.
set_option maxRecDepth 100000
namespace Go.Vm.Redo
open Go Go.Vm
def vf_law20_RedoEncodes : VFun := ⟨[0, 1, 2, 3, 4, 5, 6, 7, 8, 9, 10, 15, 52], 2,
 .seq
 (.reg [⟨(some 2), .box (.v 0) [], none⟩,
  ⟨(some 3), .box (.v 1) [], none⟩,
  ⟨(some 4), .mov (.c (.bool false)), none⟩])
 (.seq
 (.seq
 (.reg [⟨none, .load (some 9) (.v 2), none⟩,
  ⟨none, .load (some 9) (.v 3), none⟩,
  ⟨none, .mksl 9 [(.l 1), (.l 0)], none⟩,
  ⟨none, .call F.ref20_Few [(.l 0)], none⟩,
  ⟨(some 11), .not (.l 0), none⟩])
 (.cond (.v 11)
 (.seq
 (.reg [⟨none, .call F.law20_awake [], none⟩,
  ⟨(some 4), .mov (.l 0), none⟩])
 (.ret))
 (.skip)))
 (.seq
 (.reg [⟨none, .load (some 9) (.v 2), none⟩,
  ⟨none, .call F.redo_Encode [(.l 0)], none⟩,
  ⟨none, .mov (.l 0), none⟩,
  ⟨none, .ext (.l 0) 0, none⟩,
  ⟨none, .ext (.l 1) 1, none⟩,
  ⟨(some 5), .mov (.l 1), none⟩,
  ⟨(some 6), .mov (.l 1), none⟩])
 (.seq
 (.reg [⟨none, .load (some 9) (.v 2), none⟩,
  ⟨none, .call F.ref20_Encode [(.l 0)], none⟩,
  ⟨none, .mov (.l 0), none⟩,
  ⟨none, .ext (.l 0) 0, none⟩,
  ⟨none, .ext (.l 1) 1, none⟩,
  ⟨(some 7), .mov (.l 1), none⟩,
  ⟨(some 8), .mov (.l 1), none⟩])
 (.seq
 (.seq
 (.draw [⟨none, .mov (.v 5), none⟩,
  ⟨none, .toStr false (.l 0), none⟩,
  ⟨none, .mov (.v 7), none⟩,
  ⟨none, .toStr false (.l 0), none⟩,
  ⟨none, .bin .neq (.l 2) (.l 0), none⟩,
  ⟨none, .mov (.l 0), none⟩,
  ⟨none, .mov (.v 6), (some (0, false))⟩,
  ⟨none, .mov (.v 8), (some (1, false))⟩,
  ⟨none, .bin .neq (.l 1) (.l 0), (some (2, false))⟩,
  ⟨none, .pick (.l 3) (.c (.bool true)) (.l 0), none⟩,
  ⟨none, .mov (.l 0), none⟩,
  ⟨none, .load (some 9) (.v 2), (some (0, false))⟩,
  ⟨none, .call F.redo_Valid [(.l 0)], (some (1, false))⟩,
  ⟨none, .load (some 9) (.v 2), (some (2, false))⟩,
  ⟨none, .call F.ref20_Valid [(.l 0)], (some (3, false))⟩,
  ⟨none, .eqs .bool true (.l 2) (.l 0), (some (4, false))⟩,
  ⟨none, .pick (.l 5) (.c (.bool true)) (.l 0), none⟩,
  ⟨none, .mov (.l 0), none⟩,
  ⟨none, .load (some 9) (.v 2), (some (0, false))⟩,
  ⟨none, .load (some 9) (.v 3), (some (1, false))⟩,
  ⟨none, .call F.redo_Same [(.l 1), (.l 0)], (some (2, false))⟩,
  ⟨none, .load (some 9) (.v 2), (some (3, false))⟩,
  ⟨none, .load (some 9) (.v 3), (some (4, false))⟩,
  ⟨none, .call F.ref20_Same [(.l 1), (.l 0)], (some (5, false))⟩,
  ⟨none, .eqs .bool true (.l 3) (.l 0), (some (6, false))⟩,
  ⟨(some 12), .pick (.l 7) (.c (.bool true)) (.l 0), none⟩] ⟨[(13, 12), (21, 20), (22, 20)], [0, 1, 0, 4, 15, 31, 63, 63, 255, 511, 1023, 2047, 4095, 2047, 16383, 32767, 65535, 131071, 262143, 262143, 1048575, 262143, 262143, 8388607, 16777215, 33554431]⟩)
 (.cond (.v 12)
 (.seq
 (.reg [⟨(some 4), .mov (.c (.bool false)), none⟩])
 (.ret))
 (.skip)))
 (.seq
 (.reg [⟨none, .load (some 9) (.v 2), none⟩,
  ⟨none, .call F.redo_Text [(.l 0)], none⟩,
  ⟨none, .mov (.l 0), none⟩,
  ⟨none, .ext (.l 0) 0, none⟩,
  ⟨none, .ext (.l 1) 1, none⟩,
  ⟨(some 9), .mov (.l 1), none⟩,
  ⟨(some 6), .mov (.l 1), none⟩])
 (.seq
 (.reg [⟨none, .load (some 9) (.v 2), none⟩,
  ⟨none, .call F.ref20_Text [(.l 0)], none⟩,
  ⟨none, .mov (.l 0), none⟩,
  ⟨none, .ext (.l 0) 0, none⟩,
  ⟨none, .ext (.l 1) 1, none⟩,
  ⟨(some 10), .mov (.l 1), none⟩,
  ⟨(some 8), .mov (.l 1), none⟩])
 (.seq
 (.reg [⟨none, .mov (.v 9), none⟩,
  ⟨none, .mov (.v 10), none⟩,
  ⟨none, .bin .eql (.l 1) (.l 0), none⟩,
  ⟨none, .mov (.l 0), none⟩,
  ⟨none, .mov (.v 6), (some (0, true))⟩,
  ⟨none, .mov (.v 8), (some (1, true))⟩,
  ⟨none, .bin .eql (.l 1) (.l 0), (some (2, true))⟩,
  ⟨none, .pick (.l 3) (.l 0) (.c (.bool false)), none⟩,
  ⟨none, .mov (.l 0), none⟩,
  ⟨none, .load (some 9) (.v 2), (some (0, true))⟩,
  ⟨none, .load (some 9) (.v 2), (some (1, true))⟩,
  ⟨none, .call F.redo_Same [(.l 1), (.l 0)], (some (2, true))⟩,
  ⟨none, .pick (.l 3) (.l 0) (.c (.bool false)), none⟩,
  ⟨none, .mov (.l 0), none⟩,
  ⟨none, .call F.law20_awake [], (some (0, true))⟩,
  ⟨none, .pick (.l 1) (.l 0) (.c (.bool false)), none⟩,
  ⟨(some 4), .mov (.l 0), none⟩])
 (.ret)))))))),
 [.v 4]⟩
theorem vfun_law20_RedoEncodes : funOf Go.Proofs.Tryz.prog ann F.law20_RedoEncodes = some vf_law20_RedoEncodes := by kernel_rfl
theorem call_law20_RedoEncodes (args : List V) (m : Mem) (hl : args.length = 2) : callL MM F.law20_RedoEncodes args m = (ex (callL MM) m.length vf_law20_RedoEncodes.body (enter vf_law20_RedoEncodes args) m).bind (leave m.length vf_law20_RedoEncodes.res) := call_fn vfun_law20_RedoEncodes rfl args m hl
def vf_law20_RedoDecodes : VFun := ⟨[0, 1, 4, 5, 6, 7, 8, 9, 10, 11, 12, 13, 15, 45, 64], 2,
 .seq
 (.reg [⟨(some 2), .mov (.c (.bool false)), none⟩])
 (.seq
 (.seq
 (.reg [⟨none, .mov (.v 0), none⟩,
  ⟨(some 12), .call F.law20_long [(.l 0)], none⟩])
 (.cond (.v 12)
 (.seq
 (.reg [⟨none, .call F.law20_awake [], none⟩,
  ⟨(some 2), .mov (.l 0), none⟩])
 (.ret))
 (.skip)))
 (.seq
 (.reg [⟨none, .mkbuf 1 [], none⟩,
  ⟨none, .mov (.v 0), none⟩,
  ⟨none, .app 1 1 (.l 1) (.l 0), none⟩,
  ⟨(some 3), .mov (.l 0), none⟩])
 (.seq
 (.reg [⟨none, .mov (.v 3), none⟩,
  ⟨none, .call F.redo_Decode [(.l 0)], none⟩,
  ⟨none, .mov (.l 0), none⟩,
  ⟨none, .ext (.l 0) 0, none⟩,
  ⟨none, .ext (.l 1) 1, none⟩,
  ⟨none, .ext (.l 2) 2, none⟩,
  ⟨(some 4), .alloc [.int .i64 (0), .int .i64 (0), .str [], .str [], .int .i64 (0), .sl true 0 [], .int .i64 (0), .str [], .int .i64 (0)] [], none⟩,
  ⟨none, .store 9 (.v 4) (.l 3), none⟩,
  ⟨(some 5), .mov (.l 3), none⟩,
  ⟨(some 6), .mov (.l 3), none⟩])
 (.seq
 (.reg [⟨none, .mov (.v 0), none⟩,
  ⟨none, .call F.ref20_Decode [(.l 0)], none⟩,
  ⟨none, .mov (.l 0), none⟩,
  ⟨none, .ext (.l 0) 0, none⟩,
  ⟨none, .ext (.l 1) 1, none⟩,
  ⟨none, .ext (.l 2) 2, none⟩,
  ⟨(some 7), .alloc [.int .i64 (0), .int .i64 (0), .str [], .str [], .int .i64 (0), .sl true 0 [], .int .i64 (0), .str [], .int .i64 (0)] [], none⟩,
  ⟨none, .store 9 (.v 7) (.l 3), none⟩,
  ⟨(some 8), .mov (.l 3), none⟩,
  ⟨(some 9), .mov (.l 3), none⟩])
 (.seq
 (.seq
 (.reg [⟨none, .load (some 9) (.v 4), none⟩,
  ⟨none, .load (some 9) (.v 7), none⟩,
  ⟨none, .call F.ref20_Same [(.l 1), (.l 0)], none⟩,
  ⟨none, .not (.l 0), none⟩,
  ⟨none, .mov (.l 0), none⟩,
  ⟨none, .mov (.v 5), (some (0, false))⟩,
  ⟨none, .mov (.v 8), (some (1, false))⟩,
  ⟨none, .bin .neq (.l 1) (.l 0), (some (2, false))⟩,
  ⟨none, .pick (.l 3) (.c (.bool true)) (.l 0), none⟩,
  ⟨none, .mov (.l 0), none⟩,
  ⟨none, .mov (.v 6), (some (0, false))⟩,
  ⟨none, .mov (.v 9), (some (1, false))⟩,
  ⟨none, .bin .neq (.l 1) (.l 0), (some (2, false))⟩,
  ⟨(some 13), .pick (.l 3) (.c (.bool true)) (.l 0), none⟩])
 (.cond (.v 13)
 (.seq
 (.reg [⟨(some 2), .mov (.c (.bool false)), none⟩])
 (.ret))
 (.skip)))
 (.seq
 (.reg [⟨none, .mov (.v 3), none⟩,
  ⟨none, .call F.redo_Read [(.l 0)], none⟩,
  ⟨none, .mov (.l 0), none⟩,
  ⟨none, .ext (.l 0) 0, none⟩,
  ⟨none, .ext (.l 1) 1, none⟩,
  ⟨(some 10), .mov (.l 1), none⟩,
  ⟨(some 5), .mov (.l 1), none⟩])
 (.seq
 (.reg [⟨none, .mov (.v 0), none⟩,
  ⟨none, .call F.ref20_Read [(.l 0)], none⟩,
  ⟨none, .mov (.l 0), none⟩,
  ⟨none, .ext (.l 0) 0, none⟩,
  ⟨none, .ext (.l 1) 1, none⟩,
  ⟨(some 11), .mov (.l 1), none⟩,
  ⟨(some 8), .mov (.l 1), none⟩])
 (.seq
 (.seq
 (.reg [⟨none, .mov (.v 10), none⟩,
  ⟨none, .mov (.v 11), none⟩,
  ⟨none, .call F.ref20_SameAll [(.l 1), (.l 0)], none⟩,
  ⟨none, .not (.l 0), none⟩,
  ⟨none, .mov (.l 0), none⟩,
  ⟨none, .mov (.v 5), (some (0, false))⟩,
  ⟨none, .mov (.v 8), (some (1, false))⟩,
  ⟨none, .bin .neq (.l 1) (.l 0), (some (2, false))⟩,
  ⟨(some 14), .pick (.l 3) (.c (.bool true)) (.l 0), none⟩])
 (.cond (.v 14)
 (.seq
 (.reg [⟨(some 2), .mov (.c (.bool false)), none⟩])
 (.ret))
 (.skip)))
 (.seq
 (.reg [⟨none, .mov (.v 3), none⟩,
  ⟨none, .mov (.v 1), none⟩,
  ⟨none, .call F.redo_Cut [(.l 1), (.l 0)], none⟩,
  ⟨none, .mov (.l 0), none⟩,
  ⟨none, .ext (.l 0) 0, none⟩,
  ⟨none, .ext (.l 1) 1, none⟩,
  ⟨(some 10), .mov (.l 1), none⟩,
  ⟨(some 6), .mov (.l 1), none⟩])
 (.seq
 (.reg [⟨none, .mov (.v 0), none⟩,
  ⟨none, .mov (.v 1), none⟩,
  ⟨none, .call F.ref20_Cut [(.l 1), (.l 0)], none⟩,
  ⟨none, .mov (.l 0), none⟩,
  ⟨none, .ext (.l 0) 0, none⟩,
  ⟨none, .ext (.l 1) 1, none⟩,
  ⟨(some 11), .mov (.l 1), none⟩,
  ⟨(some 9), .mov (.l 1), none⟩])
 (.seq
 (.reg [⟨none, .mov (.v 10), none⟩,
  ⟨none, .mov (.v 11), none⟩,
  ⟨none, .call F.ref20_SameAll [(.l 1), (.l 0)], none⟩,
  ⟨none, .mov (.l 0), none⟩,
  ⟨none, .mov (.v 6), (some (0, true))⟩,
  ⟨none, .mov (.v 9), (some (1, true))⟩,
  ⟨none, .bin .eql (.l 1) (.l 0), (some (2, true))⟩,
  ⟨none, .pick (.l 3) (.l 0) (.c (.bool false)), none⟩,
  ⟨none, .mov (.l 0), none⟩,
  ⟨none, .mov (.v 0), (some (0, true))⟩,
  ⟨none, .toStr false (.l 0), (some (1, true))⟩,
  ⟨none, .mov (.v 3), (some (2, true))⟩,
  ⟨none, .toStr false (.l 0), (some (3, true))⟩,
  ⟨none, .bin .eql (.l 2) (.l 0), (some (4, true))⟩,
  ⟨none, .pick (.l 5) (.l 0) (.c (.bool false)), none⟩,
  ⟨none, .mov (.l 0), none⟩,
  ⟨none, .call F.law20_awake [], (some (0, true))⟩,
  ⟨none, .pick (.l 1) (.l 0) (.c (.bool false)), none⟩,
  ⟨(some 2), .mov (.l 0), none⟩])
 (.ret)))))))))))),
 [.v 2]⟩
theorem vfun_law20_RedoDecodes : funOf Go.Proofs.Tryz.prog ann F.law20_RedoDecodes = some vf_law20_RedoDecodes := by kernel_rfl
theorem call_law20_RedoDecodes (args : List V) (m : Mem) (hl : args.length = 2) : callL MM F.law20_RedoDecodes args m = (ex (callL MM) m.length vf_law20_RedoDecodes.body (enter vf_law20_RedoDecodes args) m).bind (leave m.length vf_law20_RedoDecodes.res) := call_fn vfun_law20_RedoDecodes rfl args m hl
def vf_law20_RedoWrites : VFun := ⟨[0, 2, 3, 4, 5, 6, 9], 1,
 .seq
 (.reg [⟨(some 1), .mov (.c (.bool false)), none⟩])
 (.seq
 (.seq
 (.reg [⟨none, .mov (.v 0), none⟩,
  ⟨none, .call F.ref20_Few [(.l 0)], none⟩,
  ⟨(some 6), .not (.l 0), none⟩])
 (.cond (.v 6)
 (.seq
 (.reg [⟨none, .call F.law20_awake [], none⟩,
  ⟨(some 1), .mov (.l 0), none⟩])
 (.ret))
 (.skip)))
 (.seq
 (.reg [⟨none, .mov (.v 0), none⟩,
  ⟨none, .call F.redo_Write [(.l 0)], none⟩,
  ⟨none, .mov (.l 0), none⟩,
  ⟨none, .ext (.l 0) 0, none⟩,
  ⟨none, .ext (.l 1) 1, none⟩,
  ⟨(some 2), .mov (.l 1), none⟩,
  ⟨(some 3), .mov (.l 1), none⟩])
 (.seq
 (.reg [⟨none, .mov (.v 0), none⟩,
  ⟨none, .call F.ref20_Write [(.l 0)], none⟩,
  ⟨none, .mov (.l 0), none⟩,
  ⟨none, .ext (.l 0) 0, none⟩,
  ⟨none, .ext (.l 1) 1, none⟩,
  ⟨(some 4), .mov (.l 1), none⟩,
  ⟨(some 5), .mov (.l 1), none⟩])
 (.seq
 (.reg [⟨none, .mov (.v 2), none⟩,
  ⟨none, .toStr false (.l 0), none⟩,
  ⟨none, .mov (.v 4), none⟩,
  ⟨none, .toStr false (.l 0), none⟩,
  ⟨none, .bin .eql (.l 2) (.l 0), none⟩,
  ⟨none, .mov (.l 0), none⟩,
  ⟨none, .mov (.v 3), (some (0, true))⟩,
  ⟨none, .mov (.v 5), (some (1, true))⟩,
  ⟨none, .bin .eql (.l 1) (.l 0), (some (2, true))⟩,
  ⟨none, .pick (.l 3) (.l 0) (.c (.bool false)), none⟩,
  ⟨none, .mov (.l 0), none⟩,
  ⟨none, .call F.law20_awake [], (some (0, true))⟩,
  ⟨none, .pick (.l 1) (.l 0) (.c (.bool false)), none⟩,
  ⟨(some 1), .mov (.l 0), none⟩])
 (.ret))))),
 [.v 1]⟩
theorem vfun_law20_RedoWrites : funOf Go.Proofs.Tryz.prog ann F.law20_RedoWrites = some vf_law20_RedoWrites := by kernel_rfl
theorem call_law20_RedoWrites (args : List V) (m : Mem) (hl : args.length = 1) : callL MM F.law20_RedoWrites args m = (ex (callL MM) m.length vf_law20_RedoWrites.body (enter vf_law20_RedoWrites args) m).bind (leave m.length vf_law20_RedoWrites.res) := call_fn vfun_law20_RedoWrites rfl args m hl
def vf_law20_RedoBack : VFun := ⟨[0, 1, 4, 5, 6, 7, 8, 9, 10, 11, 18, 26, 51, 54, 84], 2,
 .seq
 (.reg [⟨(some 2), .mov (.c (.bool false)), none⟩])
 (.seq
 (.seq
 (.reg [⟨none, .mov (.v 0), none⟩,
  ⟨none, .call F.ref20_Few [(.l 0)], none⟩,
  ⟨none, .not (.l 0), none⟩,
  ⟨none, .mov (.l 0), none⟩,
  ⟨none, .mov (.v 1), (some (0, false))⟩,
  ⟨none, .call F.law20_long [(.l 0)], (some (1, false))⟩,
  ⟨(some 10), .pick (.l 2) (.c (.bool true)) (.l 0), none⟩])
 (.cond (.v 10)
 (.seq
 (.reg [⟨none, .call F.law20_awake [], none⟩,
  ⟨(some 2), .mov (.l 0), none⟩])
 (.ret))
 (.skip)))
 (.seq
 (.reg [⟨none, .mov (.v 0), none⟩,
  ⟨none, .call F.redo_Write [(.l 0)], none⟩,
  ⟨none, .mov (.l 0), none⟩,
  ⟨none, .ext (.l 0) 0, none⟩,
  ⟨none, .ext (.l 1) 1, none⟩,
  ⟨(some 3), .mov (.l 1), none⟩,
  ⟨(some 4), .mov (.l 1), none⟩])
 (.seq
 (.seq
 (.reg [⟨none, .mov (.v 4), none⟩,
  ⟨(some 11), .bin .neq (.l 0) (.c (.int .i64 (0))), none⟩])
 (.cond (.v 11)
 (.seq
 (.reg [⟨none, .mov (.v 4), none⟩,
  ⟨none, .bin .eql (.l 0) (.c (.int .i64 (2))), none⟩,
  ⟨none, .mov (.l 0), none⟩,
  ⟨none, .mov (.v 3), (some (0, true))⟩,
  ⟨none, .len false (.l 0), (some (1, true))⟩,
  ⟨none, .bin .eql (.l 0) (.c (.int .i64 (0))), (some (2, true))⟩,
  ⟨none, .pick (.l 3) (.l 0) (.c (.bool false)), none⟩,
  ⟨none, .mov (.l 0), none⟩,
  ⟨none, .call F.law20_awake [], (some (0, true))⟩,
  ⟨none, .pick (.l 1) (.l 0) (.c (.bool false)), none⟩,
  ⟨(some 2), .mov (.l 0), none⟩])
 (.ret))
 (.skip)))
 (.seq
 (.reg [⟨none, .mov (.v 3), none⟩,
  ⟨none, .call F.redo_Read [(.l 0)], none⟩,
  ⟨none, .mov (.l 0), none⟩,
  ⟨none, .ext (.l 0) 0, none⟩,
  ⟨none, .ext (.l 1) 1, none⟩,
  ⟨(some 5), .mov (.l 1), none⟩,
  ⟨(some 6), .mov (.l 1), none⟩])
 (.seq
 (.seq
 (.reg [⟨none, .mov (.v 0), none⟩,
  ⟨none, .mov (.v 5), none⟩,
  ⟨none, .call F.ref20_SameAll [(.l 1), (.l 0)], none⟩,
  ⟨none, .not (.l 0), none⟩,
  ⟨none, .mov (.l 0), none⟩,
  ⟨none, .mov (.v 6), (some (0, false))⟩,
  ⟨none, .mov (.v 3), (some (1, false))⟩,
  ⟨none, .len false (.l 0), (some (2, false))⟩,
  ⟨none, .bin .neq (.l 2) (.l 0), (some (3, false))⟩,
  ⟨(some 12), .pick (.l 4) (.c (.bool true)) (.l 0), none⟩])
 (.cond (.v 12)
 (.seq
 (.reg [⟨(some 2), .mov (.c (.bool false)), none⟩])
 (.ret))
 (.skip)))
 (.seq
 (.seq
 (.reg [⟨none, .mov (.v 0), none⟩,
  ⟨none, .len false (.l 0), none⟩,
  ⟨(some 13), .bin .gtr (.l 0) (.c (.int .i64 (0))), none⟩])
 (.cond (.v 13)
 (.seq
 (.reg [⟨none, .mkbuf 1 [], none⟩,
  ⟨none, .mov (.v 3), none⟩,
  ⟨none, .app 1 1 (.l 1) (.l 0), none⟩,
  ⟨none, .mov (.v 1), none⟩,
  ⟨none, .app 1 1 (.l 1) (.l 0), none⟩,
  ⟨none, .call F.redo_Decode [(.l 0)], none⟩,
  ⟨none, .mov (.l 0), none⟩,
  ⟨none, .ext (.l 0) 0, none⟩,
  ⟨none, .ext (.l 1) 1, none⟩,
  ⟨none, .ext (.l 2) 2, none⟩,
  ⟨(some 7), .alloc [.int .i64 (0), .int .i64 (0), .str [], .str [], .int .i64 (0), .sl true 0 [], .int .i64 (0), .str [], .int .i64 (0)] [], none⟩,
  ⟨none, .store 9 (.v 7) (.l 3), none⟩,
  ⟨(some 8), .mov (.l 3), none⟩,
  ⟨(some 9), .mov (.l 3), none⟩])
 (.seq
 (.draw [⟨none, .mov (.v 9), none⟩,
  ⟨none, .bin .neq (.l 0) (.c (.int .i64 (0))), none⟩,
  ⟨none, .mov (.l 0), none⟩,
  ⟨none, .load (some 9) (.v 7), (some (0, false))⟩,
  ⟨none, .mov (.v 0), (some (1, false))⟩,
  ⟨none, .iaddr 9 (.l 0) (.c (.int .i64 (0))), (some (2, false))⟩,
  ⟨none, .load (some 9) (.l 0), (some (3, false))⟩,
  ⟨none, .call F.redo_Same [(.l 3), (.l 0)], (some (4, false))⟩,
  ⟨none, .not (.l 0), (some (5, false))⟩,
  ⟨none, .pick (.l 6) (.c (.bool true)) (.l 0), none⟩,
  ⟨none, .mov (.l 0), none⟩,
  ⟨none, .mov (.v 8), (some (0, false))⟩,
  ⟨none, .bin .lss (.l 0) (.c (.int .i64 (7))), (some (1, false))⟩,
  ⟨none, .pick (.l 2) (.c (.bool true)) (.l 0), none⟩,
  ⟨none, .mov (.l 0), none⟩,
  ⟨none, .mov (.v 8), (some (0, false))⟩,
  ⟨none, .mov (.v 3), (some (1, false))⟩,
  ⟨none, .len false (.l 0), (some (2, false))⟩,
  ⟨none, .bin .gtr (.l 2) (.l 0), (some (3, false))⟩,
  ⟨(some 14), .pick (.l 4) (.c (.bool true)) (.l 0), none⟩] ⟨[], [0, 1, 3, 7, 7, 23, 55, 127, 255, 511, 1023, 2047, 4095, 8191, 16383, 32767, 32767, 98303, 262143, 524287]⟩)
 (.cond (.v 14)
 (.seq
 (.reg [⟨(some 2), .mov (.c (.bool false)), none⟩])
 (.ret))
 (.skip))))
 (.skip)))
 (.seq
 (.reg [⟨none, .call F.law20_awake [], none⟩,
  ⟨(some 2), .mov (.l 0), none⟩])
 (.ret)))))))),
 [.v 2]⟩
theorem vfun_law20_RedoBack : funOf Go.Proofs.Tryz.prog ann F.law20_RedoBack = some vf_law20_RedoBack := by kernel_rfl
theorem call_law20_RedoBack (args : List V) (m : Mem) (hl : args.length = 2) : callL MM F.law20_RedoBack args m = (ex (callL MM) m.length vf_law20_RedoBack.body (enter vf_law20_RedoBack args) m).bind (leave m.length vf_law20_RedoBack.res) := call_fn vfun_law20_RedoBack rfl args m hl
def vf_law20_RedoCuts : VFun := ⟨[0, 1, 4, 5, 6, 7, 8, 9, 10, 11, 12, 13, 16, 24, 57, 70, 75], 2,
 .seq
 (.reg [⟨(some 2), .mov (.c (.bool false)), none⟩])
 (.seq
 (.seq
 (.reg [⟨none, .mov (.v 0), none⟩,
  ⟨none, .call F.ref20_Few [(.l 0)], none⟩,
  ⟨(some 12), .not (.l 0), none⟩])
 (.cond (.v 12)
 (.seq
 (.reg [⟨none, .call F.law20_awake [], none⟩,
  ⟨(some 2), .mov (.l 0), none⟩])
 (.ret))
 (.skip)))
 (.seq
 (.reg [⟨none, .mov (.v 0), none⟩,
  ⟨none, .call F.redo_Write [(.l 0)], none⟩,
  ⟨none, .mov (.l 0), none⟩,
  ⟨none, .ext (.l 0) 0, none⟩,
  ⟨none, .ext (.l 1) 1, none⟩,
  ⟨(some 3), .mov (.l 1), none⟩,
  ⟨(some 4), .mov (.l 1), none⟩])
 (.seq
 (.seq
 (.reg [⟨none, .mov (.v 4), none⟩,
  ⟨(some 13), .bin .neq (.l 0) (.c (.int .i64 (0))), none⟩])
 (.cond (.v 13)
 (.seq
 (.reg [⟨none, .call F.law20_awake [], none⟩,
  ⟨(some 2), .mov (.l 0), none⟩])
 (.ret))
 (.skip)))
 (.seq
 (.reg [⟨none, .mov (.v 1), none⟩,
  ⟨none, .conv .u64 (.l 0), none⟩,
  ⟨none, .mov (.v 3), none⟩,
  ⟨none, .len false (.l 0), none⟩,
  ⟨none, .bin .add (.l 0) (.c (.int .i64 (1))), none⟩,
  ⟨none, .conv .u64 (.l 0), none⟩,
  ⟨none, .bin .rem (.l 4) (.l 0), none⟩,
  ⟨none, .conv .i64 (.l 0), none⟩,
  ⟨(some 5), .mov (.l 0), none⟩])
 (.seq
 (.reg [⟨none, .mov (.v 3), none⟩,
  ⟨none, .mov (.v 5), none⟩,
  ⟨none, .call F.redo_Cut [(.l 1), (.l 0)], none⟩,
  ⟨none, .mov (.l 0), none⟩,
  ⟨none, .ext (.l 0) 0, none⟩,
  ⟨none, .ext (.l 1) 1, none⟩,
  ⟨(some 6), .mov (.l 1), none⟩,
  ⟨(some 7), .mov (.l 1), none⟩])
 (.seq
 (.seq
 (.reg [⟨none, .mov (.v 7), none⟩,
  ⟨none, .bin .neq (.l 0) (.c (.int .i64 (0))), none⟩,
  ⟨none, .mov (.l 0), none⟩,
  ⟨none, .mov (.v 6), (some (0, false))⟩,
  ⟨none, .len false (.l 0), (some (1, false))⟩,
  ⟨none, .mov (.v 0), (some (2, false))⟩,
  ⟨none, .len false (.l 0), (some (3, false))⟩,
  ⟨none, .bin .gtr (.l 2) (.l 0), (some (4, false))⟩,
  ⟨none, .pick (.l 5) (.c (.bool true)) (.l 0), none⟩,
  ⟨none, .mov (.l 0), none⟩,
  ⟨none, .mov (.v 6), (some (0, false))⟩,
  ⟨none, .mov (.v 0), (some (1, false))⟩,
  ⟨none, .mov (.v 6), (some (2, false))⟩,
  ⟨none, .len false (.l 0), (some (3, false))⟩,
  ⟨none, .slice (some 9) (.l 2) none (some (.l 0)) none, (some (4, false))⟩,
  ⟨none, .call F.ref20_SameAll [(.l 4), (.l 0)], (some (5, false))⟩,
  ⟨none, .not (.l 0), (some (6, false))⟩,
  ⟨(some 14), .pick (.l 7) (.c (.bool true)) (.l 0), none⟩])
 (.cond (.v 14)
 (.seq
 (.reg [⟨(some 2), .mov (.c (.bool false)), none⟩])
 (.ret))
 (.skip)))
 (.seq
 (.reg [⟨none, .mov (.v 6), none⟩,
  ⟨none, .call F.redo_Write [(.l 0)], none⟩,
  ⟨none, .mov (.l 0), none⟩,
  ⟨none, .ext (.l 0) 0, none⟩,
  ⟨none, .ext (.l 1) 1, none⟩,
  ⟨(some 8), .mov (.l 1), none⟩,
  ⟨(some 9), .mov (.l 1), none⟩])
 (.seq
 (.seq
 (.reg [⟨none, .mov (.v 9), none⟩,
  ⟨none, .bin .neq (.l 0) (.c (.int .i64 (0))), none⟩,
  ⟨none, .mov (.l 0), none⟩,
  ⟨none, .mov (.v 8), (some (0, false))⟩,
  ⟨none, .len false (.l 0), (some (1, false))⟩,
  ⟨none, .mov (.v 5), (some (2, false))⟩,
  ⟨none, .bin .gtr (.l 1) (.l 0), (some (3, false))⟩,
  ⟨(some 15), .pick (.l 4) (.c (.bool true)) (.l 0), none⟩])
 (.cond (.v 15)
 (.seq
 (.reg [⟨(some 2), .mov (.c (.bool false)), none⟩])
 (.ret))
 (.skip)))
 (.seq
 (.seq
 (.reg [⟨none, .mov (.v 6), none⟩,
  ⟨none, .len false (.l 0), none⟩,
  ⟨none, .mov (.v 0), none⟩,
  ⟨none, .len false (.l 0), none⟩,
  ⟨(some 16), .bin .eql (.l 2) (.l 0), none⟩])
 (.cond (.v 16)
 (.seq
 (.reg [⟨none, .call F.law20_awake [], none⟩,
  ⟨(some 2), .mov (.l 0), none⟩])
 (.ret))
 (.skip)))
 (.seq
 (.reg [⟨none, .mov (.v 0), none⟩,
  ⟨none, .mov (.v 6), none⟩,
  ⟨none, .len false (.l 0), none⟩,
  ⟨none, .iaddr 9 (.l 2) (.l 0), none⟩,
  ⟨none, .load (some 9) (.l 0), none⟩,
  ⟨none, .call F.redo_Encode [(.l 0)], none⟩,
  ⟨none, .mov (.l 0), none⟩,
  ⟨none, .ext (.l 0) 0, none⟩,
  ⟨none, .ext (.l 1) 1, none⟩,
  ⟨(some 10), .mov (.l 1), none⟩,
  ⟨(some 11), .mov (.l 1), none⟩])
 (.seq
 (.reg [⟨none, .mov (.v 11), none⟩,
  ⟨none, .bin .eql (.l 0) (.c (.int .i64 (0))), none⟩,
  ⟨none, .mov (.l 0), none⟩,
  ⟨none, .mov (.v 8), (some (0, true))⟩,
  ⟨none, .len false (.l 0), (some (1, true))⟩,
  ⟨none, .mov (.v 10), (some (2, true))⟩,
  ⟨none, .len false (.l 0), (some (3, true))⟩,
  ⟨none, .bin .add (.l 2) (.l 0), (some (4, true))⟩,
  ⟨none, .mov (.v 5), (some (5, true))⟩,
  ⟨none, .bin .gtr (.l 1) (.l 0), (some (6, true))⟩,
  ⟨none, .pick (.l 7) (.l 0) (.c (.bool false)), none⟩,
  ⟨none, .mov (.l 0), none⟩,
  ⟨none, .call F.law20_awake [], (some (0, true))⟩,
  ⟨none, .pick (.l 1) (.l 0) (.c (.bool false)), none⟩,
  ⟨(some 2), .mov (.l 0), none⟩])
 (.ret)))))))))))),
 [.v 2]⟩
theorem vfun_law20_RedoCuts : funOf Go.Proofs.Tryz.prog ann F.law20_RedoCuts = some vf_law20_RedoCuts := by kernel_rfl
theorem call_law20_RedoCuts (args : List V) (m : Mem) (hl : args.length = 2) : callL MM F.law20_RedoCuts args m = (ex (callL MM) m.length vf_law20_RedoCuts.body (enter vf_law20_RedoCuts args) m).bind (leave m.length vf_law20_RedoCuts.res) := call_fn vfun_law20_RedoCuts rfl args m hl
def vf_law20_RedoParts : VFun := ⟨[0, 1, 4, 5, 6, 7, 8, 9, 10, 11, 12, 20, 37], 2,
 .seq
 (.reg [⟨(some 2), .mov (.c (.bool false)), none⟩])
 (.seq
 (.seq
 (.reg [⟨none, .mov (.v 0), none⟩,
  ⟨none, .call F.ref20_Few [(.l 0)], none⟩,
  ⟨none, .not (.l 0), none⟩,
  ⟨none, .mov (.l 0), none⟩,
  ⟨none, .mov (.v 1), (some (0, false))⟩,
  ⟨none, .call F.ref20_Few [(.l 0)], (some (1, false))⟩,
  ⟨none, .not (.l 0), (some (2, false))⟩,
  ⟨(some 11), .pick (.l 3) (.c (.bool true)) (.l 0), none⟩])
 (.cond (.v 11)
 (.seq
 (.reg [⟨none, .call F.law20_awake [], none⟩,
  ⟨(some 2), .mov (.l 0), none⟩])
 (.ret))
 (.skip)))
 (.seq
 (.reg [⟨none, .mov (.v 0), none⟩,
  ⟨none, .call F.redo_Write [(.l 0)], none⟩,
  ⟨none, .mov (.l 0), none⟩,
  ⟨none, .ext (.l 0) 0, none⟩,
  ⟨none, .ext (.l 1) 1, none⟩,
  ⟨(some 3), .mov (.l 1), none⟩,
  ⟨(some 4), .mov (.l 1), none⟩])
 (.seq
 (.reg [⟨none, .mov (.v 1), none⟩,
  ⟨none, .call F.redo_Write [(.l 0)], none⟩,
  ⟨none, .mov (.l 0), none⟩,
  ⟨none, .ext (.l 0) 0, none⟩,
  ⟨none, .ext (.l 1) 1, none⟩,
  ⟨(some 5), .mov (.l 1), none⟩,
  ⟨(some 6), .mov (.l 1), none⟩])
 (.seq
 (.seq
 (.reg [⟨none, .mov (.v 4), none⟩,
  ⟨none, .bin .neq (.l 0) (.c (.int .i64 (0))), none⟩,
  ⟨none, .mov (.l 0), none⟩,
  ⟨none, .mov (.v 6), (some (0, false))⟩,
  ⟨none, .bin .neq (.l 0) (.c (.int .i64 (0))), (some (1, false))⟩,
  ⟨(some 12), .pick (.l 2) (.c (.bool true)) (.l 0), none⟩])
 (.cond (.v 12)
 (.seq
 (.reg [⟨none, .call F.law20_awake [], none⟩,
  ⟨(some 2), .mov (.l 0), none⟩])
 (.ret))
 (.skip)))
 (.seq
 (.reg [⟨none, .mkbuf 1 [], none⟩,
  ⟨none, .mov (.v 3), none⟩,
  ⟨none, .app 1 1 (.l 1) (.l 0), none⟩,
  ⟨none, .mov (.v 5), none⟩,
  ⟨none, .app 1 1 (.l 1) (.l 0), none⟩,
  ⟨none, .call F.redo_Read [(.l 0)], none⟩,
  ⟨none, .mov (.l 0), none⟩,
  ⟨none, .ext (.l 0) 0, none⟩,
  ⟨none, .ext (.l 1) 1, none⟩,
  ⟨(some 7), .mov (.l 1), none⟩,
  ⟨(some 8), .mov (.l 1), none⟩])
 (.seq
 (.reg [⟨none, .mkbuf 9 [], none⟩,
  ⟨none, .mov (.v 0), none⟩,
  ⟨none, .app 9 112 (.l 1) (.l 0), none⟩,
  ⟨none, .mov (.v 1), none⟩,
  ⟨none, .app 9 112 (.l 1) (.l 0), none⟩,
  ⟨none, .call F.redo_Write [(.l 0)], none⟩,
  ⟨none, .mov (.l 0), none⟩,
  ⟨none, .ext (.l 0) 0, none⟩,
  ⟨none, .ext (.l 1) 1, none⟩,
  ⟨(some 9), .mov (.l 1), none⟩,
  ⟨(some 10), .mov (.l 1), none⟩])
 (.seq
 (.reg [⟨none, .mov (.v 8), none⟩,
  ⟨none, .mov (.v 3), none⟩,
  ⟨none, .len false (.l 0), none⟩,
  ⟨none, .mov (.v 5), none⟩,
  ⟨none, .len false (.l 0), none⟩,
  ⟨none, .bin .add (.l 2) (.l 0), none⟩,
  ⟨none, .bin .eql (.l 5) (.l 0), none⟩,
  ⟨none, .mov (.l 0), none⟩,
  ⟨none, .mov (.v 7), (some (0, true))⟩,
  ⟨none, .mkbuf 9 [], (some (1, true))⟩,
  ⟨none, .mov (.v 0), (some (2, true))⟩,
  ⟨none, .app 9 112 (.l 1) (.l 0), (some (3, true))⟩,
  ⟨none, .mov (.v 1), (some (4, true))⟩,
  ⟨none, .app 9 112 (.l 1) (.l 0), (some (5, true))⟩,
  ⟨none, .call F.ref20_SameAll [(.l 5), (.l 0)], (some (6, true))⟩,
  ⟨none, .pick (.l 7) (.l 0) (.c (.bool false)), none⟩,
  ⟨none, .mov (.l 0), none⟩,
  ⟨none, .mov (.v 10), (some (0, true))⟩,
  ⟨none, .bin .eql (.l 0) (.c (.int .i64 (0))), (some (1, true))⟩,
  ⟨none, .pick (.l 2) (.l 0) (.c (.bool false)), none⟩,
  ⟨none, .mov (.l 0), none⟩,
  ⟨none, .mov (.v 9), (some (0, true))⟩,
  ⟨none, .toStr false (.l 0), (some (1, true))⟩,
  ⟨none, .mov (.v 3), (some (2, true))⟩,
  ⟨none, .toStr false (.l 0), (some (3, true))⟩,
  ⟨none, .mov (.v 5), (some (4, true))⟩,
  ⟨none, .toStr false (.l 0), (some (5, true))⟩,
  ⟨none, .bin .add (.l 2) (.l 0), (some (6, true))⟩,
  ⟨none, .bin .eql (.l 5) (.l 0), (some (7, true))⟩,
  ⟨none, .pick (.l 8) (.l 0) (.c (.bool false)), none⟩,
  ⟨none, .mov (.l 0), none⟩,
  ⟨none, .call F.law20_awake [], (some (0, true))⟩,
  ⟨none, .pick (.l 1) (.l 0) (.c (.bool false)), none⟩,
  ⟨(some 2), .mov (.l 0), none⟩])
 (.ret)))))))),
 [.v 2]⟩
theorem vfun_law20_RedoParts : funOf Go.Proofs.Tryz.prog ann F.law20_RedoParts = some vf_law20_RedoParts := by kernel_rfl
theorem call_law20_RedoParts (args : List V) (m : Mem) (hl : args.length = 2) : callL MM F.law20_RedoParts args m = (ex (callL MM) m.length vf_law20_RedoParts.body (enter vf_law20_RedoParts args) m).bind (leave m.length vf_law20_RedoParts.res) := call_fn vfun_law20_RedoParts rfl args m hl
def l_ref20_Few_0 : VC := .seq
 (.seq
 (.reg [⟨none, .mov (.v 3), none⟩,
  ⟨none, .mov (.v 0), none⟩,
  ⟨none, .len false (.l 0), none⟩,
  ⟨none, .bin .lss (.l 2) (.l 0), none⟩,
  ⟨none, .mov (.l 0), none⟩,
  ⟨none, .mov (.v 2), (some (0, true))⟩,
  ⟨none, .bin .lss (.l 0) (.c (.int .i64 (3000))), (some (1, true))⟩,
  ⟨(some 4), .pick (.l 2) (.l 0) (.c (.bool false)), none⟩])
 (.cond (.v 4)
 (.skip)
 (.exit 0)))
 (.seq
 (.block 1 (.draw [⟨none, .mov (.v 2), none⟩,
  ⟨none, .mov (.v 0), none⟩,
  ⟨none, .mov (.v 3), none⟩,
  ⟨none, .iaddr 9 (.l 1) (.l 0), none⟩,
  ⟨none, .faddr 5 (.l 0), none⟩,
  ⟨none, .load none (.l 0), none⟩,
  ⟨none, .len false (.l 0), none⟩,
  ⟨none, .mov (.v 0), none⟩,
  ⟨none, .mov (.v 3), none⟩,
  ⟨none, .iaddr 9 (.l 1) (.l 0), none⟩,
  ⟨none, .faddr 7 (.l 0), none⟩,
  ⟨none, .load none (.l 0), none⟩,
  ⟨none, .len true (.l 0), none⟩,
  ⟨none, .bin .quo (.l 0) (.c (.int .i64 (100))), none⟩,
  ⟨none, .bin .add (.l 7) (.l 0), none⟩,
  ⟨none, .bin .add (.l 14) (.l 0), none⟩,
  ⟨(some 2), .mov (.l 0), none⟩] ⟨[], [0, 0, 0, 6, 14, 30, 62, 0, 0, 384, 896, 1920, 3968, 8064, 16382, 32767, 65535]⟩))
 (.reg [⟨none, .mov (.v 3), none⟩,
  ⟨none, .bin .add (.l 0) (.c (.int .i64 (1))), none⟩,
  ⟨(some 3), .mov (.l 0), none⟩]))
def vf_ref20_Few : VFun := ⟨[0, 2, 3, 4, 14], 1,
 .seq
 (.reg [⟨(some 1), .mov (.c (.bool false)), none⟩])
 (.seq
 (.reg [⟨none, .mov (.v 0), none⟩,
  ⟨none, .len false (.l 0), none⟩,
  ⟨(some 2), .mov (.l 0), none⟩])
 (.seq
 (.seq
 (.reg [⟨(some 3), .mov (.c (.int .i64 (0))), none⟩])
 (.block 0 (.loop [1, 4] l_ref20_Few_0)))
 (.seq
 (.reg [⟨none, .mov (.v 2), none⟩,
  ⟨none, .bin .lss (.l 0) (.c (.int .i64 (3000))), none⟩,
  ⟨(some 1), .mov (.l 0), none⟩])
 (.ret)))),
 [.v 1]⟩
theorem vfun_ref20_Few : funOf Go.Proofs.Tryz.prog ann F.ref20_Few = some vf_ref20_Few := by kernel_rfl
theorem call_ref20_Few (args : List V) (m : Mem) (hl : args.length = 1) : callL MM F.ref20_Few args m = (ex (callL MM) m.length vf_ref20_Few.body (enter vf_ref20_Few args) m).bind (leave m.length vf_ref20_Few.res) := call_fn vfun_ref20_Few rfl args m hl
def vf_law20_awake : VFun := ⟨[0, 1, 2, 3, 4, 5, 6, 7, 8, 9, 10, 13, 16, 17, 18, 19, 20, 22, 24, 91], 0,
 .seq
 (.reg [⟨(some 0), .mov (.c (.bool false)), none⟩])
 (.seq
 (.reg [⟨none, .call F.ref01_Int [(.c (.int .i64 (-1)))], none⟩,
  ⟨none, .call F.ref01_String [(.c (.str [105, 116, 39, 115]))], none⟩,
  ⟨none, .call F.ref01_Null [], none⟩,
  ⟨none, .call F.ref01_Bool [(.c (.bool true))], none⟩,
  ⟨none, .mksl 3 [(.l 3), (.l 2), (.l 1), (.l 0)], none⟩,
  ⟨none, .build [.int .i64 (0), .int .i64 (0), .str [], .str [], .int .i64 (0), .sl true 0 [], .int .i64 (0), .str [], .int .i64 (0)] [(0, 1, (.c (.int .i64 (1)))), (1, 1, (.c (.int .i64 (1)))), (2, 1, (.c (.str [97]))), (3, 1, (.c (.str [116]))), (4, 1, (.c (.int .i64 (2)))), (5, 1, (.l 0))], none⟩,
  ⟨(some 1), .alloc [.int .i64 (0), .int .i64 (0), .str [], .str [], .int .i64 (0), .sl true 0 [], .int .i64 (0), .str [], .int .i64 (0)] [], none⟩,
  ⟨none, .store 9 (.v 1) (.l 1), none⟩])
 (.seq
 (.reg [⟨none, .build [.int .i64 (0), .int .i64 (0), .str [], .str [], .int .i64 (0), .sl true 0 [], .int .i64 (0), .str [], .int .i64 (0)] [(0, 1, (.c (.int .i64 (11))))], none⟩,
  ⟨none, .call F.redo_Encode [(.l 0)], none⟩,
  ⟨none, .mov (.l 0), none⟩,
  ⟨none, .ext (.l 0) 0, none⟩,
  ⟨none, .ext (.l 1) 1, none⟩,
  ⟨(some 2), .mov (.l 1), none⟩,
  ⟨(some 3), .mov (.l 1), none⟩])
 (.seq
 (.reg [⟨none, .load (some 9) (.v 1), none⟩,
  ⟨none, .call F.redo_Encode [(.l 0)], none⟩,
  ⟨none, .mov (.l 0), none⟩,
  ⟨none, .ext (.l 0) 0, none⟩,
  ⟨none, .ext (.l 1) 1, none⟩,
  ⟨(some 4), .mov (.l 1), none⟩,
  ⟨(some 5), .mov (.l 1), none⟩])
 (.seq
 (.reg [⟨none, .mov (.v 4), none⟩,
  ⟨none, .call F.redo_Decode [(.l 0)], none⟩,
  ⟨none, .mov (.l 0), none⟩,
  ⟨none, .ext (.l 0) 0, none⟩,
  ⟨none, .ext (.l 1) 1, none⟩,
  ⟨none, .ext (.l 2) 2, none⟩,
  ⟨(some 6), .alloc [.int .i64 (0), .int .i64 (0), .str [], .str [], .int .i64 (0), .sl true 0 [], .int .i64 (0), .str [], .int .i64 (0)] [], none⟩,
  ⟨none, .store 9 (.v 6) (.l 3), none⟩,
  ⟨(some 7), .mov (.l 3), none⟩,
  ⟨(some 8), .mov (.l 3), none⟩])
 (.seq
 (.reg [⟨none, .mkbuf 1 [], none⟩,
  ⟨none, .mov (.v 2), none⟩,
  ⟨none, .app 1 1 (.l 1) (.l 0), none⟩,
  ⟨none, .mov (.v 4), none⟩,
  ⟨none, .app 1 1 (.l 1) (.l 0), none⟩,
  ⟨none, .call F.redo_Read [(.l 0)], none⟩,
  ⟨none, .mov (.l 0), none⟩,
  ⟨none, .ext (.l 0) 0, none⟩,
  ⟨none, .ext (.l 1) 1, none⟩,
  ⟨(some 9), .mov (.l 1), none⟩,
  ⟨(some 10), .mov (.l 1), none⟩])
 (.seq
 (.reg [⟨none, .mov (.v 2), none⟩,
  ⟨none, .slice (some 1) (.l 0) none (some (.c (.int .i64 (3)))) none, none⟩,
  ⟨none, .call F.redo_Decode [(.l 0)], none⟩,
  ⟨none, .mov (.l 0), none⟩,
  ⟨none, .ext (.l 0) 0, none⟩,
  ⟨none, .ext (.l 1) 1, none⟩,
  ⟨none, .ext (.l 2) 2, none⟩,
  ⟨none, .alloc [.int .i64 (0), .int .i64 (0), .str [], .str [], .int .i64 (0), .sl true 0 [], .int .i64 (0), .str [], .int .i64 (0)] [], none⟩,
  ⟨none, .store 9 (.l 0) (.l 3), none⟩,
  ⟨none, .mov (.l 3), none⟩,
  ⟨(some 11), .mov (.l 3), none⟩])
 (.seq
 (.reg [⟨none, .mksl 1 [(.c (.int .u8 (0))), (.c (.int .u8 (1))), (.c (.int .u8 (0)))], none⟩,
  ⟨none, .call F.redo_Decode [(.l 0)], none⟩,
  ⟨none, .mov (.l 0), none⟩,
  ⟨none, .ext (.l 0) 0, none⟩,
  ⟨none, .ext (.l 1) 1, none⟩,
  ⟨none, .ext (.l 2) 2, none⟩,
  ⟨none, .alloc [.int .i64 (0), .int .i64 (0), .str [], .str [], .int .i64 (0), .sl true 0 [], .int .i64 (0), .str [], .int .i64 (0)] [], none⟩,
  ⟨none, .store 9 (.l 0) (.l 3), none⟩,
  ⟨none, .mov (.l 3), none⟩,
  ⟨(some 12), .mov (.l 3), none⟩])
 (.seq
 (.reg [⟨none, .load (some 9) (.v 1), none⟩,
  ⟨none, .call F.redo_Text [(.l 0)], none⟩,
  ⟨none, .mov (.l 0), none⟩,
  ⟨none, .ext (.l 0) 0, none⟩,
  ⟨none, .ext (.l 1) 1, none⟩,
  ⟨(some 13), .mov (.l 1), none⟩,
  ⟨(some 14), .mov (.l 1), none⟩])
 (.seq
 (.reg [⟨none, .mov (.v 2), none⟩,
  ⟨none, .call F.redo_Cut [(.l 0), (.c (.int .i64 (6)))], none⟩,
  ⟨none, .mov (.l 0), none⟩,
  ⟨none, .ext (.l 0) 0, none⟩,
  ⟨none, .ext (.l 1) 1, none⟩,
  ⟨(some 15), .mov (.l 1), none⟩,
  ⟨(some 16), .mov (.l 1), none⟩])
 (.seq
 (.reg [⟨none, .mov (.v 2), none⟩,
  ⟨none, .call F.redo_Cut [(.l 0), (.c (.int .i64 (9)))], none⟩,
  ⟨none, .mov (.l 0), none⟩,
  ⟨none, .ext (.l 0) 0, none⟩,
  ⟨none, .ext (.l 1) 1, none⟩,
  ⟨none, .mov (.l 1), none⟩,
  ⟨(some 17), .mov (.l 1), none⟩])
 (.seq
 (.reg [⟨none, .build [.int .i64 (0), .int .i64 (0), .str [], .str [], .int .i64 (0), .sl true 0 [], .int .i64 (0), .str [], .int .i64 (0)] [(0, 1, (.c (.int .i64 (11)))), (1, 1, (.c (.int .i64 (1))))], none⟩,
  ⟨none, .call F.redo_Encode [(.l 0)], none⟩,
  ⟨none, .mov (.l 0), none⟩,
  ⟨none, .ext (.l 0) 0, none⟩,
  ⟨none, .ext (.l 1) 1, none⟩,
  ⟨none, .mov (.l 1), none⟩,
  ⟨(some 18), .mov (.l 1), none⟩])
 (.seq
 (.seq
 (.reg [⟨none, .mov (.v 9), none⟩,
  ⟨none, .len false (.l 0), none⟩,
  ⟨(some 19), .bin .neq (.l 0) (.c (.int .i64 (2))), none⟩])
 (.cond (.v 19)
 (.seq
 (.reg [⟨(some 0), .mov (.c (.bool false)), none⟩])
 (.ret))
 (.skip)))
 (.seq
 (.draw [⟨none, .mov (.v 2), none⟩,
  ⟨none, .toStr false (.l 0), none⟩,
  ⟨none, .bin .eql (.l 0) (.c (.str [0, 5, 11, 0, 0, 0, 43])), none⟩,
  ⟨none, .mov (.l 0), none⟩,
  ⟨none, .mov (.v 3), (some (0, true))⟩,
  ⟨none, .bin .eql (.l 0) (.c (.int .i64 (0))), (some (1, true))⟩,
  ⟨none, .pick (.l 2) (.l 0) (.c (.bool false)), none⟩,
  ⟨none, .mov (.l 0), none⟩,
  ⟨none, .mov (.v 5), (some (0, true))⟩,
  ⟨none, .bin .eql (.l 0) (.c (.int .i64 (0))), (some (1, true))⟩,
  ⟨none, .pick (.l 2) (.l 0) (.c (.bool false)), none⟩,
  ⟨none, .mov (.l 0), none⟩,
  ⟨none, .load (some 9) (.v 1), (some (0, true))⟩,
  ⟨none, .load (some 9) (.v 6), (some (1, true))⟩,
  ⟨none, .call F.redo_Same [(.l 1), (.l 0)], (some (2, true))⟩,
  ⟨none, .pick (.l 3) (.l 0) (.c (.bool false)), none⟩,
  ⟨none, .mov (.l 0), none⟩,
  ⟨none, .mov (.v 7), (some (0, true))⟩,
  ⟨none, .mov (.v 4), (some (1, true))⟩,
  ⟨none, .len false (.l 0), (some (2, true))⟩,
  ⟨none, .bin .eql (.l 2) (.l 0), (some (3, true))⟩,
  ⟨none, .pick (.l 4) (.l 0) (.c (.bool false)), none⟩,
  ⟨none, .mov (.l 0), none⟩,
  ⟨none, .mov (.v 8), (some (0, true))⟩,
  ⟨none, .bin .eql (.l 0) (.c (.int .i64 (0))), (some (1, true))⟩,
  ⟨none, .pick (.l 2) (.l 0) (.c (.bool false)), none⟩,
  ⟨none, .mov (.l 0), none⟩,
  ⟨none, .mov (.v 10), (some (0, true))⟩,
  ⟨none, .mov (.v 2), (some (1, true))⟩,
  ⟨none, .len false (.l 0), (some (2, true))⟩,
  ⟨none, .mov (.v 4), (some (3, true))⟩,
  ⟨none, .len false (.l 0), (some (4, true))⟩,
  ⟨none, .bin .add (.l 2) (.l 0), (some (5, true))⟩,
  ⟨none, .bin .eql (.l 5) (.l 0), (some (6, true))⟩,
  ⟨none, .pick (.l 7) (.l 0) (.c (.bool false)), none⟩,
  ⟨none, .mov (.l 0), none⟩,
  ⟨none, .mov (.v 9), (some (0, true))⟩,
  ⟨none, .iaddr 9 (.l 0) (.c (.int .i64 (1))), (some (1, true))⟩,
  ⟨none, .load (some 9) (.l 0), (some (2, true))⟩,
  ⟨none, .load (some 9) (.v 1), (some (3, true))⟩,
  ⟨none, .call F.redo_Same [(.l 1), (.l 0)], (some (4, true))⟩,
  ⟨none, .pick (.l 5) (.l 0) (.c (.bool false)), none⟩,
  ⟨none, .mov (.l 0), none⟩,
  ⟨none, .mov (.v 11), (some (0, true))⟩,
  ⟨none, .bin .eql (.l 0) (.c (.int .i64 (31))), (some (1, true))⟩,
  ⟨none, .pick (.l 2) (.l 0) (.c (.bool false)), none⟩,
  ⟨none, .mov (.l 0), none⟩,
  ⟨none, .mov (.v 12), (some (0, true))⟩,
  ⟨none, .bin .eql (.l 0) (.c (.int .i64 (30))), (some (1, true))⟩,
  ⟨none, .pick (.l 2) (.l 0) (.c (.bool false)), none⟩,
  ⟨none, .mov (.l 0), none⟩,
  ⟨none, .mov (.v 13), (some (0, true))⟩,
  ⟨none, .bin .eql (.l 0) (.c (.str [105, 110, 115, 101, 114, 116, 32, 49, 32, 39, 97, 39, 32, 39, 116, 39, 32, 50, 32, 40, 45, 49, 44, 39, 105, 116, 39, 39, 115, 39, 44, 110, 117, 108, 108, 44, 116, 114, 117, 101, 41])), (some (1, true))⟩,
  ⟨none, .pick (.l 2) (.l 0) (.c (.bool false)), none⟩,
  ⟨none, .mov (.l 0), none⟩,
  ⟨none, .mov (.v 14), (some (0, true))⟩,
  ⟨none, .bin .eql (.l 0) (.c (.int .i64 (0))), (some (1, true))⟩,
  ⟨none, .pick (.l 2) (.l 0) (.c (.bool false)), none⟩,
  ⟨none, .mov (.l 0), none⟩,
  ⟨none, .mov (.v 15), (some (0, true))⟩,
  ⟨none, .len false (.l 0), (some (1, true))⟩,
  ⟨none, .bin .eql (.l 0) (.c (.int .i64 (0))), (some (2, true))⟩,
  ⟨none, .pick (.l 3) (.l 0) (.c (.bool false)), none⟩,
  ⟨none, .mov (.l 0), none⟩,
  ⟨none, .mov (.v 16), (some (0, true))⟩,
  ⟨none, .bin .eql (.l 0) (.c (.int .i64 (0))), (some (1, true))⟩,
  ⟨none, .pick (.l 2) (.l 0) (.c (.bool false)), none⟩,
  ⟨none, .mov (.l 0), none⟩,
  ⟨none, .mov (.v 17), (some (0, true))⟩,
  ⟨none, .bin .eql (.l 0) (.c (.int .i64 (21))), (some (1, true))⟩,
  ⟨none, .pick (.l 2) (.l 0) (.c (.bool false)), none⟩,
  ⟨none, .mov (.l 0), none⟩,
  ⟨none, .mov (.v 18), (some (0, true))⟩,
  ⟨none, .bin .eql (.l 0) (.c (.int .i64 (2))), (some (1, true))⟩,
  ⟨none, .pick (.l 2) (.l 0) (.c (.bool false)), none⟩,
  ⟨none, .mov (.l 0), none⟩,
  ⟨none, .load (some 9) (.v 1), (some (0, true))⟩,
  ⟨none, .call F.redo_Valid [(.l 0)], (some (1, true))⟩,
  ⟨none, .pick (.l 2) (.l 0) (.c (.bool false)), none⟩,
  ⟨(some 0), .mov (.l 0), none⟩] ⟨[], [0, 1, 3, 7, 15, 31, 63, 127, 255, 511, 1023, 2047, 4095, 4095, 16383, 32767, 65535, 131071, 131071, 393215, 1048575, 2097151, 4194303, 8388607, 16777215, 33554431, 67108863, 134217727, 134217727, 402653183, 134217727, 1207959551, 4160749567, 8589934591, 17179869183, 34359738367, 68719476735, 137438953471, 274877906943, 68719476735, 1099511627775, 2199023255551, 4398046511103, 8796093022207, 17592186044415, 35184372088831, 70368744177663, 140737488355327, 281474976710655, 562949953421311, 1125899906842623, 2251799813685247, 4503599627370495, 9007199254740991, 18014398509481983, 36028797018963967, 72057594037927935, 144115188075855871, 288230376151711743, 576460752303423487, 1152921504606846975, 2305843009213693951, 4611686018427387903, 9223372036854775807, 18446744073709551615, 36893488147419103231, 73786976294838206463, 147573952589676412927, 295147905179352825855, 590295810358705651711, 1180591620717411303423, 2361183241434822606847, 4722366482869645213695, 9444732965739290427391, 18889465931478580854783, 37778931862957161709567, 75557863725914323419135, 151115727451828646838271, 302231454903657293676543, 604462909807314587353087]⟩)
 (.ret)))))))))))))),
 [.v 0]⟩
theorem vfun_law20_awake : funOf Go.Proofs.Tryz.prog ann F.law20_awake = some vf_law20_awake := by kernel_rfl
theorem call_law20_awake (args : List V) (m : Mem) (hl : args.length = 0) : callL MM F.law20_awake args m = (ex (callL MM) m.length vf_law20_awake.body (enter vf_law20_awake args) m).bind (leave m.length vf_law20_awake.res) := call_fn vfun_law20_awake rfl args m hl
def vf_ref20_Encode : VFun := ⟨[0, 1, 2, 3, 4, 7, 12], 1,
 .seq
 (.reg [⟨(some 1), .box (.v 0) [], none⟩,
  ⟨(some 2), .mov (.c (.sl true 0 [])), none⟩,
  ⟨(some 3), .mov (.c (.int .i64 (0))), none⟩])
 (.seq
 (.seq
 (.reg [⟨none, .load (some 9) (.v 1), none⟩,
  ⟨none, .call F.ref20_Valid [(.l 0)], none⟩,
  ⟨(some 5), .not (.l 0), none⟩])
 (.cond (.v 5)
 (.seq
 (.reg [⟨(some 2), .mov (.c (.sl true 0 [])), none⟩,
  ⟨(some 3), .mov (.c (.int .i64 (2))), none⟩])
 (.ret))
 (.skip)))
 (.seq
 (.reg [⟨none, .load (some 9) (.v 1), none⟩,
  ⟨none, .call F.ref20_Bytes [(.l 0)], none⟩,
  ⟨(some 4), .mov (.l 0), none⟩])
 (.seq
 (.seq
 (.reg [⟨none, .mov (.v 4), none⟩,
  ⟨none, .len false (.l 0), none⟩,
  ⟨(some 6), .bin .gtr (.l 0) (.c (.int .i64 (65537))), none⟩])
 (.cond (.v 6)
 (.seq
 (.reg [⟨(some 2), .mov (.c (.sl true 0 [])), none⟩,
  ⟨(some 3), .mov (.c (.int .i64 (3))), none⟩])
 (.ret))
 (.skip)))
 (.seq
 (.reg [⟨none, .mov (.v 4), none⟩,
  ⟨(some 2), .mov (.l 0), none⟩,
  ⟨(some 3), .mov (.c (.int .i64 (0))), none⟩])
 (.ret))))),
 [.v 2, .v 3]⟩
theorem vfun_ref20_Encode : funOf Go.Proofs.Tryz.prog ann F.ref20_Encode = some vf_ref20_Encode := by kernel_rfl
theorem call_ref20_Encode (args : List V) (m : Mem) (hl : args.length = 1) : callL MM F.ref20_Encode args m = (ex (callL MM) m.length vf_ref20_Encode.body (enter vf_ref20_Encode args) m).bind (leave m.length vf_ref20_Encode.res) := call_fn vfun_ref20_Encode rfl args m hl
def vf_redo_Valid : VFun := ⟨[0, 1, 2, 3, 16], 1,
 .seq
 (.reg [⟨(some 1), .box (.v 0) [], none⟩,
  ⟨(some 2), .mov (.c (.bool false)), none⟩])
 (.seq
 (.reg [⟨none, .faddr 0 (.v 1), none⟩,
  ⟨none, .load none (.l 0), none⟩,
  ⟨none, .call F.redo_fields [(.l 0)], none⟩,
  ⟨(some 3), .mov (.l 0), none⟩])
 (.seq
 (.seq
 (.draw [⟨none, .mov (.v 3), none⟩,
  ⟨none, .eqnil .slice (.l 0) false, none⟩,
  ⟨none, .mov (.l 0), none⟩,
  ⟨none, .load (some 9) (.v 1), (some (0, false))⟩,
  ⟨none, .load (some 9) (.v 1), (some (1, false))⟩,
  ⟨none, .mov (.v 3), (some (2, false))⟩,
  ⟨none, .call F.redo_clear [(.l 1), (.l 0)], (some (3, false))⟩,
  ⟨none, .call F.redo_Same [(.l 3), (.l 0)], (some (4, false))⟩,
  ⟨none, .not (.l 0), (some (5, false))⟩,
  ⟨(some 4), .pick (.l 6) (.c (.bool true)) (.l 0), none⟩] ⟨[(3, 6)], [0, 1, 3, 7, 7, 7, 55, 127, 255, 511]⟩)
 (.cond (.v 4)
 (.seq
 (.reg [⟨(some 2), .mov (.c (.bool false)), none⟩])
 (.ret))
 (.skip)))
 (.seq
 (.reg [⟨none, .mov (.v 3), none⟩,
  ⟨none, .mkfn F.redo_Valid_1 [] [(.v 1)], none⟩,
  ⟨none, .call F.slices_ContainsFunc_redo_field_redo_field [(.l 1), (.l 0)], none⟩,
  ⟨none, .not (.l 0), none⟩,
  ⟨(some 2), .mov (.l 0), none⟩])
 (.ret)))),
 [.v 2]⟩
theorem vfun_redo_Valid : funOf Go.Proofs.Tryz.prog ann F.redo_Valid = some vf_redo_Valid := by kernel_rfl
theorem call_redo_Valid (args : List V) (m : Mem) (hl : args.length = 1) : callL MM F.redo_Valid args m = (ex (callL MM) m.length vf_redo_Valid.body (enter vf_redo_Valid args) m).bind (leave m.length vf_redo_Valid.res) := call_fn vfun_redo_Valid rfl args m hl
def l_ref20_Valid_0 : VC := .seq
 (.reg [⟨(some 9), .bin .lss (.v 8) (.v 7), none⟩])
 (.seq
 (.cond (.v 9)
 (.skip)
 (.exit 0))
 (.seq
 (.block 1 (.seq
 (.reg [⟨none, .mov (.v 8), none⟩,
  ⟨(some 6), .mov (.l 0), none⟩])
 (.seq
 (.draw [⟨none, .mov (.v 4), none⟩,
  ⟨none, .mov (.l 0), none⟩,
  ⟨none, .load (some 9) (.v 1), (some (0, true))⟩,
  ⟨none, .mov (.v 3), (some (1, true))⟩,
  ⟨none, .mov (.v 6), (some (2, true))⟩,
  ⟨none, .idxs (.l 1) (.l 0), (some (3, true))⟩,
  ⟨none, .call F.ref20_field [(.l 3), (.l 0)], (some (4, true))⟩,
  ⟨none, .pick (.l 5) (.l 0) (.c (.bool false)), none⟩,
  ⟨(some 4), .mov (.l 0), none⟩] ⟨[], [0, 1, 3, 3, 3, 27, 63, 127, 255]⟩)
 (.draw [⟨none, .load (some 9) (.v 5), none⟩,
  ⟨none, .mov (.v 3), none⟩,
  ⟨none, .mov (.v 6), none⟩,
  ⟨none, .idxs (.l 1) (.l 0), none⟩,
  ⟨none, .call F.ref20_blank [(.l 3), (.l 0)], none⟩,
  ⟨none, .store 9 (.v 5) (.l 0), none⟩] ⟨[], [0, 0, 0, 6, 15, 31]⟩))))
 (.reg [⟨none, .bin .add (.v 8) (.c (.int .i64 (1))), none⟩,
  ⟨(some 8), .mov (.l 0), none⟩])))
def vf_ref20_Valid : VFun := ⟨[0, 1, 2, 3, 4, 5, 6, 15, 16, 17], 1,
 .seq
 (.reg [⟨(some 1), .box (.v 0) [], none⟩,
  ⟨(some 2), .mov (.c (.bool false)), none⟩])
 (.seq
 (.reg [⟨none, .faddr 0 (.v 1), none⟩,
  ⟨none, .load none (.l 0), none⟩,
  ⟨none, .call F.ref20_Fields [(.l 0)], none⟩,
  ⟨none, .mov (.l 0), none⟩,
  ⟨none, .ext (.l 0) 0, none⟩,
  ⟨none, .ext (.l 1) 1, none⟩,
  ⟨(some 3), .mov (.l 1), none⟩,
  ⟨(some 4), .mov (.l 1), none⟩])
 (.seq
 (.reg [⟨none, .load (some 9) (.v 1), none⟩,
  ⟨(some 5), .alloc [.int .i64 (0), .int .i64 (0), .str [], .str [], .int .i64 (0), .sl true 0 [], .int .i64 (0), .str [], .int .i64 (0)] [], none⟩,
  ⟨none, .store 9 (.v 5) (.l 1), none⟩])
 (.seq
 (.seq
 (.reg [⟨none, .mov (.v 3), none⟩,
  ⟨(some 7), .len true (.l 0), none⟩,
  ⟨(some 8), .mov (.c (.int .i64 (0))), none⟩])
 (.block 0 (.loop [0, 2, 6, 9] l_ref20_Valid_0)))
 (.seq
 (.reg [⟨none, .mov (.v 4), none⟩,
  ⟨none, .mov (.l 0), none⟩,
  ⟨none, .load (some 9) (.v 5), (some (0, true))⟩,
  ⟨none, .faddr 0 (.v 1), (some (1, true))⟩,
  ⟨none, .load none (.l 0), (some (2, true))⟩,
  ⟨none, .build [.int .i64 (0), .int .i64 (0), .str [], .str [], .int .i64 (0), .sl true 0 [], .int .i64 (0), .str [], .int .i64 (0)] [(0, 1, (.l 0))], (some (3, true))⟩,
  ⟨none, .call F.ref20_Same [(.l 3), (.l 0)], (some (4, true))⟩,
  ⟨none, .pick (.l 5) (.l 0) (.c (.bool false)), none⟩,
  ⟨(some 2), .mov (.l 0), none⟩])
 (.ret))))),
 [.v 2]⟩
theorem vfun_ref20_Valid : funOf Go.Proofs.Tryz.prog ann F.ref20_Valid = some vf_ref20_Valid := by kernel_rfl
theorem call_ref20_Valid (args : List V) (m : Mem) (hl : args.length = 1) : callL MM F.ref20_Valid args m = (ex (callL MM) m.length vf_ref20_Valid.body (enter vf_ref20_Valid args) m).bind (leave m.length vf_ref20_Valid.res) := call_fn vfun_ref20_Valid rfl args m hl
def vf_redo_Same : VFun := ⟨[0, 1, 2, 3, 4, 5], 2,
 .seq
 (.reg [⟨(some 2), .box (.v 0) [], none⟩,
  ⟨(some 3), .box (.v 1) [], none⟩,
  ⟨(some 4), .mov (.c (.bool false)), none⟩])
 (.seq
 (.reg [⟨none, .faddr 0 (.v 2), none⟩,
  ⟨none, .load none (.l 0), none⟩,
  ⟨none, .faddr 0 (.v 3), none⟩,
  ⟨none, .load none (.l 0), none⟩,
  ⟨none, .bin .eql (.l 2) (.l 0), none⟩,
  ⟨none, .mov (.l 0), none⟩,
  ⟨none, .faddr 1 (.v 2), (some (0, true))⟩,
  ⟨none, .load none (.l 0), (some (1, true))⟩,
  ⟨none, .faddr 1 (.v 3), (some (2, true))⟩,
  ⟨none, .load none (.l 0), (some (3, true))⟩,
  ⟨none, .bin .eql (.l 2) (.l 0), (some (4, true))⟩,
  ⟨none, .pick (.l 5) (.l 0) (.c (.bool false)), none⟩,
  ⟨none, .mov (.l 0), none⟩,
  ⟨none, .faddr 2 (.v 2), (some (0, true))⟩,
  ⟨none, .load none (.l 0), (some (1, true))⟩,
  ⟨none, .faddr 2 (.v 3), (some (2, true))⟩,
  ⟨none, .load none (.l 0), (some (3, true))⟩,
  ⟨none, .bin .eql (.l 2) (.l 0), (some (4, true))⟩,
  ⟨none, .pick (.l 5) (.l 0) (.c (.bool false)), none⟩,
  ⟨none, .mov (.l 0), none⟩,
  ⟨none, .faddr 3 (.v 2), (some (0, true))⟩,
  ⟨none, .load none (.l 0), (some (1, true))⟩,
  ⟨none, .faddr 3 (.v 3), (some (2, true))⟩,
  ⟨none, .load none (.l 0), (some (3, true))⟩,
  ⟨none, .bin .eql (.l 2) (.l 0), (some (4, true))⟩,
  ⟨none, .pick (.l 5) (.l 0) (.c (.bool false)), none⟩,
  ⟨none, .mov (.l 0), none⟩,
  ⟨none, .faddr 4 (.v 2), (some (0, true))⟩,
  ⟨none, .load none (.l 0), (some (1, true))⟩,
  ⟨none, .faddr 4 (.v 3), (some (2, true))⟩,
  ⟨none, .load none (.l 0), (some (3, true))⟩,
  ⟨none, .bin .eql (.l 2) (.l 0), (some (4, true))⟩,
  ⟨none, .pick (.l 5) (.l 0) (.c (.bool false)), none⟩,
  ⟨none, .mov (.l 0), none⟩,
  ⟨none, .faddr 6 (.v 2), (some (0, true))⟩,
  ⟨none, .load none (.l 0), (some (1, true))⟩,
  ⟨none, .faddr 6 (.v 3), (some (2, true))⟩,
  ⟨none, .load none (.l 0), (some (3, true))⟩,
  ⟨none, .bin .eql (.l 2) (.l 0), (some (4, true))⟩,
  ⟨none, .pick (.l 5) (.l 0) (.c (.bool false)), none⟩,
  ⟨none, .mov (.l 0), none⟩,
  ⟨none, .faddr 7 (.v 2), (some (0, true))⟩,
  ⟨none, .load none (.l 0), (some (1, true))⟩,
  ⟨none, .faddr 7 (.v 3), (some (2, true))⟩,
  ⟨none, .load none (.l 0), (some (3, true))⟩,
  ⟨none, .bin .eql (.l 2) (.l 0), (some (4, true))⟩,
  ⟨none, .pick (.l 5) (.l 0) (.c (.bool false)), none⟩,
  ⟨none, .mov (.l 0), none⟩,
  ⟨none, .faddr 8 (.v 2), (some (0, true))⟩,
  ⟨none, .load none (.l 0), (some (1, true))⟩,
  ⟨none, .faddr 8 (.v 3), (some (2, true))⟩,
  ⟨none, .load none (.l 0), (some (3, true))⟩,
  ⟨none, .bin .eql (.l 2) (.l 0), (some (4, true))⟩,
  ⟨none, .pick (.l 5) (.l 0) (.c (.bool false)), none⟩,
  ⟨(some 5), .mov (.l 0), none⟩])
 (.seq
 (.reg [⟨none, .mov (.v 5), none⟩,
  ⟨none, .mov (.l 0), none⟩,
  ⟨none, .faddr 5 (.v 2), (some (0, true))⟩,
  ⟨none, .load none (.l 0), (some (1, true))⟩,
  ⟨none, .faddr 5 (.v 3), (some (2, true))⟩,
  ⟨none, .load none (.l 0), (some (3, true))⟩,
  ⟨none, .call F.value_SameRow [(.l 2), (.l 0)], (some (4, true))⟩,
  ⟨none, .pick (.l 5) (.l 0) (.c (.bool false)), none⟩,
  ⟨(some 4), .mov (.l 0), none⟩])
 (.ret))),
 [.v 4]⟩
theorem vfun_redo_Same : funOf Go.Proofs.Tryz.prog ann F.redo_Same = some vf_redo_Same := by kernel_rfl
theorem call_redo_Same (args : List V) (m : Mem) (hl : args.length = 2) : callL MM F.redo_Same args m = (ex (callL MM) m.length vf_redo_Same.body (enter vf_redo_Same args) m).bind (leave m.length vf_redo_Same.res) := call_fn vfun_redo_Same rfl args m hl
def vf_ref20_Same : VFun := ⟨[0, 1, 2, 3, 4], 2,
 .seq
 (.reg [⟨(some 2), .box (.v 0) [], none⟩,
  ⟨(some 3), .box (.v 1) [], none⟩,
  ⟨(some 4), .mov (.c (.bool false)), none⟩])
 (.seq
 (.reg [⟨none, .faddr 0 (.v 2), none⟩,
  ⟨none, .load none (.l 0), none⟩,
  ⟨none, .faddr 0 (.v 3), none⟩,
  ⟨none, .load none (.l 0), none⟩,
  ⟨none, .bin .eql (.l 2) (.l 0), none⟩,
  ⟨none, .mov (.l 0), none⟩,
  ⟨none, .faddr 1 (.v 2), (some (0, true))⟩,
  ⟨none, .load none (.l 0), (some (1, true))⟩,
  ⟨none, .faddr 1 (.v 3), (some (2, true))⟩,
  ⟨none, .load none (.l 0), (some (3, true))⟩,
  ⟨none, .bin .eql (.l 2) (.l 0), (some (4, true))⟩,
  ⟨none, .pick (.l 5) (.l 0) (.c (.bool false)), none⟩,
  ⟨none, .mov (.l 0), none⟩,
  ⟨none, .faddr 2 (.v 2), (some (0, true))⟩,
  ⟨none, .load none (.l 0), (some (1, true))⟩,
  ⟨none, .faddr 2 (.v 3), (some (2, true))⟩,
  ⟨none, .load none (.l 0), (some (3, true))⟩,
  ⟨none, .bin .eql (.l 2) (.l 0), (some (4, true))⟩,
  ⟨none, .pick (.l 5) (.l 0) (.c (.bool false)), none⟩,
  ⟨none, .mov (.l 0), none⟩,
  ⟨none, .faddr 3 (.v 2), (some (0, true))⟩,
  ⟨none, .load none (.l 0), (some (1, true))⟩,
  ⟨none, .faddr 3 (.v 3), (some (2, true))⟩,
  ⟨none, .load none (.l 0), (some (3, true))⟩,
  ⟨none, .bin .eql (.l 2) (.l 0), (some (4, true))⟩,
  ⟨none, .pick (.l 5) (.l 0) (.c (.bool false)), none⟩,
  ⟨none, .mov (.l 0), none⟩,
  ⟨none, .faddr 4 (.v 2), (some (0, true))⟩,
  ⟨none, .load none (.l 0), (some (1, true))⟩,
  ⟨none, .faddr 4 (.v 3), (some (2, true))⟩,
  ⟨none, .load none (.l 0), (some (3, true))⟩,
  ⟨none, .bin .eql (.l 2) (.l 0), (some (4, true))⟩,
  ⟨none, .pick (.l 5) (.l 0) (.c (.bool false)), none⟩,
  ⟨none, .mov (.l 0), none⟩,
  ⟨none, .faddr 5 (.v 2), (some (0, true))⟩,
  ⟨none, .load none (.l 0), (some (1, true))⟩,
  ⟨none, .faddr 5 (.v 3), (some (2, true))⟩,
  ⟨none, .load none (.l 0), (some (3, true))⟩,
  ⟨none, .call F.ref01_SameRow [(.l 2), (.l 0)], (some (4, true))⟩,
  ⟨none, .pick (.l 5) (.l 0) (.c (.bool false)), none⟩,
  ⟨none, .mov (.l 0), none⟩,
  ⟨none, .faddr 6 (.v 2), (some (0, true))⟩,
  ⟨none, .load none (.l 0), (some (1, true))⟩,
  ⟨none, .faddr 6 (.v 3), (some (2, true))⟩,
  ⟨none, .load none (.l 0), (some (3, true))⟩,
  ⟨none, .bin .eql (.l 2) (.l 0), (some (4, true))⟩,
  ⟨none, .pick (.l 5) (.l 0) (.c (.bool false)), none⟩,
  ⟨none, .mov (.l 0), none⟩,
  ⟨none, .faddr 7 (.v 2), (some (0, true))⟩,
  ⟨none, .load none (.l 0), (some (1, true))⟩,
  ⟨none, .faddr 7 (.v 3), (some (2, true))⟩,
  ⟨none, .load none (.l 0), (some (3, true))⟩,
  ⟨none, .bin .eql (.l 2) (.l 0), (some (4, true))⟩,
  ⟨none, .pick (.l 5) (.l 0) (.c (.bool false)), none⟩,
  ⟨none, .mov (.l 0), none⟩,
  ⟨none, .faddr 8 (.v 2), (some (0, true))⟩,
  ⟨none, .load none (.l 0), (some (1, true))⟩,
  ⟨none, .faddr 8 (.v 3), (some (2, true))⟩,
  ⟨none, .load none (.l 0), (some (3, true))⟩,
  ⟨none, .bin .eql (.l 2) (.l 0), (some (4, true))⟩,
  ⟨none, .pick (.l 5) (.l 0) (.c (.bool false)), none⟩,
  ⟨(some 4), .mov (.l 0), none⟩])
 (.ret)),
 [.v 4]⟩
theorem vfun_ref20_Same : funOf Go.Proofs.Tryz.prog ann F.ref20_Same = some vf_ref20_Same := by kernel_rfl
theorem call_ref20_Same (args : List V) (m : Mem) (hl : args.length = 2) : callL MM F.ref20_Same args m = (ex (callL MM) m.length vf_ref20_Same.body (enter vf_ref20_Same args) m).bind (leave m.length vf_ref20_Same.res) := call_fn vfun_ref20_Same rfl args m hl
def l_redo_Text_0 : VC := .seq
 (.reg [⟨(some 10), .bin .lss (.v 9) (.v 8), none⟩])
 (.seq
 (.cond (.v 10)
 (.skip)
 (.exit 0))
 (.seq
 (.block 1 (.seq
 (.reg [⟨none, .iaddr 1 (.v 7) (.v 9), none⟩,
  ⟨none, .load none (.l 0), none⟩,
  ⟨(some 5), .mov (.l 0), none⟩])
 (.reg [⟨none, .mov (.v 4), none⟩,
  ⟨none, .load (some 9) (.v 1), none⟩,
  ⟨none, .mov (.v 5), none⟩,
  ⟨none, .call F.redo_shown [(.l 1), (.l 0)], none⟩,
  ⟨none, .bin .add (.c (.str [32])) (.l 0), none⟩,
  ⟨none, .bin .add (.l 4) (.l 0), none⟩,
  ⟨(some 4), .mov (.l 0), none⟩])))
 (.reg [⟨none, .bin .add (.v 9) (.c (.int .i64 (1))), none⟩,
  ⟨(some 9), .mov (.l 0), none⟩])))
def vf_redo_Text : VFun := ⟨[0, 1, 2, 3, 4, 6, 9, 18, 19, 20, 21], 1,
 .seq
 (.reg [⟨(some 1), .box (.v 0) [], none⟩,
  ⟨(some 2), .mov (.c (.str [])), none⟩,
  ⟨(some 3), .mov (.c (.int .i64 (0))), none⟩])
 (.seq
 (.seq
 (.reg [⟨none, .load (some 9) (.v 1), none⟩,
  ⟨none, .call F.redo_Valid [(.l 0)], none⟩,
  ⟨(some 6), .not (.l 0), none⟩])
 (.cond (.v 6)
 (.seq
 (.reg [⟨(some 2), .mov (.c (.str [])), none⟩,
  ⟨(some 3), .mov (.c (.int .i64 (2))), none⟩])
 (.ret))
 (.skip)))
 (.seq
 (.draw [⟨none, .call F.strings_Fields [(.c (.str [105, 110, 115, 101, 114, 116, 32, 117, 112, 100, 97, 116, 101, 32, 100, 101, 108, 101, 116, 101, 32, 98, 97, 99, 107, 32, 99, 111, 109, 109, 105, 116, 32, 97, 98, 111, 114, 116, 32, 112, 114, 101, 112, 97, 114, 101, 32, 100, 101, 102, 32, 100, 114, 111, 112, 32, 115, 101, 114, 105, 97, 108, 32, 115, 116, 97, 114, 116]))], none⟩,
  ⟨none, .faddr 0 (.v 1), none⟩,
  ⟨none, .load none (.l 0), none⟩,
  ⟨none, .bin .sub (.l 0) (.c (.int .i64 (1))), none⟩,
  ⟨none, .iaddr 1 (.l 3) (.l 0), none⟩,
  ⟨none, .load none (.l 0), none⟩,
  ⟨(some 4), .mov (.l 0), none⟩] ⟨[(2, 0)], [0, 0, 2, 6, 15, 31, 63]⟩)
 (.seq
 (.seq
 (.reg [⟨none, .faddr 0 (.v 1), none⟩,
  ⟨none, .load none (.l 0), none⟩,
  ⟨(some 7), .call F.redo_fields [(.l 0)], none⟩,
  ⟨(some 8), .len false (.v 7), none⟩,
  ⟨(some 9), .mov (.c (.int .i64 (0))), none⟩])
 (.block 0 (.loop [0, 2, 3, 5, 6, 10] l_redo_Text_0)))
 (.seq
 (.reg [⟨none, .mov (.v 4), none⟩,
  ⟨(some 2), .mov (.l 0), none⟩,
  ⟨(some 3), .mov (.c (.int .i64 (0))), none⟩])
 (.ret))))),
 [.v 2, .v 3]⟩
theorem vfun_redo_Text : funOf Go.Proofs.Tryz.prog ann F.redo_Text = some vf_redo_Text := by kernel_rfl
theorem call_redo_Text (args : List V) (m : Mem) (hl : args.length = 1) : callL MM F.redo_Text args m = (ex (callL MM) m.length vf_redo_Text.body (enter vf_redo_Text args) m).bind (leave m.length vf_redo_Text.res) := call_fn vfun_redo_Text rfl args m hl
def l_ref20_Text_0 : VC := .seq
 (.reg [⟨(some 23), .bin .lss (.v 22) (.v 21), none⟩])
 (.seq
 (.cond (.v 23)
 (.skip)
 (.exit 3))
 (.seq
 (.block 4 (.seq
 (.reg [⟨none, .mov (.v 22), none⟩,
  ⟨none, .iaddr 3 (.v 20) (.v 22), none⟩,
  ⟨none, .load (some 3) (.l 0), none⟩,
  ⟨(some 8), .alloc [.int .i64 (0), .int .i64 (0), .str []] [], none⟩,
  ⟨(some 7), .mov (.l 3), none⟩,
  ⟨none, .store 3 (.v 8) (.l 2), none⟩])
 (.seq
 (.seq
 (.reg [⟨none, .mov (.v 7), none⟩,
  ⟨(some 24), .bin .gtr (.l 0) (.c (.int .i64 (0))), none⟩])
 (.cond (.v 24)
 (.reg [⟨none, .mov (.v 4), none⟩,
  ⟨none, .bin .add (.l 0) (.c (.str [44])), none⟩,
  ⟨(some 4), .mov (.l 0), none⟩])
 (.skip)))
 (.seq
 (.reg [⟨none, .load (some 3) (.v 8), none⟩,
  ⟨none, .call F.ref01_Text [(.l 0)], none⟩,
  ⟨none, .mov (.l 0), none⟩,
  ⟨none, .ext (.l 0) 0, none⟩,
  ⟨none, .ext (.l 1) 1, none⟩,
  ⟨(some 9), .mov (.l 1), none⟩,
  ⟨none, .mov (.l 1), none⟩])
 (.reg [⟨none, .mov (.v 4), none⟩,
  ⟨none, .mov (.v 9), none⟩,
  ⟨none, .bin .add (.l 1) (.l 0), none⟩,
  ⟨(some 4), .mov (.l 0), none⟩])))))
 (.reg [⟨none, .bin .add (.v 22) (.c (.int .i64 (1))), none⟩,
  ⟨(some 22), .mov (.l 0), none⟩])))
def l_ref20_Text_1 : VC := .seq
 (.reg [⟨(some 13), .bin .lss (.v 12) (.v 11), none⟩])
 (.seq
 (.cond (.v 13)
 (.skip)
 (.exit 0))
 (.seq
 (.block 1 (.seq
 (.reg [⟨none, .mov (.v 12), none⟩,
  ⟨(some 6), .mov (.l 0), none⟩])
 (.seq
 (.reg [⟨none, .mov (.v 4), none⟩,
  ⟨none, .bin .add (.l 0) (.c (.str [32])), none⟩,
  ⟨(some 4), .mov (.l 0), none⟩])
 (.seq
 (.reg [⟨none, .mov (.v 5), none⟩,
  ⟨none, .mov (.v 6), none⟩,
  ⟨(some 14), .idxs (.l 1) (.l 0), none⟩])
 (.block 2 (.seq
 (.reg [⟨none, .bin .eql (.v 14) (.c (.int .u8 (84))), none⟩,
  ⟨(some 15), .mov (.l 0), none⟩])
 (.cond (.v 15)
 (.reg [⟨none, .mov (.v 4), none⟩,
  ⟨none, .faddr 1 (.v 1), none⟩,
  ⟨none, .load none (.l 0), none⟩,
  ⟨none, .call F.ref20_Digits [(.l 0)], none⟩,
  ⟨none, .bin .add (.l 3) (.l 0), none⟩,
  ⟨(some 4), .mov (.l 0), none⟩])
 (.seq
 (.reg [⟨none, .bin .eql (.v 14) (.c (.int .u8 (79))), none⟩,
  ⟨(some 16), .mov (.l 0), none⟩])
 (.cond (.v 16)
 (.reg [⟨none, .mov (.v 4), none⟩,
  ⟨none, .faddr 2 (.v 1), none⟩,
  ⟨none, .load none (.l 0), none⟩,
  ⟨none, .call F.ref20_quoted [(.l 0)], none⟩,
  ⟨none, .bin .add (.l 3) (.l 0), none⟩,
  ⟨(some 4), .mov (.l 0), none⟩])
 (.seq
 (.reg [⟨none, .bin .eql (.v 14) (.c (.int .u8 (78))), none⟩,
  ⟨(some 17), .mov (.l 0), none⟩])
 (.cond (.v 17)
 (.reg [⟨none, .mov (.v 4), none⟩,
  ⟨none, .faddr 3 (.v 1), none⟩,
  ⟨none, .load none (.l 0), none⟩,
  ⟨none, .call F.ref20_quoted [(.l 0)], none⟩,
  ⟨none, .bin .add (.l 3) (.l 0), none⟩,
  ⟨(some 4), .mov (.l 0), none⟩])
 (.seq
 (.reg [⟨none, .bin .eql (.v 14) (.c (.int .u8 (73))), none⟩,
  ⟨(some 18), .mov (.l 0), none⟩])
 (.cond (.v 18)
 (.reg [⟨none, .mov (.v 4), none⟩,
  ⟨none, .faddr 4 (.v 1), none⟩,
  ⟨none, .load none (.l 0), none⟩,
  ⟨none, .call F.ref20_Digits [(.l 0)], none⟩,
  ⟨none, .bin .add (.l 3) (.l 0), none⟩,
  ⟨(some 4), .mov (.l 0), none⟩])
 (.seq
 (.reg [⟨none, .bin .eql (.v 14) (.c (.int .u8 (82))), none⟩,
  ⟨(some 19), .mov (.l 0), none⟩])
 (.cond (.v 19)
 (.seq
 (.reg [⟨none, .mov (.v 4), none⟩,
  ⟨none, .bin .add (.l 0) (.c (.str [40])), none⟩,
  ⟨(some 4), .mov (.l 0), none⟩])
 (.seq
 (.seq
 (.reg [⟨none, .faddr 5 (.v 1), none⟩,
  ⟨(some 20), .load none (.l 0), none⟩,
  ⟨(some 21), .len false (.v 20), none⟩,
  ⟨(some 22), .mov (.c (.int .i64 (0))), none⟩])
 (.block 3 (.loop [0, 2, 3, 6, 7, 8, 9, 10, 13, 14, 15, 16, 17, 18, 19, 23, 24, 25, 26] l_ref20_Text_0)))
 (.reg [⟨none, .mov (.v 4), none⟩,
  ⟨none, .bin .add (.l 0) (.c (.str [41])), none⟩,
  ⟨(some 4), .mov (.l 0), none⟩])))
 (.seq
 (.seq
 (.reg [⟨none, .bin .eql (.v 14) (.c (.int .u8 (66))), none⟩,
  ⟨(some 25), .mov (.l 0), none⟩])
 (.cond (.v 25)
 (.skip)
 (.reg [⟨none, .bin .eql (.v 14) (.c (.int .u8 (77))), none⟩,
  ⟨(some 25), .mov (.l 0), none⟩])))
 (.cond (.v 25)
 (.reg [⟨none, .mov (.v 4), none⟩,
  ⟨none, .faddr 8 (.v 1), none⟩,
  ⟨none, .load none (.l 0), none⟩,
  ⟨none, .call F.ref20_Digits [(.l 0)], none⟩,
  ⟨none, .bin .add (.l 3) (.l 0), none⟩,
  ⟨(some 4), .mov (.l 0), none⟩])
 (.seq
 (.reg [⟨none, .bin .eql (.v 14) (.c (.int .u8 (67))), none⟩,
  ⟨(some 26), .mov (.l 0), none⟩])
 (.cond (.v 26)
 (.reg [⟨none, .mov (.v 4), none⟩,
  ⟨none, .faddr 6 (.v 1), none⟩,
  ⟨none, .load none (.l 0), none⟩,
  ⟨none, .call F.ref20_Digits [(.l 0)], none⟩,
  ⟨none, .bin .add (.l 3) (.l 0), none⟩,
  ⟨(some 4), .mov (.l 0), none⟩])
 (.reg [⟨none, .mov (.v 4), none⟩,
  ⟨none, .faddr 7 (.v 1), none⟩,
  ⟨none, .load none (.l 0), none⟩,
  ⟨none, .call F.ref20_quoted [(.l 0)], none⟩,
  ⟨none, .bin .add (.l 3) (.l 0), none⟩,
  ⟨(some 4), .mov (.l 0), none⟩]))))))))))))))))))))
 (.reg [⟨none, .bin .add (.v 12) (.c (.int .i64 (1))), none⟩,
  ⟨(some 12), .mov (.l 0), none⟩])))
def vf_ref20_Text : VFun := ⟨[0, 1, 2, 3, 4, 5, 7, 8, 9, 10, 14, 25, 26, 27, 33, 39, 46, 53, 60, 67, 72, 73, 74, 75, 80, 94, 102], 1,
 .seq
 (.reg [⟨(some 1), .box (.v 0) [], none⟩,
  ⟨(some 2), .mov (.c (.str [])), none⟩,
  ⟨(some 3), .mov (.c (.int .i64 (0))), none⟩])
 (.seq
 (.seq
 (.reg [⟨none, .load (some 9) (.v 1), none⟩,
  ⟨none, .call F.ref20_Valid [(.l 0)], none⟩,
  ⟨(some 10), .not (.l 0), none⟩])
 (.cond (.v 10)
 (.seq
 (.reg [⟨(some 2), .mov (.c (.str [])), none⟩,
  ⟨(some 3), .mov (.c (.int .i64 (2))), none⟩])
 (.ret))
 (.skip)))
 (.seq
 (.reg [⟨none, .faddr 0 (.v 1), none⟩,
  ⟨none, .load none (.l 0), none⟩,
  ⟨none, .call F.ref20_word [(.l 0)], none⟩,
  ⟨(some 4), .mov (.l 0), none⟩])
 (.seq
 (.reg [⟨none, .faddr 0 (.v 1), none⟩,
  ⟨none, .load none (.l 0), none⟩,
  ⟨none, .call F.ref20_Fields [(.l 0)], none⟩,
  ⟨none, .mov (.l 0), none⟩,
  ⟨none, .ext (.l 0) 0, none⟩,
  ⟨none, .ext (.l 1) 1, none⟩,
  ⟨(some 5), .mov (.l 1), none⟩,
  ⟨none, .mov (.l 1), none⟩])
 (.seq
 (.seq
 (.reg [⟨none, .mov (.v 5), none⟩,
  ⟨(some 11), .len true (.l 0), none⟩,
  ⟨(some 12), .mov (.c (.int .i64 (0))), none⟩])
 (.block 0 (.loop [0, 2, 3, 6, 7, 8, 9, 10, 13, 14, 15, 16, 17, 18, 19, 20, 21, 22, 23, 24, 25, 26] l_ref20_Text_1)))
 (.seq
 (.reg [⟨none, .mov (.v 4), none⟩,
  ⟨(some 2), .mov (.l 0), none⟩,
  ⟨(some 3), .mov (.c (.int .i64 (0))), none⟩])
 (.ret)))))),
 [.v 2, .v 3]⟩
theorem vfun_ref20_Text : funOf Go.Proofs.Tryz.prog ann F.ref20_Text = some vf_ref20_Text := by kernel_rfl
theorem call_ref20_Text (args : List V) (m : Mem) (hl : args.length = 1) : callL MM F.ref20_Text args m = (ex (callL MM) m.length vf_ref20_Text.body (enter vf_ref20_Text args) m).bind (leave m.length vf_ref20_Text.res) := call_fn vfun_ref20_Text rfl args m hl
def vf_law20_long : VFun := ⟨[0, 2], 1,
 .seq
 (.reg [⟨(some 1), .mov (.c (.bool false)), none⟩])
 (.seq
 (.reg [⟨none, .mov (.v 0), none⟩,
  ⟨none, .len false (.l 0), none⟩,
  ⟨none, .bin .gtr (.l 0) (.c (.int .i64 (12000))), none⟩,
  ⟨(some 1), .mov (.l 0), none⟩])
 (.ret)),
 [.v 1]⟩
theorem vfun_law20_long : funOf Go.Proofs.Tryz.prog ann F.law20_long = some vf_law20_long := by kernel_rfl
theorem call_law20_long (args : List V) (m : Mem) (hl : args.length = 1) : callL MM F.law20_long args m = (ex (callL MM) m.length vf_law20_long.body (enter vf_law20_long args) m).bind (leave m.length vf_law20_long.res) := call_fn vfun_law20_long rfl args m hl
def l_redo_Decode_0 : VC := .seq
 (.reg [⟨(some 15), .bin .lss (.v 14) (.v 13), none⟩])
 (.seq
 (.cond (.v 15)
 (.skip)
 (.exit 0))
 (.seq
 (.block 1 (.seq
 (.reg [⟨none, .iaddr 1 (.v 12) (.v 14), none⟩,
  ⟨none, .load none (.l 0), none⟩,
  ⟨(some 7), .mov (.l 0), none⟩])
 (.reg [⟨none, .mov (.v 6), none⟩,
  ⟨none, .mov (.v 7), none⟩,
  ⟨none, .call F.redo_reader_field [(.l 1), (.v 5), (.l 0)], none⟩])))
 (.reg [⟨none, .bin .add (.v 14) (.c (.int .i64 (1))), none⟩,
  ⟨(some 14), .mov (.l 0), none⟩])))
def vf_redo_Decode : VFun := ⟨[0, 2, 3, 4, 5, 6, 7, 9, 10, 13, 29, 32, 47, 48, 49, 50, 90], 1,
 .seq
 (.reg [⟨(some 1), .alloc [.int .i64 (0), .int .i64 (0), .str [], .str [], .int .i64 (0), .sl true 0 [], .int .i64 (0), .str [], .int .i64 (0)] [], none⟩,
  ⟨(some 2), .mov (.c (.int .i64 (0))), none⟩,
  ⟨(some 3), .mov (.c (.int .i64 (0))), none⟩])
 (.seq
 (.seq
 (.reg [⟨none, .mov (.v 0), none⟩,
  ⟨none, .len false (.l 0), none⟩,
  ⟨(some 9), .bin .lss (.l 0) (.c (.int .i64 (2))), none⟩])
 (.cond (.v 9)
 (.seq
 (.reg [⟨none, .build [.int .i64 (0), .int .i64 (0), .str [], .str [], .int .i64 (0), .sl true 0 [], .int .i64 (0), .str [], .int .i64 (0)] [], none⟩,
  ⟨none, .store 9 (.v 1) (.l 0), none⟩,
  ⟨(some 2), .mov (.c (.int .i64 (0))), none⟩,
  ⟨(some 3), .mov (.c (.int .i64 (31))), none⟩])
 (.ret))
 (.skip)))
 (.seq
 (.draw [⟨none, .mov (.v 0), none⟩,
  ⟨none, .iaddr 1 (.l 0) (.c (.int .i64 (0))), none⟩,
  ⟨none, .load none (.l 0), none⟩,
  ⟨none, .conv .i64 (.l 0), none⟩,
  ⟨none, .bin .shl (.l 0) (.c (.int .u64 (8))), none⟩,
  ⟨none, .mov (.v 0), none⟩,
  ⟨none, .iaddr 1 (.l 0) (.c (.int .i64 (1))), none⟩,
  ⟨none, .load none (.l 0), none⟩,
  ⟨none, .conv .i64 (.l 0), none⟩,
  ⟨none, .bin .add (.l 4) (.l 0), none⟩,
  ⟨none, .bin .add (.l 0) (.c (.int .i64 (2))), none⟩,
  ⟨(some 4), .mov (.l 0), none⟩] ⟨[], [0, 1, 3, 7, 15, 0, 32, 96, 224, 511, 1023, 2047]⟩)
 (.seq
 (.seq
 (.reg [⟨none, .mov (.v 0), none⟩,
  ⟨none, .len false (.l 0), none⟩,
  ⟨none, .mov (.v 4), none⟩,
  ⟨(some 10), .bin .lss (.l 1) (.l 0), none⟩])
 (.cond (.v 10)
 (.seq
 (.reg [⟨none, .build [.int .i64 (0), .int .i64 (0), .str [], .str [], .int .i64 (0), .sl true 0 [], .int .i64 (0), .str [], .int .i64 (0)] [], none⟩,
  ⟨none, .store 9 (.v 1) (.l 0), none⟩,
  ⟨(some 2), .mov (.c (.int .i64 (0))), none⟩,
  ⟨(some 3), .mov (.c (.int .i64 (31))), none⟩])
 (.ret))
 (.skip)))
 (.seq
 (.seq
 (.reg [⟨none, .mov (.v 4), none⟩,
  ⟨(some 11), .bin .lss (.l 0) (.c (.int .i64 (7))), none⟩])
 (.cond (.v 11)
 (.seq
 (.reg [⟨none, .build [.int .i64 (0), .int .i64 (0), .str [], .str [], .int .i64 (0), .sl true 0 [], .int .i64 (0), .str [], .int .i64 (0)] [], none⟩,
  ⟨none, .store 9 (.v 1) (.l 0), none⟩,
  ⟨(some 2), .mov (.c (.int .i64 (0))), none⟩,
  ⟨(some 3), .mov (.c (.int .i64 (30))), none⟩])
 (.ret))
 (.skip)))
 (.seq
 (.reg [⟨none, .mov (.v 0), none⟩,
  ⟨none, .iaddr 1 (.l 0) (.c (.int .i64 (2))), none⟩,
  ⟨none, .load none (.l 0), none⟩,
  ⟨none, .conv .i64 (.l 0), none⟩,
  ⟨none, .build [.int .i64 (0), .int .i64 (0), .str [], .str [], .int .i64 (0), .sl true 0 [], .int .i64 (0), .str [], .int .i64 (0)] [(0, 1, (.l 0))], none⟩,
  ⟨(some 5), .alloc [.int .i64 (0), .int .i64 (0), .str [], .str [], .int .i64 (0), .sl true 0 [], .int .i64 (0), .str [], .int .i64 (0)] [], none⟩,
  ⟨none, .store 9 (.v 5) (.l 1), none⟩])
 (.seq
 (.reg [⟨none, .mov (.v 0), none⟩,
  ⟨none, .mov (.v 4), none⟩,
  ⟨none, .bin .sub (.l 0) (.c (.int .i64 (4))), none⟩,
  ⟨none, .slice (some 1) (.l 2) (some (.c (.int .i64 (3)))) (some (.l 0)) none, none⟩,
  ⟨none, .build [.sl true 0 [], .bool false] [(0, 1, (.l 0))], none⟩,
  ⟨none, .box (.l 0) [], none⟩,
  ⟨(some 6), .mov (.l 0), none⟩])
 (.seq
 (.seq
 (.reg [⟨none, .faddr 0 (.v 5), none⟩,
  ⟨none, .load none (.l 0), none⟩,
  ⟨(some 12), .call F.redo_fields [(.l 0)], none⟩,
  ⟨(some 13), .len false (.v 12), none⟩,
  ⟨(some 14), .mov (.c (.int .i64 (0))), none⟩])
 (.block 0 (.loop [2, 3, 7, 8, 9, 10, 11, 15, 16] l_redo_Decode_0)))
 (.seq
 (.reg [⟨none, .mov (.v 0), none⟩,
  ⟨none, .mov (.v 4), none⟩,
  ⟨none, .bin .sub (.l 0) (.c (.int .i64 (4))), none⟩,
  ⟨none, .mov (.v 4), none⟩,
  ⟨none, .slice (some 1) (.l 3) (some (.l 1)) (some (.l 0)) none, none⟩,
  ⟨none, .build [.sl true 0 [], .bool false] [(0, 1, (.l 0))], none⟩,
  ⟨none, .box (.l 0) [], none⟩,
  ⟨(some 8), .mov (.l 0), none⟩])
 (.seq
 (.seq
 (.draw [⟨none, .mov (.v 6), none⟩,
  ⟨none, .nilck (.l 0), none⟩,
  ⟨none, .faddr 1 (.l 0), none⟩,
  ⟨none, .load none (.l 0), none⟩,
  ⟨none, .mov (.l 0), none⟩,
  ⟨none, .mov (.v 6), (some (0, false))⟩,
  ⟨none, .nilck (.l 0), (some (1, false))⟩,
  ⟨none, .faddr 0 (.l 0), (some (2, false))⟩,
  ⟨none, .load none (.l 0), (some (3, false))⟩,
  ⟨none, .len false (.l 0), (some (4, false))⟩,
  ⟨none, .bin .gtr (.l 0) (.c (.int .i64 (0))), (some (5, false))⟩,
  ⟨none, .pick (.l 6) (.c (.bool true)) (.l 0), none⟩,
  ⟨none, .mov (.l 0), none⟩,
  ⟨none, .load (some 9) (.v 5), (some (0, false))⟩,
  ⟨none, .call F.redo_Valid [(.l 0)], (some (1, false))⟩,
  ⟨none, .not (.l 0), (some (2, false))⟩,
  ⟨none, .pick (.l 3) (.c (.bool true)) (.l 0), none⟩,
  ⟨none, .mov (.l 0), none⟩,
  ⟨none, .mov (.v 8), (some (0, false))⟩,
  ⟨none, .call F.redo_reader_number [(.l 0), (.c (.int .i64 (4)))], (some (1, false))⟩,
  ⟨none, .mov (.v 0), (some (2, false))⟩,
  ⟨none, .mov (.v 4), (some (3, false))⟩,
  ⟨none, .bin .sub (.l 0) (.c (.int .i64 (4))), (some (4, false))⟩,
  ⟨none, .slice (some 1) (.l 2) none (some (.l 0)) none, (some (5, false))⟩,
  ⟨none, .call F.redo_Sum [(.l 0)], (some (6, false))⟩,
  ⟨none, .bin .neq (.l 5) (.l 0), (some (7, false))⟩,
  ⟨(some 16), .pick (.l 8) (.c (.bool true)) (.l 0), none⟩] ⟨[(23, 19)], [0, 1, 3, 7, 15, 31, 63, 127, 255, 511, 1023, 2047, 4095, 8191, 16383, 32767, 65535, 131071, 262143, 524287, 262143, 262143, 2359295, 7602175, 16777215, 33554431, 67108863]⟩)
 (.cond (.v 16)
 (.seq
 (.reg [⟨none, .build [.int .i64 (0), .int .i64 (0), .str [], .str [], .int .i64 (0), .sl true 0 [], .int .i64 (0), .str [], .int .i64 (0)] [], none⟩,
  ⟨none, .store 9 (.v 1) (.l 0), none⟩,
  ⟨(some 2), .mov (.c (.int .i64 (0))), none⟩,
  ⟨(some 3), .mov (.c (.int .i64 (30))), none⟩])
 (.ret))
 (.skip)))
 (.seq
 (.reg [⟨none, .load (some 9) (.v 5), none⟩,
  ⟨none, .mov (.v 4), none⟩,
  ⟨none, .store 9 (.v 1) (.l 1), none⟩,
  ⟨(some 2), .mov (.l 1), none⟩,
  ⟨(some 3), .mov (.c (.int .i64 (0))), none⟩])
 (.ret))))))))))),
 [.cell 1 (some 9), .v 2, .v 3]⟩
theorem vfun_redo_Decode : funOf Go.Proofs.Tryz.prog ann F.redo_Decode = some vf_redo_Decode := by kernel_rfl
theorem call_redo_Decode (args : List V) (m : Mem) (hl : args.length = 1) : callL MM F.redo_Decode args m = (ex (callL MM) m.length vf_redo_Decode.body (enter vf_redo_Decode args) m).bind (leave m.length vf_redo_Decode.res) := call_fn vfun_redo_Decode rfl args m hl
def vf_ref20_Decode : VFun := ⟨[0, 2, 3, 4, 5, 6, 7, 10, 26, 48], 1,
 .seq
 (.reg [⟨(some 1), .alloc [.int .i64 (0), .int .i64 (0), .str [], .str [], .int .i64 (0), .sl true 0 [], .int .i64 (0), .str [], .int .i64 (0)] [], none⟩,
  ⟨(some 2), .mov (.c (.int .i64 (0))), none⟩,
  ⟨(some 3), .mov (.c (.int .i64 (0))), none⟩])
 (.seq
 (.seq
 (.reg [⟨none, .mov (.v 0), none⟩,
  ⟨none, .len false (.l 0), none⟩,
  ⟨(some 7), .bin .lss (.l 0) (.c (.int .i64 (2))), none⟩])
 (.cond (.v 7)
 (.seq
 (.reg [⟨none, .build [.int .i64 (0), .int .i64 (0), .str [], .str [], .int .i64 (0), .sl true 0 [], .int .i64 (0), .str [], .int .i64 (0)] [], none⟩,
  ⟨none, .store 9 (.v 1) (.l 0), none⟩,
  ⟨(some 2), .mov (.c (.int .i64 (0))), none⟩,
  ⟨(some 3), .mov (.c (.int .i64 (31))), none⟩])
 (.ret))
 (.skip)))
 (.seq
 (.draw [⟨none, .mov (.v 0), none⟩,
  ⟨none, .iaddr 1 (.l 0) (.c (.int .i64 (0))), none⟩,
  ⟨none, .load none (.l 0), none⟩,
  ⟨none, .conv .i64 (.l 0), none⟩,
  ⟨none, .bin .mul (.c (.int .i64 (256))) (.l 0), none⟩,
  ⟨none, .bin .add (.c (.int .i64 (2))) (.l 0), none⟩,
  ⟨none, .mov (.v 0), none⟩,
  ⟨none, .iaddr 1 (.l 0) (.c (.int .i64 (1))), none⟩,
  ⟨none, .load none (.l 0), none⟩,
  ⟨none, .conv .i64 (.l 0), none⟩,
  ⟨none, .bin .add (.l 4) (.l 0), none⟩,
  ⟨(some 4), .mov (.l 0), none⟩] ⟨[], [0, 1, 3, 7, 15, 31, 0, 64, 192, 448, 1023, 2047]⟩)
 (.seq
 (.seq
 (.reg [⟨none, .mov (.v 0), none⟩,
  ⟨none, .len false (.l 0), none⟩,
  ⟨none, .mov (.v 4), none⟩,
  ⟨(some 8), .bin .lss (.l 1) (.l 0), none⟩])
 (.cond (.v 8)
 (.seq
 (.reg [⟨none, .build [.int .i64 (0), .int .i64 (0), .str [], .str [], .int .i64 (0), .sl true 0 [], .int .i64 (0), .str [], .int .i64 (0)] [], none⟩,
  ⟨none, .store 9 (.v 1) (.l 0), none⟩,
  ⟨(some 2), .mov (.c (.int .i64 (0))), none⟩,
  ⟨(some 3), .mov (.c (.int .i64 (31))), none⟩])
 (.ret))
 (.skip)))
 (.seq
 (.reg [⟨none, .mov (.v 0), none⟩,
  ⟨none, .mov (.v 4), none⟩,
  ⟨none, .mov (.v 4), none⟩,
  ⟨none, .slice (some 1) (.l 2) none (some (.l 1)) (some (.l 0)), none⟩,
  ⟨none, .build [.sl true 0 [], .int .i64 (0), .bool false] [(0, 1, (.l 0)), (1, 1, (.c (.int .i64 (2))))], none⟩,
  ⟨none, .box (.l 0) [], none⟩,
  ⟨(some 5), .mov (.l 0), none⟩])
 (.seq
 (.reg [⟨none, .mov (.v 5), none⟩,
  ⟨none, .call F.ref20_Reader_Rec [(.l 0)], none⟩,
  ⟨(some 6), .alloc [.int .i64 (0), .int .i64 (0), .str [], .str [], .int .i64 (0), .sl true 0 [], .int .i64 (0), .str [], .int .i64 (0)] [], none⟩,
  ⟨none, .store 9 (.v 6) (.l 1), none⟩])
 (.seq
 (.seq
 (.draw [⟨none, .load (some 9) (.v 6), none⟩,
  ⟨none, .call F.ref20_Valid [(.l 0)], none⟩,
  ⟨none, .not (.l 0), none⟩,
  ⟨none, .mov (.l 0), none⟩,
  ⟨none, .load (some 9) (.v 6), (some (0, false))⟩,
  ⟨none, .call F.ref20_Bytes [(.l 0)], (some (1, false))⟩,
  ⟨none, .toStr false (.l 0), (some (2, false))⟩,
  ⟨none, .mov (.v 0), (some (3, false))⟩,
  ⟨none, .mov (.v 4), (some (4, false))⟩,
  ⟨none, .slice (some 1) (.l 1) none (some (.l 0)) none, (some (5, false))⟩,
  ⟨none, .toStr false (.l 0), (some (6, false))⟩,
  ⟨none, .bin .neq (.l 4) (.l 0), (some (7, false))⟩,
  ⟨(some 9), .pick (.l 8) (.c (.bool true)) (.l 0), none⟩] ⟨[(9, 5), (10, 5)], [0, 1, 3, 7, 15, 31, 63, 15, 15, 399, 911, 2047, 4095]⟩)
 (.cond (.v 9)
 (.seq
 (.reg [⟨none, .build [.int .i64 (0), .int .i64 (0), .str [], .str [], .int .i64 (0), .sl true 0 [], .int .i64 (0), .str [], .int .i64 (0)] [], none⟩,
  ⟨none, .store 9 (.v 1) (.l 0), none⟩,
  ⟨(some 2), .mov (.c (.int .i64 (0))), none⟩,
  ⟨(some 3), .mov (.c (.int .i64 (30))), none⟩])
 (.ret))
 (.skip)))
 (.seq
 (.reg [⟨none, .load (some 9) (.v 6), none⟩,
  ⟨none, .mov (.v 4), none⟩,
  ⟨none, .store 9 (.v 1) (.l 1), none⟩,
  ⟨(some 2), .mov (.l 1), none⟩,
  ⟨(some 3), .mov (.c (.int .i64 (0))), none⟩])
 (.ret)))))))),
 [.cell 1 (some 9), .v 2, .v 3]⟩
theorem vfun_ref20_Decode : funOf Go.Proofs.Tryz.prog ann F.ref20_Decode = some vf_ref20_Decode := by kernel_rfl
theorem call_ref20_Decode (args : List V) (m : Mem) (hl : args.length = 1) : callL MM F.ref20_Decode args m = (ex (callL MM) m.length vf_ref20_Decode.body (enter vf_ref20_Decode args) m).bind (leave m.length vf_ref20_Decode.res) := call_fn vfun_ref20_Decode rfl args m hl
def l_redo_Read_0 : VC := .block 1 (.seq
 (.reg [⟨none, .mov (.v 0), none⟩,
  ⟨none, .mov (.v 4), none⟩,
  ⟨none, .slice (some 1) (.l 1) (some (.l 0)) none none, none⟩,
  ⟨none, .call F.redo_Decode [(.l 0)], none⟩,
  ⟨none, .mov (.l 0), none⟩,
  ⟨none, .ext (.l 0) 0, none⟩,
  ⟨none, .ext (.l 1) 1, none⟩,
  ⟨none, .ext (.l 2) 2, none⟩,
  ⟨(some 5), .alloc [.int .i64 (0), .int .i64 (0), .str [], .str [], .int .i64 (0), .sl true 0 [], .int .i64 (0), .str [], .int .i64 (0)] [], none⟩,
  ⟨none, .store 9 (.v 5) (.l 3), none⟩,
  ⟨(some 6), .mov (.l 3), none⟩,
  ⟨(some 7), .mov (.l 3), none⟩])
 (.seq
 (.seq
 (.reg [⟨none, .mov (.v 7), none⟩,
  ⟨(some 8), .bin .neq (.l 0) (.c (.int .i64 (0))), none⟩])
 (.cond (.v 8)
 (.seq
 (.reg [⟨none, .mov (.v 3), none⟩,
  ⟨none, .mov (.v 4), none⟩,
  ⟨(some 1), .mov (.l 1), none⟩,
  ⟨(some 2), .mov (.l 1), none⟩])
 (.ret))
 (.skip)))
 (.seq
 (.reg [⟨none, .mov (.v 3), none⟩,
  ⟨none, .load (some 9) (.v 5), none⟩,
  ⟨none, .mksl 9 [(.l 0)], none⟩,
  ⟨none, .app 9 112 (.l 2) (.l 0), none⟩,
  ⟨(some 3), .mov (.l 0), none⟩])
 (.reg [⟨none, .mov (.v 4), none⟩,
  ⟨none, .mov (.v 6), none⟩,
  ⟨none, .bin .add (.l 1) (.l 0), none⟩,
  ⟨(some 4), .mov (.l 0), none⟩]))))
def vf_redo_Read : VFun := ⟨[0, 2, 3, 4, 5, 6, 7, 8, 18], 1,
 .seq
 (.reg [⟨(some 1), .mov (.c (.sl true 0 [])), none⟩,
  ⟨(some 2), .mov (.c (.int .i64 (0))), none⟩])
 (.seq
 (.reg [⟨(some 3), .nilbuf 9, none⟩])
 (.seq
 (.reg [⟨(some 4), .mov (.c (.int .i64 (0))), none⟩])
 (.block 0 (.loop [1, 2, 5, 6, 7, 8] l_redo_Read_0)))),
 [.v 1, .v 2]⟩
theorem vfun_redo_Read : funOf Go.Proofs.Tryz.prog ann F.redo_Read = some vf_redo_Read := by kernel_rfl
theorem call_redo_Read (args : List V) (m : Mem) (hl : args.length = 1) : callL MM F.redo_Read args m = (ex (callL MM) m.length vf_redo_Read.body (enter vf_redo_Read args) m).bind (leave m.length vf_redo_Read.res) := call_fn vfun_redo_Read rfl args m hl
def l_ref20_Read_0 : VC := .block 1 (.seq
 (.reg [⟨none, .mov (.v 0), none⟩,
  ⟨none, .mov (.v 4), none⟩,
  ⟨none, .slice (some 1) (.l 1) (some (.l 0)) none none, none⟩,
  ⟨none, .call F.ref20_Decode [(.l 0)], none⟩,
  ⟨none, .mov (.l 0), none⟩,
  ⟨none, .ext (.l 0) 0, none⟩,
  ⟨none, .ext (.l 1) 1, none⟩,
  ⟨none, .ext (.l 2) 2, none⟩,
  ⟨(some 5), .alloc [.int .i64 (0), .int .i64 (0), .str [], .str [], .int .i64 (0), .sl true 0 [], .int .i64 (0), .str [], .int .i64 (0)] [], none⟩,
  ⟨none, .store 9 (.v 5) (.l 3), none⟩,
  ⟨(some 6), .mov (.l 3), none⟩,
  ⟨(some 7), .mov (.l 3), none⟩])
 (.seq
 (.seq
 (.reg [⟨none, .mov (.v 7), none⟩,
  ⟨(some 8), .bin .neq (.l 0) (.c (.int .i64 (0))), none⟩])
 (.cond (.v 8)
 (.seq
 (.reg [⟨none, .mov (.v 3), none⟩,
  ⟨none, .mov (.v 4), none⟩,
  ⟨(some 1), .mov (.l 1), none⟩,
  ⟨(some 2), .mov (.l 1), none⟩])
 (.ret))
 (.skip)))
 (.seq
 (.reg [⟨none, .mov (.v 3), none⟩,
  ⟨none, .load (some 9) (.v 5), none⟩,
  ⟨none, .mksl 9 [(.l 0)], none⟩,
  ⟨none, .app 9 112 (.l 2) (.l 0), none⟩,
  ⟨(some 3), .mov (.l 0), none⟩])
 (.reg [⟨none, .mov (.v 4), none⟩,
  ⟨none, .mov (.v 6), none⟩,
  ⟨none, .bin .add (.l 1) (.l 0), none⟩,
  ⟨(some 4), .mov (.l 0), none⟩]))))
def vf_ref20_Read : VFun := ⟨[0, 2, 3, 4, 5, 6, 7, 8, 18], 1,
 .seq
 (.reg [⟨(some 1), .mov (.c (.sl true 0 [])), none⟩,
  ⟨(some 2), .mov (.c (.int .i64 (0))), none⟩])
 (.seq
 (.reg [⟨(some 3), .nilbuf 9, none⟩])
 (.seq
 (.reg [⟨(some 4), .mov (.c (.int .i64 (0))), none⟩])
 (.block 0 (.loop [1, 2, 5, 6, 7, 8] l_ref20_Read_0)))),
 [.v 1, .v 2]⟩
theorem vfun_ref20_Read : funOf Go.Proofs.Tryz.prog ann F.ref20_Read = some vf_ref20_Read := by kernel_rfl
theorem call_ref20_Read (args : List V) (m : Mem) (hl : args.length = 1) : callL MM F.ref20_Read args m = (ex (callL MM) m.length vf_ref20_Read.body (enter vf_ref20_Read args) m).bind (leave m.length vf_ref20_Read.res) := call_fn vfun_ref20_Read rfl args m hl
def l_ref20_SameAll_0 : VC := .seq
 (.reg [⟨(some 7), .bin .lss (.v 6) (.v 5), none⟩])
 (.seq
 (.cond (.v 7)
 (.skip)
 (.exit 0))
 (.seq
 (.block 1 (.seq
 (.reg [⟨none, .mov (.v 6), none⟩,
  ⟨(some 3), .mov (.l 0), none⟩])
 (.seq
 (.draw [⟨none, .mov (.v 0), none⟩,
  ⟨none, .mov (.v 3), none⟩,
  ⟨none, .iaddr 9 (.l 1) (.l 0), none⟩,
  ⟨none, .load (some 9) (.l 0), none⟩,
  ⟨none, .mov (.v 1), none⟩,
  ⟨none, .mov (.v 3), none⟩,
  ⟨none, .iaddr 9 (.l 1) (.l 0), none⟩,
  ⟨none, .load (some 9) (.l 0), none⟩,
  ⟨none, .call F.ref20_Same [(.l 4), (.l 0)], none⟩,
  ⟨(some 8), .not (.l 0), none⟩] ⟨[], [0, 0, 3, 7, 0, 0, 48, 112, 255, 511]⟩)
 (.cond (.v 8)
 (.seq
 (.reg [⟨(some 2), .mov (.c (.bool false)), none⟩])
 (.ret))
 (.skip)))))
 (.reg [⟨none, .bin .add (.v 6) (.c (.int .i64 (1))), none⟩,
  ⟨(some 6), .mov (.l 0), none⟩])))
def vf_ref20_SameAll : VFun := ⟨[0, 1, 4, 5, 10, 12, 13, 14, 25], 2,
 .seq
 (.reg [⟨(some 2), .mov (.c (.bool false)), none⟩])
 (.seq
 (.seq
 (.reg [⟨none, .mov (.v 0), none⟩,
  ⟨none, .len false (.l 0), none⟩,
  ⟨none, .mov (.v 1), none⟩,
  ⟨none, .len false (.l 0), none⟩,
  ⟨(some 4), .bin .neq (.l 2) (.l 0), none⟩])
 (.cond (.v 4)
 (.seq
 (.reg [⟨(some 2), .mov (.c (.bool false)), none⟩])
 (.ret))
 (.skip)))
 (.seq
 (.seq
 (.reg [⟨none, .mov (.v 0), none⟩,
  ⟨(some 5), .len false (.l 0), none⟩,
  ⟨(some 6), .mov (.c (.int .i64 (0))), none⟩])
 (.block 0 (.loop [2, 3, 4, 7, 8] l_ref20_SameAll_0)))
 (.seq
 (.reg [⟨(some 2), .mov (.c (.bool true)), none⟩])
 (.ret)))),
 [.v 2]⟩
theorem vfun_ref20_SameAll : funOf Go.Proofs.Tryz.prog ann F.ref20_SameAll = some vf_ref20_SameAll := by kernel_rfl
theorem call_ref20_SameAll (args : List V) (m : Mem) (hl : args.length = 2) : callL MM F.ref20_SameAll args m = (ex (callL MM) m.length vf_ref20_SameAll.body (enter vf_ref20_SameAll args) m).bind (leave m.length vf_ref20_SameAll.res) := call_fn vfun_ref20_SameAll rfl args m hl
end Go.Vm.Redo
-- RV1: Functions of the program, resolved.
set_option maxRecDepth 100000
namespace Go.Vm.Redo
open Go Go.Vm
def vf_redo_Cut : VFun := ⟨[0, 1, 4, 5, 6, 15], 2,
 .seq
 (.reg [⟨(some 2), .mov (.c (.sl true 0 [])), none⟩,
  ⟨(some 3), .mov (.c (.int .i64 (0))), none⟩])
 (.seq
 (.seq
 (.reg [⟨none, .mov (.v 1), none⟩,
  ⟨none, .bin .lss (.l 0) (.c (.int .i64 (0))), none⟩,
  ⟨none, .mov (.l 0), none⟩,
  ⟨none, .mov (.v 1), (some (0, false))⟩,
  ⟨none, .mov (.v 0), (some (1, false))⟩,
  ⟨none, .len false (.l 0), (some (2, false))⟩,
  ⟨none, .bin .gtr (.l 2) (.l 0), (some (3, false))⟩,
  ⟨(some 5), .pick (.l 4) (.c (.bool true)) (.l 0), none⟩])
 (.cond (.v 5)
 (.seq
 (.reg [⟨(some 2), .mov (.c (.sl true 0 [])), none⟩,
  ⟨(some 3), .mov (.c (.int .i64 (21))), none⟩])
 (.ret))
 (.skip)))
 (.seq
 (.reg [⟨none, .mov (.v 0), none⟩,
  ⟨none, .mov (.v 1), none⟩,
  ⟨none, .slice (some 1) (.l 1) none (some (.l 0)) none, none⟩,
  ⟨none, .call F.redo_Read [(.l 0)], none⟩,
  ⟨none, .mov (.l 0), none⟩,
  ⟨none, .ext (.l 0) 0, none⟩,
  ⟨none, .ext (.l 1) 1, none⟩,
  ⟨(some 4), .mov (.l 1), none⟩,
  ⟨none, .mov (.l 1), none⟩])
 (.seq
 (.reg [⟨none, .mov (.v 4), none⟩,
  ⟨(some 2), .mov (.l 0), none⟩,
  ⟨(some 3), .mov (.c (.int .i64 (0))), none⟩])
 (.ret)))),
 [.v 2, .v 3]⟩
theorem vfun_redo_Cut : funOf Go.Proofs.Tryz.prog ann F.redo_Cut = some vf_redo_Cut := by kernel_rfl
theorem call_redo_Cut (args : List V) (m : Mem) (hl : args.length = 2) : callL MM F.redo_Cut args m = (ex (callL MM) m.length vf_redo_Cut.body (enter vf_redo_Cut args) m).bind (leave m.length vf_redo_Cut.res) := call_fn vfun_redo_Cut rfl args m hl
def vf_ref20_Cut : VFun := ⟨[0, 1, 4, 5, 6, 15], 2,
 .seq
 (.reg [⟨(some 2), .mov (.c (.sl true 0 [])), none⟩,
  ⟨(some 3), .mov (.c (.int .i64 (0))), none⟩])
 (.seq
 (.seq
 (.reg [⟨none, .mov (.v 1), none⟩,
  ⟨none, .bin .lss (.l 0) (.c (.int .i64 (0))), none⟩,
  ⟨none, .mov (.l 0), none⟩,
  ⟨none, .mov (.v 1), (some (0, false))⟩,
  ⟨none, .mov (.v 0), (some (1, false))⟩,
  ⟨none, .len false (.l 0), (some (2, false))⟩,
  ⟨none, .bin .gtr (.l 2) (.l 0), (some (3, false))⟩,
  ⟨(some 5), .pick (.l 4) (.c (.bool true)) (.l 0), none⟩])
 (.cond (.v 5)
 (.seq
 (.reg [⟨(some 2), .mov (.c (.sl true 0 [])), none⟩,
  ⟨(some 3), .mov (.c (.int .i64 (21))), none⟩])
 (.ret))
 (.skip)))
 (.seq
 (.reg [⟨none, .mov (.v 0), none⟩,
  ⟨none, .mov (.v 1), none⟩,
  ⟨none, .mov (.v 1), none⟩,
  ⟨none, .slice (some 1) (.l 2) none (some (.l 1)) (some (.l 0)), none⟩,
  ⟨none, .call F.ref20_Read [(.l 0)], none⟩,
  ⟨none, .mov (.l 0), none⟩,
  ⟨none, .ext (.l 0) 0, none⟩,
  ⟨none, .ext (.l 1) 1, none⟩,
  ⟨(some 4), .mov (.l 1), none⟩,
  ⟨none, .mov (.l 1), none⟩])
 (.seq
 (.reg [⟨none, .mov (.v 4), none⟩,
  ⟨(some 2), .mov (.l 0), none⟩,
  ⟨(some 3), .mov (.c (.int .i64 (0))), none⟩])
 (.ret)))),
 [.v 2, .v 3]⟩
theorem vfun_ref20_Cut : funOf Go.Proofs.Tryz.prog ann F.ref20_Cut = some vf_ref20_Cut := by kernel_rfl
theorem call_ref20_Cut (args : List V) (m : Mem) (hl : args.length = 2) : callL MM F.ref20_Cut args m = (ex (callL MM) m.length vf_ref20_Cut.body (enter vf_ref20_Cut args) m).bind (leave m.length vf_ref20_Cut.res) := call_fn vfun_ref20_Cut rfl args m hl
def l_redo_Write_0 : VC := .seq
 (.reg [⟨(some 10), .bin .lss (.v 9) (.v 8), none⟩])
 (.seq
 (.cond (.v 10)
 (.skip)
 (.exit 0))
 (.seq
 (.block 1 (.seq
 (.reg [⟨none, .iaddr 9 (.v 7) (.v 9), none⟩,
  ⟨none, .load (some 9) (.l 0), none⟩,
  ⟨(some 4), .alloc [.int .i64 (0), .int .i64 (0), .str [], .str [], .int .i64 (0), .sl true 0 [], .int .i64 (0), .str [], .int .i64 (0)] [], none⟩,
  ⟨none, .store 9 (.v 4) (.l 1), none⟩])
 (.seq
 (.reg [⟨none, .load (some 9) (.v 4), none⟩,
  ⟨none, .call F.redo_Encode [(.l 0)], none⟩,
  ⟨none, .mov (.l 0), none⟩,
  ⟨none, .ext (.l 0) 0, none⟩,
  ⟨none, .ext (.l 1) 1, none⟩,
  ⟨(some 5), .mov (.l 1), none⟩,
  ⟨(some 6), .mov (.l 1), none⟩])
 (.seq
 (.seq
 (.reg [⟨none, .mov (.v 6), none⟩,
  ⟨(some 11), .bin .neq (.l 0) (.c (.int .i64 (0))), none⟩])
 (.cond (.v 11)
 (.seq
 (.reg [⟨none, .mov (.v 6), none⟩,
  ⟨(some 1), .mov (.c (.sl true 0 [])), none⟩,
  ⟨(some 2), .mov (.l 1), none⟩])
 (.ret))
 (.skip)))
 (.reg [⟨none, .mov (.v 3), none⟩,
  ⟨none, .mov (.v 5), none⟩,
  ⟨none, .app 1 1 (.l 1) (.l 0), none⟩,
  ⟨(some 3), .mov (.l 0), none⟩])))))
 (.reg [⟨none, .bin .add (.v 9) (.c (.int .i64 (1))), none⟩,
  ⟨(some 9), .mov (.l 0), none⟩])))
def vf_redo_Write : VFun := ⟨[0, 2, 3, 4, 6, 7, 8, 9, 10, 11, 12, 21], 1,
 .seq
 (.reg [⟨(some 1), .mov (.c (.sl true 0 [])), none⟩,
  ⟨(some 2), .mov (.c (.int .i64 (0))), none⟩])
 (.seq
 (.reg [⟨(some 3), .nilbuf 1, none⟩])
 (.seq
 (.seq
 (.reg [⟨(some 7), .mov (.v 0), none⟩,
  ⟨(some 8), .len false (.v 7), none⟩,
  ⟨(some 9), .mov (.c (.int .i64 (0))), none⟩])
 (.block 0 (.loop [0, 1, 2, 4, 5, 6, 10, 11] l_redo_Write_0)))
 (.seq
 (.reg [⟨none, .mov (.v 3), none⟩,
  ⟨(some 1), .mov (.l 0), none⟩,
  ⟨(some 2), .mov (.c (.int .i64 (0))), none⟩])
 (.ret)))),
 [.v 1, .v 2]⟩
theorem vfun_redo_Write : funOf Go.Proofs.Tryz.prog ann F.redo_Write = some vf_redo_Write := by kernel_rfl
theorem call_redo_Write (args : List V) (m : Mem) (hl : args.length = 1) : callL MM F.redo_Write args m = (ex (callL MM) m.length vf_redo_Write.body (enter vf_redo_Write args) m).bind (leave m.length vf_redo_Write.res) := call_fn vfun_redo_Write rfl args m hl
def l_ref20_Write_0 : VC := .seq
 (.reg [⟨(some 10), .bin .lss (.v 9) (.v 8), none⟩])
 (.seq
 (.cond (.v 10)
 (.skip)
 (.exit 0))
 (.seq
 (.block 1 (.seq
 (.reg [⟨none, .iaddr 9 (.v 7) (.v 9), none⟩,
  ⟨none, .load (some 9) (.l 0), none⟩,
  ⟨(some 4), .alloc [.int .i64 (0), .int .i64 (0), .str [], .str [], .int .i64 (0), .sl true 0 [], .int .i64 (0), .str [], .int .i64 (0)] [], none⟩,
  ⟨none, .store 9 (.v 4) (.l 1), none⟩])
 (.seq
 (.reg [⟨none, .load (some 9) (.v 4), none⟩,
  ⟨none, .call F.ref20_Encode [(.l 0)], none⟩,
  ⟨none, .mov (.l 0), none⟩,
  ⟨none, .ext (.l 0) 0, none⟩,
  ⟨none, .ext (.l 1) 1, none⟩,
  ⟨(some 5), .mov (.l 1), none⟩,
  ⟨(some 6), .mov (.l 1), none⟩])
 (.seq
 (.seq
 (.reg [⟨none, .mov (.v 6), none⟩,
  ⟨(some 11), .bin .neq (.l 0) (.c (.int .i64 (0))), none⟩])
 (.cond (.v 11)
 (.seq
 (.reg [⟨none, .mov (.v 6), none⟩,
  ⟨(some 1), .mov (.c (.sl true 0 [])), none⟩,
  ⟨(some 2), .mov (.l 1), none⟩])
 (.ret))
 (.skip)))
 (.reg [⟨none, .mov (.v 3), none⟩,
  ⟨none, .mov (.v 5), none⟩,
  ⟨none, .app 1 1 (.l 1) (.l 0), none⟩,
  ⟨(some 3), .mov (.l 0), none⟩])))))
 (.reg [⟨none, .bin .add (.v 9) (.c (.int .i64 (1))), none⟩,
  ⟨(some 9), .mov (.l 0), none⟩])))
def vf_ref20_Write : VFun := ⟨[0, 2, 3, 4, 6, 7, 8, 9, 10, 11, 12, 21], 1,
 .seq
 (.reg [⟨(some 1), .mov (.c (.sl true 0 [])), none⟩,
  ⟨(some 2), .mov (.c (.int .i64 (0))), none⟩])
 (.seq
 (.reg [⟨(some 3), .nilbuf 1, none⟩])
 (.seq
 (.seq
 (.reg [⟨(some 7), .mov (.v 0), none⟩,
  ⟨(some 8), .len false (.v 7), none⟩,
  ⟨(some 9), .mov (.c (.int .i64 (0))), none⟩])
 (.block 0 (.loop [0, 1, 2, 4, 5, 6, 10, 11] l_ref20_Write_0)))
 (.seq
 (.reg [⟨none, .mov (.v 3), none⟩,
  ⟨(some 1), .mov (.l 0), none⟩,
  ⟨(some 2), .mov (.c (.int .i64 (0))), none⟩])
 (.ret)))),
 [.v 1, .v 2]⟩
theorem vfun_ref20_Write : funOf Go.Proofs.Tryz.prog ann F.ref20_Write = some vf_ref20_Write := by kernel_rfl
theorem call_ref20_Write (args : List V) (m : Mem) (hl : args.length = 1) : callL MM F.ref20_Write args m = (ex (callL MM) m.length vf_ref20_Write.body (enter vf_ref20_Write args) m).bind (leave m.length vf_ref20_Write.res) := call_fn vfun_ref20_Write rfl args m hl
def vf_ref01_Int : VFun := ⟨[0, 2], 1,
 .seq
 (.reg [⟨(some 1), .alloc [.int .i64 (0), .int .i64 (0), .str []] [], none⟩])
 (.seq
 (.reg [⟨none, .mov (.v 0), none⟩,
  ⟨none, .build [.int .i64 (0), .int .i64 (0), .str []] [(0, 1, (.c (.int .i64 (1)))), (1, 1, (.l 0))], none⟩,
  ⟨none, .store 3 (.v 1) (.l 0), none⟩])
 (.ret)),
 [.cell 1 (some 3)]⟩
theorem vfun_ref01_Int : funOf Go.Proofs.Tryz.prog ann F.ref01_Int = some vf_ref01_Int := by kernel_rfl
theorem call_ref01_Int (args : List V) (m : Mem) (hl : args.length = 1) : callL MM F.ref01_Int args m = (ex (callL MM) m.length vf_ref01_Int.body (enter vf_ref01_Int args) m).bind (leave m.length vf_ref01_Int.res) := call_fn vfun_ref01_Int rfl args m hl
def vf_ref01_String : VFun := ⟨[0, 2], 1,
 .seq
 (.reg [⟨(some 1), .alloc [.int .i64 (0), .int .i64 (0), .str []] [], none⟩])
 (.seq
 (.reg [⟨none, .mov (.v 0), none⟩,
  ⟨none, .build [.int .i64 (0), .int .i64 (0), .str []] [(0, 1, (.c (.int .i64 (2)))), (2, 1, (.l 0))], none⟩,
  ⟨none, .store 3 (.v 1) (.l 0), none⟩])
 (.ret)),
 [.cell 1 (some 3)]⟩
theorem vfun_ref01_String : funOf Go.Proofs.Tryz.prog ann F.ref01_String = some vf_ref01_String := by kernel_rfl
theorem call_ref01_String (args : List V) (m : Mem) (hl : args.length = 1) : callL MM F.ref01_String args m = (ex (callL MM) m.length vf_ref01_String.body (enter vf_ref01_String args) m).bind (leave m.length vf_ref01_String.res) := call_fn vfun_ref01_String rfl args m hl
def vf_ref01_Null : VFun := ⟨[0], 0,
 .seq
 (.reg [⟨(some 0), .alloc [.int .i64 (0), .int .i64 (0), .str []] [], none⟩])
 (.seq
 (.reg [⟨none, .build [.int .i64 (0), .int .i64 (0), .str []] [], none⟩,
  ⟨none, .store 3 (.v 0) (.l 0), none⟩])
 (.ret)),
 [.cell 0 (some 3)]⟩
theorem vfun_ref01_Null : funOf Go.Proofs.Tryz.prog ann F.ref01_Null = some vf_ref01_Null := by kernel_rfl
theorem call_ref01_Null (args : List V) (m : Mem) (hl : args.length = 0) : callL MM F.ref01_Null args m = (ex (callL MM) m.length vf_ref01_Null.body (enter vf_ref01_Null args) m).bind (leave m.length vf_ref01_Null.res) := call_fn vfun_ref01_Null rfl args m hl
def vf_ref01_Bool : VFun := ⟨[0, 2, 3], 1,
 .seq
 (.reg [⟨(some 1), .alloc [.int .i64 (0), .int .i64 (0), .str []] [], none⟩])
 (.seq
 (.seq
 (.reg [⟨(some 2), .mov (.v 0), none⟩])
 (.cond (.v 2)
 (.seq
 (.reg [⟨none, .build [.int .i64 (0), .int .i64 (0), .str []] [(0, 1, (.c (.int .i64 (3)))), (1, 1, (.c (.int .i64 (1))))], none⟩,
  ⟨none, .store 3 (.v 1) (.l 0), none⟩])
 (.ret))
 (.skip)))
 (.seq
 (.reg [⟨none, .build [.int .i64 (0), .int .i64 (0), .str []] [(0, 1, (.c (.int .i64 (3))))], none⟩,
  ⟨none, .store 3 (.v 1) (.l 0), none⟩])
 (.ret))),
 [.cell 1 (some 3)]⟩
theorem vfun_ref01_Bool : funOf Go.Proofs.Tryz.prog ann F.ref01_Bool = some vf_ref01_Bool := by kernel_rfl
theorem call_ref01_Bool (args : List V) (m : Mem) (hl : args.length = 1) : callL MM F.ref01_Bool args m = (ex (callL MM) m.length vf_ref01_Bool.body (enter vf_ref01_Bool args) m).bind (leave m.length vf_ref01_Bool.res) := call_fn vfun_ref01_Bool rfl args m hl
def l_redo_writer_number_0 : VC := .seq
 (.seq
 (.reg [⟨none, .mov (.v 3), none⟩,
  ⟨(some 4), .bin .geq (.l 0) (.c (.int .i64 (0))), none⟩])
 (.cond (.v 4)
 (.skip)
 (.exit 0)))
 (.seq
 (.block 1 (.draw [⟨none, .mov (.v 0), none⟩,
  ⟨none, .mov (.v 0), none⟩,
  ⟨none, .nilck (.l 0), none⟩,
  ⟨none, .faddr 0 (.l 0), none⟩,
  ⟨none, .load none (.l 0), none⟩,
  ⟨none, .mov (.v 1), none⟩,
  ⟨none, .mov (.v 3), none⟩,
  ⟨none, .bin .mul (.c (.int .i64 (8))) (.l 0), none⟩,
  ⟨none, .bin .shr (.l 2) (.l 0), none⟩,
  ⟨none, .conv .u8 (.l 0), none⟩,
  ⟨none, .mksl 1 [(.l 0)], none⟩,
  ⟨none, .app 1 1 (.l 6) (.l 0), none⟩,
  ⟨none, .nilck (.l 11), none⟩,
  ⟨none, .faddr 0 (.l 0), none⟩,
  ⟨none, .store 1 (.l 0) (.l 2), none⟩] ⟨[], [0, 0, 2, 6, 14, 0, 0, 64, 224, 480, 992, 2046, 4095, 8191, 16383]⟩))
 (.reg [⟨none, .mov (.v 3), none⟩,
  ⟨none, .bin .sub (.l 0) (.c (.int .i64 (1))), none⟩,
  ⟨(some 3), .mov (.l 0), none⟩]))
def vf_redo_writer_number : VFun := ⟨[0, 1, 2, 6, 10], 3,
 .seq
 (.reg [⟨none, .mov (.v 2), none⟩,
  ⟨none, .bin .sub (.l 0) (.c (.int .i64 (1))), none⟩,
  ⟨(some 3), .mov (.l 0), none⟩])
 (.block 0 (.loop [2, 4] l_redo_writer_number_0)),
 []⟩
theorem vfun_redo_writer_number : funOf Go.Proofs.Tryz.prog ann F.redo_writer_number = some vf_redo_writer_number := by kernel_rfl
theorem call_redo_writer_number (args : List V) (m : Mem) (hl : args.length = 3) : callL MM F.redo_writer_number args m = (ex (callL MM) m.length vf_redo_writer_number.body (enter vf_redo_writer_number args) m).bind (leave m.length vf_redo_writer_number.res) := call_fn vfun_redo_writer_number rfl args m hl
def vf_redo_fields : VFun := ⟨[0, 2, 3, 4, 8, 11, 14, 17, 20, 23, 26, 29, 32], 1,
 .seq
 (.reg [⟨(some 1), .mov (.c (.sl true 0 [])), none⟩])
 (.seq
 (.seq
 (.reg [⟨(some 2), .mov (.v 0), none⟩])
 (.block 0 (.seq
 (.seq
 (.reg [⟨none, .bin .eql (.v 2) (.c (.int .i64 (1))), none⟩,
  ⟨(some 3), .mov (.l 0), none⟩])
 (.cond (.v 3)
 (.skip)
 (.reg [⟨none, .bin .eql (.v 2) (.c (.int .i64 (2))), none⟩,
  ⟨(some 3), .mov (.l 0), none⟩])))
 (.cond (.v 3)
 (.seq
 (.reg [⟨none, .mksl 1 [(.c (.int .i64 (0))), (.c (.int .i64 (1))), (.c (.int .i64 (2))), (.c (.int .i64 (3))), (.c (.int .i64 (4)))], none⟩,
  ⟨(some 1), .mov (.l 0), none⟩])
 (.ret))
 (.seq
 (.reg [⟨none, .bin .eql (.v 2) (.c (.int .i64 (3))), none⟩,
  ⟨(some 4), .mov (.l 0), none⟩])
 (.cond (.v 4)
 (.seq
 (.reg [⟨none, .mksl 1 [(.c (.int .i64 (0))), (.c (.int .i64 (1))), (.c (.int .i64 (2))), (.c (.int .i64 (3)))], none⟩,
  ⟨(some 1), .mov (.l 0), none⟩])
 (.ret))
 (.seq
 (.reg [⟨none, .bin .eql (.v 2) (.c (.int .i64 (4))), none⟩,
  ⟨(some 5), .mov (.l 0), none⟩])
 (.cond (.v 5)
 (.seq
 (.reg [⟨none, .mksl 1 [(.c (.int .i64 (0))), (.c (.int .i64 (7)))], none⟩,
  ⟨(some 1), .mov (.l 0), none⟩])
 (.ret))
 (.seq
 (.reg [⟨none, .bin .eql (.v 2) (.c (.int .i64 (5))), none⟩,
  ⟨(some 6), .mov (.l 0), none⟩])
 (.cond (.v 6)
 (.seq
 (.reg [⟨none, .mksl 1 [(.c (.int .i64 (0))), (.c (.int .i64 (5)))], none⟩,
  ⟨(some 1), .mov (.l 0), none⟩])
 (.ret))
 (.seq
 (.reg [⟨none, .bin .eql (.v 2) (.c (.int .i64 (6))), none⟩,
  ⟨(some 7), .mov (.l 0), none⟩])
 (.cond (.v 7)
 (.seq
 (.reg [⟨none, .mksl 1 [(.c (.int .i64 (0)))], none⟩,
  ⟨(some 1), .mov (.l 0), none⟩])
 (.ret))
 (.seq
 (.reg [⟨none, .bin .eql (.v 2) (.c (.int .i64 (7))), none⟩,
  ⟨(some 8), .mov (.l 0), none⟩])
 (.cond (.v 8)
 (.seq
 (.reg [⟨none, .mksl 1 [(.c (.int .i64 (0))), (.c (.int .i64 (6)))], none⟩,
  ⟨(some 1), .mov (.l 0), none⟩])
 (.ret))
 (.seq
 (.reg [⟨none, .bin .eql (.v 2) (.c (.int .i64 (8))), none⟩,
  ⟨(some 9), .mov (.l 0), none⟩])
 (.cond (.v 9)
 (.seq
 (.reg [⟨none, .mksl 1 [(.c (.int .i64 (1))), (.c (.int .i64 (6)))], none⟩,
  ⟨(some 1), .mov (.l 0), none⟩])
 (.ret))
 (.seq
 (.reg [⟨none, .bin .eql (.v 2) (.c (.int .i64 (9))), none⟩,
  ⟨(some 10), .mov (.l 0), none⟩])
 (.cond (.v 10)
 (.seq
 (.reg [⟨none, .mksl 1 [(.c (.int .i64 (1))), (.c (.int .i64 (2)))], none⟩,
  ⟨(some 1), .mov (.l 0), none⟩])
 (.ret))
 (.seq
 (.reg [⟨none, .bin .eql (.v 2) (.c (.int .i64 (10))), none⟩,
  ⟨(some 11), .mov (.l 0), none⟩])
 (.cond (.v 11)
 (.seq
 (.reg [⟨none, .mksl 1 [(.c (.int .i64 (1))), (.c (.int .i64 (2))), (.c (.int .i64 (7)))], none⟩,
  ⟨(some 1), .mov (.l 0), none⟩])
 (.ret))
 (.seq
 (.reg [⟨none, .bin .eql (.v 2) (.c (.int .i64 (11))), none⟩,
  ⟨(some 12), .mov (.l 0), none⟩])
 (.cond (.v 12)
 (.seq
 (.reg [⟨none, .mksl 1 [], none⟩,
  ⟨(some 1), .mov (.l 0), none⟩])
 (.ret))
 (.skip)))))))))))))))))))))))
 (.seq
 (.reg [⟨(some 1), .mov (.c (.sl true 0 [])), none⟩])
 (.ret))),
 [.v 1]⟩
theorem vfun_redo_fields : funOf Go.Proofs.Tryz.prog ann F.redo_fields = some vf_redo_fields := by kernel_rfl
theorem call_redo_fields (args : List V) (m : Mem) (hl : args.length = 1) : callL MM F.redo_fields args m = (ex (callL MM) m.length vf_redo_fields.body (enter vf_redo_fields args) m).bind (leave m.length vf_redo_fields.res) := call_fn vfun_redo_fields rfl args m hl
def vf_redo_writer_field : VFun := ⟨[0, 1, 2, 4, 6, 7, 13, 19, 25, 31, 37, 43, 49], 3,
 .seq
 (.reg [⟨(some 3), .box (.v 1) [], none⟩])
 (.seq
 (.reg [⟨(some 4), .mov (.v 2), none⟩])
 (.block 0 (.seq
 (.reg [⟨none, .bin .eql (.v 4) (.c (.int .i64 (0))), none⟩,
  ⟨(some 5), .mov (.l 0), none⟩])
 (.cond (.v 5)
 (.reg [⟨none, .mov (.v 0), none⟩,
  ⟨none, .faddr 1 (.v 3), none⟩,
  ⟨none, .load none (.l 0), none⟩,
  ⟨none, .call F.redo_writer_number [(.l 2), (.l 0), (.c (.int .i64 (8)))], none⟩])
 (.seq
 (.reg [⟨none, .bin .eql (.v 4) (.c (.int .i64 (1))), none⟩,
  ⟨(some 6), .mov (.l 0), none⟩])
 (.cond (.v 6)
 (.reg [⟨none, .mov (.v 0), none⟩,
  ⟨none, .faddr 2 (.v 3), none⟩,
  ⟨none, .load none (.l 0), none⟩,
  ⟨none, .call F.redo_writer_text [(.l 2), (.l 0)], none⟩])
 (.seq
 (.reg [⟨none, .bin .eql (.v 4) (.c (.int .i64 (2))), none⟩,
  ⟨(some 7), .mov (.l 0), none⟩])
 (.cond (.v 7)
 (.reg [⟨none, .mov (.v 0), none⟩,
  ⟨none, .faddr 3 (.v 3), none⟩,
  ⟨none, .load none (.l 0), none⟩,
  ⟨none, .call F.redo_writer_text [(.l 2), (.l 0)], none⟩])
 (.seq
 (.reg [⟨none, .bin .eql (.v 4) (.c (.int .i64 (3))), none⟩,
  ⟨(some 8), .mov (.l 0), none⟩])
 (.cond (.v 8)
 (.reg [⟨none, .mov (.v 0), none⟩,
  ⟨none, .faddr 4 (.v 3), none⟩,
  ⟨none, .load none (.l 0), none⟩,
  ⟨none, .call F.redo_writer_number [(.l 2), (.l 0), (.c (.int .i64 (8)))], none⟩])
 (.seq
 (.reg [⟨none, .bin .eql (.v 4) (.c (.int .i64 (4))), none⟩,
  ⟨(some 9), .mov (.l 0), none⟩])
 (.cond (.v 9)
 (.reg [⟨none, .mov (.v 0), none⟩,
  ⟨none, .faddr 5 (.v 3), none⟩,
  ⟨none, .load none (.l 0), none⟩,
  ⟨none, .call F.redo_writer_row [(.l 2), (.l 0)], none⟩])
 (.seq
 (.reg [⟨none, .bin .eql (.v 4) (.c (.int .i64 (5))), none⟩,
  ⟨(some 10), .mov (.l 0), none⟩])
 (.cond (.v 10)
 (.reg [⟨none, .mov (.v 0), none⟩,
  ⟨none, .faddr 6 (.v 3), none⟩,
  ⟨none, .load none (.l 0), none⟩,
  ⟨none, .call F.redo_writer_number [(.l 2), (.l 0), (.c (.int .i64 (8)))], none⟩])
 (.seq
 (.reg [⟨none, .bin .eql (.v 4) (.c (.int .i64 (6))), none⟩,
  ⟨(some 11), .mov (.l 0), none⟩])
 (.cond (.v 11)
 (.reg [⟨none, .mov (.v 0), none⟩,
  ⟨none, .faddr 7 (.v 3), none⟩,
  ⟨none, .load none (.l 0), none⟩,
  ⟨none, .call F.redo_writer_text [(.l 2), (.l 0)], none⟩])
 (.seq
 (.reg [⟨none, .bin .eql (.v 4) (.c (.int .i64 (7))), none⟩,
  ⟨(some 12), .mov (.l 0), none⟩])
 (.cond (.v 12)
 (.reg [⟨none, .mov (.v 0), none⟩,
  ⟨none, .faddr 8 (.v 3), none⟩,
  ⟨none, .load none (.l 0), none⟩,
  ⟨none, .call F.redo_writer_number [(.l 2), (.l 0), (.c (.int .i64 (8)))], none⟩])
 (.skip))))))))))))))))))),
 []⟩
theorem vfun_redo_writer_field : funOf Go.Proofs.Tryz.prog ann F.redo_writer_field = some vf_redo_writer_field := by kernel_rfl
theorem call_redo_writer_field (args : List V) (m : Mem) (hl : args.length = 3) : callL MM F.redo_writer_field args m = (ex (callL MM) m.length vf_redo_writer_field.body (enter vf_redo_writer_field args) m).bind (leave m.length vf_redo_writer_field.res) := call_fn vfun_redo_writer_field rfl args m hl
def l_redo_Sum_0 : VC := .seq
 (.reg [⟨(some 8), .bin .lss (.v 7) (.v 6), none⟩])
 (.seq
 (.cond (.v 8)
 (.skip)
 (.exit 0))
 (.seq
 (.block 1 (.seq
 (.reg [⟨none, .mov (.v 7), none⟩,
  ⟨none, .iaddr 1 (.v 5) (.v 7), none⟩,
  ⟨none, .load none (.l 0), none⟩,
  ⟨(some 3), .mov (.l 2), none⟩,
  ⟨(some 4), .mov (.l 1), none⟩])
 (.reg [⟨none, .mov (.v 2), none⟩,
  ⟨none, .mov (.v 3), none⟩,
  ⟨none, .bin .add (.l 0) (.c (.int .i64 (1))), none⟩,
  ⟨none, .conv .u32 (.l 0), none⟩,
  ⟨none, .mov (.v 4), none⟩,
  ⟨none, .conv .u32 (.l 0), none⟩,
  ⟨none, .bin .mul (.l 2) (.l 0), none⟩,
  ⟨none, .bin .add (.l 6) (.l 0), none⟩,
  ⟨(some 2), .mov (.l 0), none⟩])))
 (.reg [⟨none, .bin .add (.v 7) (.c (.int .i64 (1))), none⟩,
  ⟨(some 7), .mov (.l 0), none⟩])))
def vf_redo_Sum : VFun := ⟨[0, 2, 3, 4, 5, 6, 7, 8, 9], 1,
 .seq
 (.reg [⟨(some 1), .mov (.c (.int .i64 (0))), none⟩])
 (.seq
 (.reg [⟨(some 2), .mov (.c (.int .u32 (0))), none⟩])
 (.seq
 (.seq
 (.reg [⟨(some 5), .mov (.v 0), none⟩,
  ⟨(some 6), .len false (.v 5), none⟩,
  ⟨(some 7), .mov (.c (.int .i64 (0))), none⟩])
 (.block 0 (.loop [0, 1, 3, 4, 8] l_redo_Sum_0)))
 (.seq
 (.reg [⟨none, .mov (.v 2), none⟩,
  ⟨none, .conv .i64 (.l 0), none⟩,
  ⟨(some 1), .mov (.l 0), none⟩])
 (.ret)))),
 [.v 1]⟩
theorem vfun_redo_Sum : funOf Go.Proofs.Tryz.prog ann F.redo_Sum = some vf_redo_Sum := by kernel_rfl
theorem call_redo_Sum (args : List V) (m : Mem) (hl : args.length = 1) : callL MM F.redo_Sum args m = (ex (callL MM) m.length vf_redo_Sum.body (enter vf_redo_Sum args) m).bind (leave m.length vf_redo_Sum.res) := call_fn vfun_redo_Sum rfl args m hl
def l_ref20_Bytes_0 : VC := .seq
 (.reg [⟨(some 11), .bin .lss (.v 10) (.v 9), none⟩])
 (.seq
 (.cond (.v 11)
 (.skip)
 (.exit 0))
 (.seq
 (.block 1 (.seq
 (.reg [⟨none, .mov (.v 10), none⟩,
  ⟨(some 5), .mov (.l 0), none⟩])
 (.seq
 (.reg [⟨none, .mov (.v 4), none⟩,
  ⟨none, .mov (.v 5), none⟩,
  ⟨(some 12), .idxs (.l 1) (.l 0), none⟩])
 (.block 2 (.seq
 (.reg [⟨none, .bin .eql (.v 12) (.c (.int .u8 (84))), none⟩,
  ⟨(some 13), .mov (.l 0), none⟩])
 (.cond (.v 13)
 (.reg [⟨none, .mov (.v 3), none⟩,
  ⟨none, .faddr 1 (.v 1), none⟩,
  ⟨none, .load none (.l 0), none⟩,
  ⟨none, .callg 1 F.ref20_Number [(.l 2), (.l 0), (.c (.int .i64 (8)))], none⟩,
  ⟨(some 3), .mov (.l 0), none⟩])
 (.seq
 (.reg [⟨none, .bin .eql (.v 12) (.c (.int .u8 (79))), none⟩,
  ⟨(some 14), .mov (.l 0), none⟩])
 (.cond (.v 14)
 (.reg [⟨none, .mov (.v 3), none⟩,
  ⟨none, .faddr 2 (.v 1), none⟩,
  ⟨none, .load none (.l 0), none⟩,
  ⟨none, .callg 1 F.ref20_String [(.l 2), (.l 0)], none⟩,
  ⟨(some 3), .mov (.l 0), none⟩])
 (.seq
 (.reg [⟨none, .bin .eql (.v 12) (.c (.int .u8 (78))), none⟩,
  ⟨(some 15), .mov (.l 0), none⟩])
 (.cond (.v 15)
 (.reg [⟨none, .mov (.v 3), none⟩,
  ⟨none, .faddr 3 (.v 1), none⟩,
  ⟨none, .load none (.l 0), none⟩,
  ⟨none, .callg 1 F.ref20_String [(.l 2), (.l 0)], none⟩,
  ⟨(some 3), .mov (.l 0), none⟩])
 (.seq
 (.reg [⟨none, .bin .eql (.v 12) (.c (.int .u8 (73))), none⟩,
  ⟨(some 16), .mov (.l 0), none⟩])
 (.cond (.v 16)
 (.reg [⟨none, .mov (.v 3), none⟩,
  ⟨none, .faddr 4 (.v 1), none⟩,
  ⟨none, .load none (.l 0), none⟩,
  ⟨none, .callg 1 F.ref20_Number [(.l 2), (.l 0), (.c (.int .i64 (8)))], none⟩,
  ⟨(some 3), .mov (.l 0), none⟩])
 (.seq
 (.reg [⟨none, .bin .eql (.v 12) (.c (.int .u8 (82))), none⟩,
  ⟨(some 17), .mov (.l 0), none⟩])
 (.cond (.v 17)
 (.reg [⟨none, .mov (.v 3), none⟩,
  ⟨none, .faddr 5 (.v 1), none⟩,
  ⟨none, .load none (.l 0), none⟩,
  ⟨none, .callg 1 F.ref20_Row [(.l 2), (.l 0)], none⟩,
  ⟨(some 3), .mov (.l 0), none⟩])
 (.seq
 (.seq
 (.reg [⟨none, .bin .eql (.v 12) (.c (.int .u8 (66))), none⟩,
  ⟨(some 18), .mov (.l 0), none⟩])
 (.cond (.v 18)
 (.skip)
 (.reg [⟨none, .bin .eql (.v 12) (.c (.int .u8 (77))), none⟩,
  ⟨(some 18), .mov (.l 0), none⟩])))
 (.cond (.v 18)
 (.reg [⟨none, .mov (.v 3), none⟩,
  ⟨none, .faddr 8 (.v 1), none⟩,
  ⟨none, .load none (.l 0), none⟩,
  ⟨none, .callg 1 F.ref20_Number [(.l 2), (.l 0), (.c (.int .i64 (8)))], none⟩,
  ⟨(some 3), .mov (.l 0), none⟩])
 (.seq
 (.reg [⟨none, .bin .eql (.v 12) (.c (.int .u8 (67))), none⟩,
  ⟨(some 19), .mov (.l 0), none⟩])
 (.cond (.v 19)
 (.reg [⟨none, .mov (.v 3), none⟩,
  ⟨none, .faddr 6 (.v 1), none⟩,
  ⟨none, .load none (.l 0), none⟩,
  ⟨none, .callg 1 F.ref20_Number [(.l 2), (.l 0), (.c (.int .i64 (8)))], none⟩,
  ⟨(some 3), .mov (.l 0), none⟩])
 (.reg [⟨none, .mov (.v 3), none⟩,
  ⟨none, .faddr 7 (.v 1), none⟩,
  ⟨none, .load none (.l 0), none⟩,
  ⟨none, .callg 1 F.ref20_String [(.l 2), (.l 0)], none⟩,
  ⟨(some 3), .mov (.l 0), none⟩])))))))))))))))))))
 (.reg [⟨none, .bin .add (.v 10) (.c (.int .i64 (1))), none⟩,
  ⟨(some 10), .mov (.l 0), none⟩])))
def l_ref20_Bytes_1 : VC := .seq
 (.reg [⟨(some 23), .bin .lss (.v 22) (.v 21), none⟩])
 (.seq
 (.cond (.v 23)
 (.skip)
 (.exit 3))
 (.seq
 (.block 4 (.seq
 (.reg [⟨none, .mov (.v 22), none⟩,
  ⟨none, .iaddr 1 (.v 20) (.v 22), none⟩,
  ⟨none, .load none (.l 0), none⟩,
  ⟨(some 7), .mov (.l 2), none⟩,
  ⟨(some 8), .mov (.l 1), none⟩])
 (.reg [⟨none, .mov (.v 6), none⟩,
  ⟨none, .mov (.v 7), none⟩,
  ⟨none, .bin .add (.l 0) (.c (.int .i64 (1))), none⟩,
  ⟨none, .mov (.v 8), none⟩,
  ⟨none, .conv .i64 (.l 0), none⟩,
  ⟨none, .bin .mul (.l 2) (.l 0), none⟩,
  ⟨none, .bin .add (.l 5) (.l 0), none⟩,
  ⟨none, .bin .rem (.l 0) (.c (.int .i64 (4294967296))), none⟩,
  ⟨(some 6), .mov (.l 0), none⟩])))
 (.reg [⟨none, .bin .add (.v 22) (.c (.int .i64 (1))), none⟩,
  ⟨(some 22), .mov (.l 0), none⟩])))
def vf_ref20_Bytes : VFun := ⟨[0, 1, 2, 3, 4, 6, 7, 8, 9, 21, 22, 23, 27, 32, 38, 44, 50, 56, 62, 69, 82, 83, 84, 85], 1,
 .seq
 (.reg [⟨(some 1), .box (.v 0) [], none⟩,
  ⟨(some 2), .mov (.c (.sl true 0 [])), none⟩])
 (.seq
 (.reg [⟨none, .faddr 0 (.v 1), none⟩,
  ⟨none, .load none (.l 0), none⟩,
  ⟨none, .conv .u8 (.l 0), none⟩,
  ⟨none, .mkbuf 1 [(.l 0)], none⟩,
  ⟨(some 3), .mov (.l 0), none⟩])
 (.seq
 (.reg [⟨none, .faddr 0 (.v 1), none⟩,
  ⟨none, .load none (.l 0), none⟩,
  ⟨none, .call F.ref20_Fields [(.l 0)], none⟩,
  ⟨none, .mov (.l 0), none⟩,
  ⟨none, .ext (.l 0) 0, none⟩,
  ⟨none, .ext (.l 1) 1, none⟩,
  ⟨(some 4), .mov (.l 1), none⟩,
  ⟨none, .mov (.l 1), none⟩])
 (.seq
 (.seq
 (.reg [⟨none, .mov (.v 4), none⟩,
  ⟨(some 9), .len true (.l 0), none⟩,
  ⟨(some 10), .mov (.c (.int .i64 (0))), none⟩])
 (.block 0 (.loop [0, 2, 5, 6, 7, 8, 11, 12, 13, 14, 15, 16, 17, 18, 19, 20, 21, 22, 23] l_ref20_Bytes_0)))
 (.seq
 (.reg [⟨none, .mov (.v 3), none⟩,
  ⟨none, .len false (.l 0), none⟩,
  ⟨none, .bin .add (.l 0) (.c (.int .i64 (4))), none⟩,
  ⟨none, .callg 1 F.ref20_Number [(.c (.sl true 0 [])), (.l 0), (.c (.int .i64 (2)))], none⟩,
  ⟨none, .mov (.v 3), none⟩,
  ⟨none, .app 1 1 (.l 1) (.l 0), none⟩,
  ⟨(some 3), .mov (.l 0), none⟩])
 (.seq
 (.reg [⟨(some 6), .mov (.c (.int .i64 (0))), none⟩])
 (.seq
 (.seq
 (.reg [⟨(some 20), .mov (.v 3), none⟩,
  ⟨(some 21), .len false (.v 20), none⟩,
  ⟨(some 22), .mov (.c (.int .i64 (0))), none⟩])
 (.block 3 (.loop [0, 1, 2, 4, 5, 7, 8, 9, 10, 11, 12, 13, 14, 15, 16, 17, 18, 19, 23] l_ref20_Bytes_1)))
 (.seq
 (.reg [⟨none, .mov (.v 3), none⟩,
  ⟨none, .mov (.v 6), none⟩,
  ⟨none, .callg 1 F.ref20_Number [(.l 1), (.l 0), (.c (.int .i64 (4)))], none⟩,
  ⟨(some 2), .mov (.l 0), none⟩])
 (.ret)))))))),
 [.v 2]⟩
theorem vfun_ref20_Bytes : funOf Go.Proofs.Tryz.prog ann F.ref20_Bytes = some vf_ref20_Bytes := by kernel_rfl
theorem call_ref20_Bytes (args : List V) (m : Mem) (hl : args.length = 1) : callL MM F.ref20_Bytes args m = (ex (callL MM) m.length vf_ref20_Bytes.body (enter vf_ref20_Bytes args) m).bind (leave m.length vf_ref20_Bytes.res) := call_fn vfun_ref20_Bytes rfl args m hl
def l_redo_clear_0 : VC := .seq
 (.reg [⟨(some 9), .bin .lss (.v 8) (.v 7), none⟩])
 (.seq
 (.cond (.v 9)
 (.skip)
 (.exit 0))
 (.seq
 (.block 1 (.seq
 (.reg [⟨none, .iaddr 1 (.v 6) (.v 8), none⟩,
  ⟨none, .load none (.l 0), none⟩,
  ⟨(some 5), .mov (.l 0), none⟩])
 (.seq
 (.reg [⟨(some 10), .mov (.v 5), none⟩])
 (.block 2 (.seq
 (.reg [⟨none, .bin .eql (.v 10) (.c (.int .i64 (0))), none⟩,
  ⟨(some 11), .mov (.l 0), none⟩])
 (.cond (.v 11)
 (.reg [⟨none, .faddr 1 (.v 2), none⟩,
  ⟨none, .load none (.l 0), none⟩,
  ⟨none, .faddr 1 (.v 4), none⟩,
  ⟨none, .store 1 (.l 0) (.l 1), none⟩])
 (.seq
 (.reg [⟨none, .bin .eql (.v 10) (.c (.int .i64 (1))), none⟩,
  ⟨(some 12), .mov (.l 0), none⟩])
 (.cond (.v 12)
 (.reg [⟨none, .faddr 2 (.v 2), none⟩,
  ⟨none, .load none (.l 0), none⟩,
  ⟨none, .faddr 2 (.v 4), none⟩,
  ⟨none, .store 1 (.l 0) (.l 1), none⟩])
 (.seq
 (.reg [⟨none, .bin .eql (.v 10) (.c (.int .i64 (2))), none⟩,
  ⟨(some 13), .mov (.l 0), none⟩])
 (.cond (.v 13)
 (.reg [⟨none, .faddr 3 (.v 2), none⟩,
  ⟨none, .load none (.l 0), none⟩,
  ⟨none, .faddr 3 (.v 4), none⟩,
  ⟨none, .store 1 (.l 0) (.l 1), none⟩])
 (.seq
 (.reg [⟨none, .bin .eql (.v 10) (.c (.int .i64 (3))), none⟩,
  ⟨(some 14), .mov (.l 0), none⟩])
 (.cond (.v 14)
 (.reg [⟨none, .faddr 4 (.v 2), none⟩,
  ⟨none, .load none (.l 0), none⟩,
  ⟨none, .faddr 4 (.v 4), none⟩,
  ⟨none, .store 1 (.l 0) (.l 1), none⟩])
 (.seq
 (.reg [⟨none, .bin .eql (.v 10) (.c (.int .i64 (4))), none⟩,
  ⟨(some 15), .mov (.l 0), none⟩])
 (.cond (.v 15)
 (.reg [⟨none, .faddr 5 (.v 2), none⟩,
  ⟨none, .load none (.l 0), none⟩,
  ⟨none, .faddr 5 (.v 4), none⟩,
  ⟨none, .store 1 (.l 0) (.l 1), none⟩])
 (.seq
 (.reg [⟨none, .bin .eql (.v 10) (.c (.int .i64 (5))), none⟩,
  ⟨(some 16), .mov (.l 0), none⟩])
 (.cond (.v 16)
 (.reg [⟨none, .faddr 6 (.v 2), none⟩,
  ⟨none, .load none (.l 0), none⟩,
  ⟨none, .faddr 6 (.v 4), none⟩,
  ⟨none, .store 1 (.l 0) (.l 1), none⟩])
 (.seq
 (.reg [⟨none, .bin .eql (.v 10) (.c (.int .i64 (6))), none⟩,
  ⟨(some 17), .mov (.l 0), none⟩])
 (.cond (.v 17)
 (.reg [⟨none, .faddr 7 (.v 2), none⟩,
  ⟨none, .load none (.l 0), none⟩,
  ⟨none, .faddr 7 (.v 4), none⟩,
  ⟨none, .store 1 (.l 0) (.l 1), none⟩])
 (.seq
 (.reg [⟨none, .bin .eql (.v 10) (.c (.int .i64 (7))), none⟩,
  ⟨(some 18), .mov (.l 0), none⟩])
 (.cond (.v 18)
 (.reg [⟨none, .faddr 8 (.v 2), none⟩,
  ⟨none, .load none (.l 0), none⟩,
  ⟨none, .faddr 8 (.v 4), none⟩,
  ⟨none, .store 1 (.l 0) (.l 1), none⟩])
 (.skip)))))))))))))))))))))
 (.reg [⟨none, .bin .add (.v 8) (.c (.int .i64 (1))), none⟩,
  ⟨(some 8), .mov (.l 0), none⟩])))
def vf_redo_clear : VFun := ⟨[0, 1, 2, 4, 5, 7, 11, 12, 13, 14, 17, 18, 23, 28, 33, 38, 43, 48, 53], 2,
 .seq
 (.reg [⟨(some 2), .box (.v 0) [], none⟩,
  ⟨(some 3), .alloc [.int .i64 (0), .int .i64 (0), .str [], .str [], .int .i64 (0), .sl true 0 [], .int .i64 (0), .str [], .int .i64 (0)] [], none⟩])
 (.seq
 (.reg [⟨none, .faddr 0 (.v 2), none⟩,
  ⟨none, .load none (.l 0), none⟩,
  ⟨none, .build [.int .i64 (0), .int .i64 (0), .str [], .str [], .int .i64 (0), .sl true 0 [], .int .i64 (0), .str [], .int .i64 (0)] [(0, 1, (.l 0))], none⟩,
  ⟨(some 4), .alloc [.int .i64 (0), .int .i64 (0), .str [], .str [], .int .i64 (0), .sl true 0 [], .int .i64 (0), .str [], .int .i64 (0)] [], none⟩,
  ⟨none, .store 9 (.v 4) (.l 1), none⟩])
 (.seq
 (.seq
 (.reg [⟨(some 6), .mov (.v 1), none⟩,
  ⟨(some 7), .len false (.v 6), none⟩,
  ⟨(some 8), .mov (.c (.int .i64 (0))), none⟩])
 (.block 0 (.loop [0, 1, 5, 9, 10, 11, 12, 13, 14, 15, 16, 17, 18] l_redo_clear_0)))
 (.seq
 (.reg [⟨none, .load (some 9) (.v 4), none⟩,
  ⟨none, .store 9 (.v 3) (.l 0), none⟩])
 (.ret)))),
 [.cell 3 (some 9)]⟩
theorem vfun_redo_clear : funOf Go.Proofs.Tryz.prog ann F.redo_clear = some vf_redo_clear := by kernel_rfl
theorem call_redo_clear (args : List V) (m : Mem) (hl : args.length = 2) : callL MM F.redo_clear args m = (ex (callL MM) m.length vf_redo_clear.body (enter vf_redo_clear args) m).bind (leave m.length vf_redo_clear.res) := call_fn vfun_redo_clear rfl args m hl
def vf_slices_ContainsFunc_redo_field_redo_field : VFun := ⟨[0, 1, 4], 2,
 .seq
 (.reg [⟨(some 2), .mov (.c (.bool false)), none⟩])
 (.seq
 (.reg [⟨none, .mov (.v 0), none⟩,
  ⟨none, .mov (.v 1), none⟩,
  ⟨none, .call F.slices_IndexFunc_redo_field_redo_field [(.l 1), (.l 0)], none⟩,
  ⟨none, .bin .geq (.l 0) (.c (.int .i64 (0))), none⟩,
  ⟨(some 2), .mov (.l 0), none⟩])
 (.ret)),
 [.v 2]⟩
theorem vfun_slices_ContainsFunc_redo_field_redo_field : funOf Go.Proofs.Tryz.prog ann F.slices_ContainsFunc_redo_field_redo_field = some vf_slices_ContainsFunc_redo_field_redo_field := by kernel_rfl
theorem call_slices_ContainsFunc_redo_field_redo_field (args : List V) (m : Mem) (hl : args.length = 2) : callL MM F.slices_ContainsFunc_redo_field_redo_field args m = (ex (callL MM) m.length vf_slices_ContainsFunc_redo_field_redo_field.body (enter vf_slices_ContainsFunc_redo_field_redo_field args) m).bind (leave m.length vf_slices_ContainsFunc_redo_field_redo_field.res) := call_fn vfun_slices_ContainsFunc_redo_field_redo_field rfl args m hl
def vf_redo_Valid_1 : VFun := ⟨[0, 1, 3], 2,
 .seq
 (.reg [⟨(some 2), .mov (.c (.bool false)), none⟩])
 (.seq
 (.reg [⟨none, .load (some 9) (.v 1), none⟩,
  ⟨none, .mov (.v 0), none⟩,
  ⟨none, .call F.redo_isField [(.l 1), (.l 0)], none⟩,
  ⟨none, .not (.l 0), none⟩,
  ⟨(some 2), .mov (.l 0), none⟩])
 (.ret)),
 [.v 2]⟩
theorem vfun_redo_Valid_1 : funOf Go.Proofs.Tryz.prog ann F.redo_Valid_1 = some vf_redo_Valid_1 := by kernel_rfl
theorem call_redo_Valid_1 (args : List V) (m : Mem) (hl : args.length = 2) : callL MM F.redo_Valid_1 args m = (ex (callL MM) m.length vf_redo_Valid_1.body (enter vf_redo_Valid_1 args) m).bind (leave m.length vf_redo_Valid_1.res) := call_fn vfun_redo_Valid_1 rfl args m hl
def vf_redo_isField : VFun := ⟨[0, 1, 2, 4, 5, 6, 7, 12, 17, 22, 27, 32, 42, 65], 2,
 .seq
 (.reg [⟨(some 2), .box (.v 0) [], none⟩,
  ⟨(some 3), .mov (.c (.bool false)), none⟩])
 (.seq
 (.seq
 (.reg [⟨(some 5), .mov (.v 1), none⟩])
 (.block 0 (.seq
 (.reg [⟨none, .bin .eql (.v 5) (.c (.int .i64 (0))), none⟩,
  ⟨(some 6), .mov (.l 0), none⟩])
 (.cond (.v 6)
 (.seq
 (.reg [⟨none, .faddr 1 (.v 2), none⟩,
  ⟨none, .load none (.l 0), none⟩,
  ⟨none, .call F.valid_IsNumber [(.l 0)], none⟩,
  ⟨(some 3), .mov (.l 0), none⟩])
 (.ret))
 (.seq
 (.reg [⟨none, .bin .eql (.v 5) (.c (.int .i64 (1))), none⟩,
  ⟨(some 7), .mov (.l 0), none⟩])
 (.cond (.v 7)
 (.seq
 (.reg [⟨none, .faddr 2 (.v 2), none⟩,
  ⟨none, .load none (.l 0), none⟩,
  ⟨none, .call F.valid_IsName [(.l 0)], none⟩,
  ⟨(some 3), .mov (.l 0), none⟩])
 (.ret))
 (.seq
 (.reg [⟨none, .bin .eql (.v 5) (.c (.int .i64 (2))), none⟩,
  ⟨(some 8), .mov (.l 0), none⟩])
 (.cond (.v 8)
 (.seq
 (.reg [⟨none, .faddr 3 (.v 2), none⟩,
  ⟨none, .load none (.l 0), none⟩,
  ⟨none, .call F.valid_IsName [(.l 0)], none⟩,
  ⟨(some 3), .mov (.l 0), none⟩])
 (.ret))
 (.seq
 (.reg [⟨none, .bin .eql (.v 5) (.c (.int .i64 (3))), none⟩,
  ⟨(some 9), .mov (.l 0), none⟩])
 (.cond (.v 9)
 (.seq
 (.reg [⟨none, .faddr 4 (.v 2), none⟩,
  ⟨none, .load none (.l 0), none⟩,
  ⟨none, .call F.valid_IsNumber [(.l 0)], none⟩,
  ⟨(some 3), .mov (.l 0), none⟩])
 (.ret))
 (.seq
 (.reg [⟨none, .bin .eql (.v 5) (.c (.int .i64 (4))), none⟩,
  ⟨(some 10), .mov (.l 0), none⟩])
 (.cond (.v 10)
 (.seq
 (.reg [⟨none, .faddr 5 (.v 2), none⟩,
  ⟨none, .load none (.l 0), none⟩,
  ⟨none, .call F.value_IsRow [(.l 0)], none⟩,
  ⟨(some 3), .mov (.l 0), none⟩])
 (.ret))
 (.seq
 (.reg [⟨none, .bin .eql (.v 5) (.c (.int .i64 (5))), none⟩,
  ⟨(some 11), .mov (.l 0), none⟩])
 (.cond (.v 11)
 (.seq
 (.reg [⟨none, .faddr 6 (.v 2), none⟩,
  ⟨none, .load none (.l 0), none⟩,
  ⟨none, .bin .geq (.l 0) (.c (.int .i64 (0))), none⟩,
  ⟨none, .mov (.l 0), none⟩,
  ⟨none, .faddr 6 (.v 2), (some (0, true))⟩,
  ⟨none, .load none (.l 0), (some (1, true))⟩,
  ⟨none, .bin .leq (.l 0) (.c (.int .i64 (1099511627776))), (some (2, true))⟩,
  ⟨none, .pick (.l 3) (.l 0) (.c (.bool false)), none⟩,
  ⟨(some 3), .mov (.l 0), none⟩])
 (.ret))
 (.seq
 (.reg [⟨none, .bin .eql (.v 5) (.c (.int .i64 (6))), none⟩,
  ⟨(some 12), .mov (.l 0), none⟩])
 (.cond (.v 12)
 (.seq
 (.reg [⟨none, .faddr 0 (.v 2), none⟩,
  ⟨none, .load none (.l 0), none⟩,
  ⟨none, .bin .eql (.l 0) (.c (.int .i64 (7))), none⟩,
  ⟨none, .mov (.l 0), none⟩,
  ⟨none, .faddr 7 (.v 2), (some (0, true))⟩,
  ⟨none, .load none (.l 0), (some (1, true))⟩,
  ⟨none, .call F.redo_isJoint [(.l 0)], (some (2, true))⟩,
  ⟨none, .pick (.l 3) (.l 0) (.c (.bool false)), none⟩,
  ⟨none, .mov (.l 0), none⟩,
  ⟨none, .faddr 0 (.v 2), (some (0, false))⟩,
  ⟨none, .load none (.l 0), (some (1, false))⟩,
  ⟨none, .bin .eql (.l 0) (.c (.int .i64 (8))), (some (2, false))⟩,
  ⟨none, .mov (.l 0), (some (3, false))⟩,
  ⟨none, .faddr 7 (.v 2), (some (0, true))⟩,
  ⟨none, .load none (.l 0), (some (1, true))⟩,
  ⟨none, .len true (.l 0), (some (2, true))⟩,
  ⟨none, .bin .leq (.l 0) (.c (.int .i64 (20000))), (some (3, true))⟩,
  ⟨none, .pick (.l 4) (.l 0) (.c (.bool false)), (some (8, false))⟩,
  ⟨none, .pick (.l 9) (.c (.bool true)) (.l 0), none⟩,
  ⟨(some 3), .mov (.l 0), none⟩])
 (.ret))
 (.skip)))))))))))))))))
 (.seq
 (.reg [⟨(some 4), .mov (.c (.int .i64 (-1099511627776))), none⟩])
 (.seq
 (.seq
 (.reg [⟨none, .faddr 0 (.v 2), none⟩,
  ⟨none, .load none (.l 0), none⟩,
  ⟨(some 13), .bin .eql (.l 0) (.c (.int .i64 (4))), none⟩])
 (.cond (.v 13)
 (.reg [⟨(some 4), .mov (.c (.int .i64 (0))), none⟩])
 (.skip)))
 (.seq
 (.reg [⟨none, .faddr 8 (.v 2), none⟩,
  ⟨none, .load none (.l 0), none⟩,
  ⟨none, .mov (.v 4), none⟩,
  ⟨none, .bin .geq (.l 1) (.l 0), none⟩,
  ⟨none, .mov (.l 0), none⟩,
  ⟨none, .faddr 8 (.v 2), (some (0, true))⟩,
  ⟨none, .load none (.l 0), (some (1, true))⟩,
  ⟨none, .bin .leq (.l 0) (.c (.int .i64 (1099511627776))), (some (2, true))⟩,
  ⟨none, .pick (.l 3) (.l 0) (.c (.bool false)), none⟩,
  ⟨(some 3), .mov (.l 0), none⟩])
 (.ret))))),
 [.v 3]⟩
theorem vfun_redo_isField : funOf Go.Proofs.Tryz.prog ann F.redo_isField = some vf_redo_isField := by kernel_rfl
theorem call_redo_isField (args : List V) (m : Mem) (hl : args.length = 2) : callL MM F.redo_isField args m = (ex (callL MM) m.length vf_redo_isField.body (enter vf_redo_isField args) m).bind (leave m.length vf_redo_isField.res) := call_fn vfun_redo_isField rfl args m hl
def vf_ref20_Fields : VFun := ⟨[0, 2, 3, 4, 5, 8, 10, 12, 14, 16, 18, 20, 22, 24], 1,
 .seq
 (.reg [⟨(some 1), .mov (.c (.str [])), none⟩,
  ⟨(some 2), .mov (.c (.bool false)), none⟩])
 (.seq
 (.seq
 (.reg [⟨(some 3), .mov (.v 0), none⟩])
 (.block 0 (.seq
 (.seq
 (.reg [⟨none, .bin .eql (.v 3) (.c (.int .i64 (1))), none⟩,
  ⟨(some 4), .mov (.l 0), none⟩])
 (.cond (.v 4)
 (.skip)
 (.reg [⟨none, .bin .eql (.v 3) (.c (.int .i64 (2))), none⟩,
  ⟨(some 4), .mov (.l 0), none⟩])))
 (.cond (.v 4)
 (.seq
 (.reg [⟨(some 1), .mov (.c (.str [84, 79, 78, 73, 82])), none⟩,
  ⟨(some 2), .mov (.c (.bool true)), none⟩])
 (.ret))
 (.seq
 (.reg [⟨none, .bin .eql (.v 3) (.c (.int .i64 (3))), none⟩,
  ⟨(some 5), .mov (.l 0), none⟩])
 (.cond (.v 5)
 (.seq
 (.reg [⟨(some 1), .mov (.c (.str [84, 79, 78, 73])), none⟩,
  ⟨(some 2), .mov (.c (.bool true)), none⟩])
 (.ret))
 (.seq
 (.reg [⟨none, .bin .eql (.v 3) (.c (.int .i64 (4))), none⟩,
  ⟨(some 6), .mov (.l 0), none⟩])
 (.cond (.v 6)
 (.seq
 (.reg [⟨(some 1), .mov (.c (.str [84, 66])), none⟩,
  ⟨(some 2), .mov (.c (.bool true)), none⟩])
 (.ret))
 (.seq
 (.reg [⟨none, .bin .eql (.v 3) (.c (.int .i64 (5))), none⟩,
  ⟨(some 7), .mov (.l 0), none⟩])
 (.cond (.v 7)
 (.seq
 (.reg [⟨(some 1), .mov (.c (.str [84, 67])), none⟩,
  ⟨(some 2), .mov (.c (.bool true)), none⟩])
 (.ret))
 (.seq
 (.reg [⟨none, .bin .eql (.v 3) (.c (.int .i64 (6))), none⟩,
  ⟨(some 8), .mov (.l 0), none⟩])
 (.cond (.v 8)
 (.seq
 (.reg [⟨(some 1), .mov (.c (.str [84])), none⟩,
  ⟨(some 2), .mov (.c (.bool true)), none⟩])
 (.ret))
 (.seq
 (.reg [⟨none, .bin .eql (.v 3) (.c (.int .i64 (7))), none⟩,
  ⟨(some 9), .mov (.l 0), none⟩])
 (.cond (.v 9)
 (.seq
 (.reg [⟨(some 1), .mov (.c (.str [84, 80])), none⟩,
  ⟨(some 2), .mov (.c (.bool true)), none⟩])
 (.ret))
 (.seq
 (.reg [⟨none, .bin .eql (.v 3) (.c (.int .i64 (8))), none⟩,
  ⟨(some 10), .mov (.l 0), none⟩])
 (.cond (.v 10)
 (.seq
 (.reg [⟨(some 1), .mov (.c (.str [79, 68])), none⟩,
  ⟨(some 2), .mov (.c (.bool true)), none⟩])
 (.ret))
 (.seq
 (.reg [⟨none, .bin .eql (.v 3) (.c (.int .i64 (9))), none⟩,
  ⟨(some 11), .mov (.l 0), none⟩])
 (.cond (.v 11)
 (.seq
 (.reg [⟨(some 1), .mov (.c (.str [79, 78])), none⟩,
  ⟨(some 2), .mov (.c (.bool true)), none⟩])
 (.ret))
 (.seq
 (.reg [⟨none, .bin .eql (.v 3) (.c (.int .i64 (10))), none⟩,
  ⟨(some 12), .mov (.l 0), none⟩])
 (.cond (.v 12)
 (.seq
 (.reg [⟨(some 1), .mov (.c (.str [79, 78, 77])), none⟩,
  ⟨(some 2), .mov (.c (.bool true)), none⟩])
 (.ret))
 (.seq
 (.reg [⟨none, .bin .eql (.v 3) (.c (.int .i64 (11))), none⟩,
  ⟨(some 13), .mov (.l 0), none⟩])
 (.cond (.v 13)
 (.seq
 (.reg [⟨(some 1), .mov (.c (.str [])), none⟩,
  ⟨(some 2), .mov (.c (.bool true)), none⟩])
 (.ret))
 (.skip)))))))))))))))))))))))
 (.seq
 (.reg [⟨(some 1), .mov (.c (.str [])), none⟩,
  ⟨(some 2), .mov (.c (.bool false)), none⟩])
 (.ret))),
 [.v 1, .v 2]⟩
theorem vfun_ref20_Fields : funOf Go.Proofs.Tryz.prog ann F.ref20_Fields = some vf_ref20_Fields := by kernel_rfl
theorem call_ref20_Fields (args : List V) (m : Mem) (hl : args.length = 1) : callL MM F.ref20_Fields args m = (ex (callL MM) m.length vf_ref20_Fields.body (enter vf_ref20_Fields args) m).bind (leave m.length vf_ref20_Fields.res) := call_fn vfun_ref20_Fields rfl args m hl
def vf_ref20_field : VFun := ⟨[0, 1, 2, 4, 5, 6, 11, 16, 21, 26, 31, 36, 41, 46], 2,
 .seq
 (.reg [⟨(some 2), .box (.v 0) [], none⟩,
  ⟨(some 3), .mov (.c (.bool false)), none⟩])
 (.seq
 (.seq
 (.reg [⟨(some 4), .mov (.v 1), none⟩])
 (.block 0 (.seq
 (.reg [⟨none, .bin .eql (.v 4) (.c (.int .u8 (84))), none⟩,
  ⟨(some 5), .mov (.l 0), none⟩])
 (.cond (.v 5)
 (.seq
 (.reg [⟨none, .faddr 1 (.v 2), none⟩,
  ⟨none, .load none (.l 0), none⟩,
  ⟨none, .call F.ref20_between [(.l 0), (.c (.int .i64 (1)))], none⟩,
  ⟨(some 3), .mov (.l 0), none⟩])
 (.ret))
 (.seq
 (.reg [⟨none, .bin .eql (.v 4) (.c (.int .u8 (79))), none⟩,
  ⟨(some 6), .mov (.l 0), none⟩])
 (.cond (.v 6)
 (.seq
 (.reg [⟨none, .faddr 2 (.v 2), none⟩,
  ⟨none, .load none (.l 0), none⟩,
  ⟨none, .call F.ref02_IsName [(.l 0)], none⟩,
  ⟨(some 3), .mov (.l 0), none⟩])
 (.ret))
 (.seq
 (.reg [⟨none, .bin .eql (.v 4) (.c (.int .u8 (78))), none⟩,
  ⟨(some 7), .mov (.l 0), none⟩])
 (.cond (.v 7)
 (.seq
 (.reg [⟨none, .faddr 3 (.v 2), none⟩,
  ⟨none, .load none (.l 0), none⟩,
  ⟨none, .call F.ref02_IsName [(.l 0)], none⟩,
  ⟨(some 3), .mov (.l 0), none⟩])
 (.ret))
 (.seq
 (.reg [⟨none, .bin .eql (.v 4) (.c (.int .u8 (73))), none⟩,
  ⟨(some 8), .mov (.l 0), none⟩])
 (.cond (.v 8)
 (.seq
 (.reg [⟨none, .faddr 4 (.v 2), none⟩,
  ⟨none, .load none (.l 0), none⟩,
  ⟨none, .call F.ref20_between [(.l 0), (.c (.int .i64 (1)))], none⟩,
  ⟨(some 3), .mov (.l 0), none⟩])
 (.ret))
 (.seq
 (.reg [⟨none, .bin .eql (.v 4) (.c (.int .u8 (82))), none⟩,
  ⟨(some 9), .mov (.l 0), none⟩])
 (.cond (.v 9)
 (.seq
 (.reg [⟨none, .faddr 5 (.v 2), none⟩,
  ⟨none, .load none (.l 0), none⟩,
  ⟨none, .call F.ref01_IsRow [(.l 0)], none⟩,
  ⟨(some 3), .mov (.l 0), none⟩])
 (.ret))
 (.seq
 (.reg [⟨none, .bin .eql (.v 4) (.c (.int .u8 (66))), none⟩,
  ⟨(some 10), .mov (.l 0), none⟩])
 (.cond (.v 10)
 (.seq
 (.reg [⟨none, .faddr 8 (.v 2), none⟩,
  ⟨none, .load none (.l 0), none⟩,
  ⟨none, .call F.ref20_between [(.l 0), (.c (.int .i64 (0)))], none⟩,
  ⟨(some 3), .mov (.l 0), none⟩])
 (.ret))
 (.seq
 (.reg [⟨none, .bin .eql (.v 4) (.c (.int .u8 (77))), none⟩,
  ⟨(some 11), .mov (.l 0), none⟩])
 (.cond (.v 11)
 (.seq
 (.reg [⟨none, .faddr 8 (.v 2), none⟩,
  ⟨none, .load none (.l 0), none⟩,
  ⟨none, .call F.ref20_between [(.l 0), (.c (.int .i64 (-1099511627776)))], none⟩,
  ⟨(some 3), .mov (.l 0), none⟩])
 (.ret))
 (.seq
 (.reg [⟨none, .bin .eql (.v 4) (.c (.int .u8 (67))), none⟩,
  ⟨(some 12), .mov (.l 0), none⟩])
 (.cond (.v 12)
 (.seq
 (.reg [⟨none, .faddr 6 (.v 2), none⟩,
  ⟨none, .load none (.l 0), none⟩,
  ⟨none, .call F.ref20_between [(.l 0), (.c (.int .i64 (0)))], none⟩,
  ⟨(some 3), .mov (.l 0), none⟩])
 (.ret))
 (.seq
 (.reg [⟨none, .bin .eql (.v 4) (.c (.int .u8 (80))), none⟩,
  ⟨(some 13), .mov (.l 0), none⟩])
 (.cond (.v 13)
 (.seq
 (.reg [⟨none, .faddr 7 (.v 2), none⟩,
  ⟨none, .load none (.l 0), none⟩,
  ⟨none, .call F.ref20_Joint [(.l 0)], none⟩,
  ⟨(some 3), .mov (.l 0), none⟩])
 (.ret))
 (.skip)))))))))))))))))))))
 (.seq
 (.reg [⟨none, .faddr 7 (.v 2), none⟩,
  ⟨none, .load none (.l 0), none⟩,
  ⟨none, .len true (.l 0), none⟩,
  ⟨none, .bin .leq (.l 0) (.c (.int .i64 (20000))), none⟩,
  ⟨(some 3), .mov (.l 0), none⟩])
 (.ret))),
 [.v 3]⟩
theorem vfun_ref20_field : funOf Go.Proofs.Tryz.prog ann F.ref20_field = some vf_ref20_field := by kernel_rfl
theorem call_ref20_field (args : List V) (m : Mem) (hl : args.length = 2) : callL MM F.ref20_field args m = (ex (callL MM) m.length vf_ref20_field.body (enter vf_ref20_field args) m).bind (leave m.length vf_ref20_field.res) := call_fn vfun_ref20_field rfl args m hl
def vf_ref20_blank : VFun := ⟨[0, 1, 2, 4, 5, 7, 10, 13, 16, 19, 22, 26], 2,
 .seq
 (.reg [⟨(some 2), .box (.v 0) [], none⟩,
  ⟨(some 3), .alloc [.int .i64 (0), .int .i64 (0), .str [], .str [], .int .i64 (0), .sl true 0 [], .int .i64 (0), .str [], .int .i64 (0)] [], none⟩])
 (.seq
 (.seq
 (.reg [⟨(some 4), .mov (.v 1), none⟩])
 (.block 0 (.seq
 (.reg [⟨none, .bin .eql (.v 4) (.c (.int .u8 (84))), none⟩,
  ⟨(some 5), .mov (.l 0), none⟩])
 (.cond (.v 5)
 (.reg [⟨none, .faddr 1 (.v 2), none⟩,
  ⟨none, .store 1 (.l 0) (.c (.int .i64 (0))), none⟩])
 (.seq
 (.reg [⟨none, .bin .eql (.v 4) (.c (.int .u8 (79))), none⟩,
  ⟨(some 6), .mov (.l 0), none⟩])
 (.cond (.v 6)
 (.reg [⟨none, .faddr 2 (.v 2), none⟩,
  ⟨none, .store 1 (.l 0) (.c (.str [])), none⟩])
 (.seq
 (.reg [⟨none, .bin .eql (.v 4) (.c (.int .u8 (78))), none⟩,
  ⟨(some 7), .mov (.l 0), none⟩])
 (.cond (.v 7)
 (.reg [⟨none, .faddr 3 (.v 2), none⟩,
  ⟨none, .store 1 (.l 0) (.c (.str [])), none⟩])
 (.seq
 (.reg [⟨none, .bin .eql (.v 4) (.c (.int .u8 (73))), none⟩,
  ⟨(some 8), .mov (.l 0), none⟩])
 (.cond (.v 8)
 (.reg [⟨none, .faddr 4 (.v 2), none⟩,
  ⟨none, .store 1 (.l 0) (.c (.int .i64 (0))), none⟩])
 (.seq
 (.reg [⟨none, .bin .eql (.v 4) (.c (.int .u8 (82))), none⟩,
  ⟨(some 9), .mov (.l 0), none⟩])
 (.cond (.v 9)
 (.reg [⟨none, .faddr 5 (.v 2), none⟩,
  ⟨none, .store 1 (.l 0) (.c (.sl true 0 [])), none⟩])
 (.seq
 (.seq
 (.reg [⟨none, .bin .eql (.v 4) (.c (.int .u8 (66))), none⟩,
  ⟨(some 10), .mov (.l 0), none⟩])
 (.cond (.v 10)
 (.skip)
 (.reg [⟨none, .bin .eql (.v 4) (.c (.int .u8 (77))), none⟩,
  ⟨(some 10), .mov (.l 0), none⟩])))
 (.cond (.v 10)
 (.reg [⟨none, .faddr 8 (.v 2), none⟩,
  ⟨none, .store 1 (.l 0) (.c (.int .i64 (0))), none⟩])
 (.seq
 (.reg [⟨none, .bin .eql (.v 4) (.c (.int .u8 (67))), none⟩,
  ⟨(some 11), .mov (.l 0), none⟩])
 (.cond (.v 11)
 (.reg [⟨none, .faddr 6 (.v 2), none⟩,
  ⟨none, .store 1 (.l 0) (.c (.int .i64 (0))), none⟩])
 (.reg [⟨none, .faddr 7 (.v 2), none⟩,
  ⟨none, .store 1 (.l 0) (.c (.str [])), none⟩])))))))))))))))))
 (.seq
 (.reg [⟨none, .load (some 9) (.v 2), none⟩,
  ⟨none, .store 9 (.v 3) (.l 0), none⟩])
 (.ret))),
 [.cell 3 (some 9)]⟩
theorem vfun_ref20_blank : funOf Go.Proofs.Tryz.prog ann F.ref20_blank = some vf_ref20_blank := by kernel_rfl
theorem call_ref20_blank (args : List V) (m : Mem) (hl : args.length = 2) : callL MM F.ref20_blank args m = (ex (callL MM) m.length vf_ref20_blank.body (enter vf_ref20_blank args) m).bind (leave m.length vf_ref20_blank.res) := call_fn vfun_ref20_blank rfl args m hl
def vf_value_SameRow : VFun := ⟨[0, 1, 4], 2,
 .seq
 (.reg [⟨(some 2), .mov (.c (.bool false)), none⟩])
 (.seq
 (.reg [⟨none, .mov (.v 0), none⟩,
  ⟨none, .mov (.v 1), none⟩,
  ⟨none, .call F.slices_Equal_api_Row_api_Value [(.l 1), (.l 0)], none⟩,
  ⟨(some 2), .mov (.l 0), none⟩])
 (.ret)),
 [.v 2]⟩
theorem vfun_value_SameRow : funOf Go.Proofs.Tryz.prog ann F.value_SameRow = some vf_value_SameRow := by kernel_rfl
theorem call_value_SameRow (args : List V) (m : Mem) (hl : args.length = 2) : callL MM F.value_SameRow args m = (ex (callL MM) m.length vf_value_SameRow.body (enter vf_value_SameRow args) m).bind (leave m.length vf_value_SameRow.res) := call_fn vfun_value_SameRow rfl args m hl
def l_ref01_SameRow_0 : VC := .seq
 (.reg [⟨(some 7), .bin .lss (.v 6) (.v 5), none⟩])
 (.seq
 (.cond (.v 7)
 (.skip)
 (.exit 0))
 (.seq
 (.block 1 (.seq
 (.reg [⟨none, .mov (.v 6), none⟩,
  ⟨(some 3), .mov (.l 0), none⟩])
 (.seq
 (.draw [⟨none, .mov (.v 0), none⟩,
  ⟨none, .mov (.v 3), none⟩,
  ⟨none, .iaddr 3 (.l 1) (.l 0), none⟩,
  ⟨none, .load (some 3) (.l 0), none⟩,
  ⟨none, .mov (.v 1), none⟩,
  ⟨none, .mov (.v 3), none⟩,
  ⟨none, .iaddr 3 (.l 1) (.l 0), none⟩,
  ⟨none, .load (some 3) (.l 0), none⟩,
  ⟨(some 8), .eqs (.st [(0, none, .int), (1, none, .int), (2, none, .str)]) true (.l 4) (.l 0), none⟩] ⟨[], [0, 0, 3, 7, 0, 0, 48, 112, 255]⟩)
 (.cond (.v 8)
 (.seq
 (.reg [⟨(some 2), .mov (.c (.bool false)), none⟩])
 (.ret))
 (.skip)))))
 (.reg [⟨none, .bin .add (.v 6) (.c (.int .i64 (1))), none⟩,
  ⟨(some 6), .mov (.l 0), none⟩])))
def vf_ref01_SameRow : VFun := ⟨[0, 1, 4, 5, 10, 12, 13, 14, 24], 2,
 .seq
 (.reg [⟨(some 2), .mov (.c (.bool false)), none⟩])
 (.seq
 (.seq
 (.reg [⟨none, .mov (.v 0), none⟩,
  ⟨none, .len false (.l 0), none⟩,
  ⟨none, .mov (.v 1), none⟩,
  ⟨none, .len false (.l 0), none⟩,
  ⟨(some 4), .bin .neq (.l 2) (.l 0), none⟩])
 (.cond (.v 4)
 (.seq
 (.reg [⟨(some 2), .mov (.c (.bool false)), none⟩])
 (.ret))
 (.skip)))
 (.seq
 (.seq
 (.reg [⟨none, .mov (.v 0), none⟩,
  ⟨(some 5), .len false (.l 0), none⟩,
  ⟨(some 6), .mov (.c (.int .i64 (0))), none⟩])
 (.block 0 (.loop [2, 3, 4, 7, 8] l_ref01_SameRow_0)))
 (.seq
 (.reg [⟨(some 2), .mov (.c (.bool true)), none⟩])
 (.ret)))),
 [.v 2]⟩
theorem vfun_ref01_SameRow : funOf Go.Proofs.Tryz.prog ann F.ref01_SameRow = some vf_ref01_SameRow := by kernel_rfl
theorem call_ref01_SameRow (args : List V) (m : Mem) (hl : args.length = 2) : callL MM F.ref01_SameRow args m = (ex (callL MM) m.length vf_ref01_SameRow.body (enter vf_ref01_SameRow args) m).bind (leave m.length vf_ref01_SameRow.res) := call_fn vfun_ref01_SameRow rfl args m hl
def l_redo_shown_0 : VC := .seq
 (.reg [⟨(some 18), .bin .lss (.v 17) (.v 16), none⟩])
 (.seq
 (.cond (.v 18)
 (.skip)
 (.exit 1))
 (.seq
 (.block 2 (.seq
 (.reg [⟨none, .iaddr 3 (.v 15) (.v 17), none⟩,
  ⟨none, .load (some 3) (.l 0), none⟩,
  ⟨(some 5), .alloc [.int .i64 (0), .int .i64 (0), .str []] [], none⟩,
  ⟨none, .store 3 (.v 5) (.l 1), none⟩])
 (.seq
 (.reg [⟨none, .load (some 3) (.v 5), none⟩,
  ⟨none, .call F.value_Text [(.l 0)], none⟩,
  ⟨none, .mov (.l 0), none⟩,
  ⟨none, .ext (.l 0) 0, none⟩,
  ⟨none, .ext (.l 1) 1, none⟩,
  ⟨(some 6), .mov (.l 1), none⟩,
  ⟨none, .mov (.l 1), none⟩])
 (.reg [⟨none, .mov (.v 4), none⟩,
  ⟨none, .mov (.v 6), none⟩,
  ⟨none, .mksl 1 [(.l 0)], none⟩,
  ⟨none, .app 1 16 (.l 2) (.l 0), none⟩,
  ⟨(some 4), .mov (.l 0), none⟩]))))
 (.reg [⟨none, .bin .add (.v 17) (.c (.int .i64 (1))), none⟩,
  ⟨(some 17), .mov (.l 0), none⟩])))
def vf_redo_shown : VFun := ⟨[0, 1, 2, 4, 5, 7, 8, 10, 11, 16, 21, 26, 31, 36, 41, 47, 48, 49, 50], 2,
 .seq
 (.reg [⟨(some 2), .box (.v 0) [], none⟩,
  ⟨(some 3), .mov (.c (.str [])), none⟩])
 (.seq
 (.seq
 (.reg [⟨(some 7), .mov (.v 1), none⟩])
 (.block 0 (.seq
 (.reg [⟨none, .bin .eql (.v 7) (.c (.int .i64 (0))), none⟩,
  ⟨(some 8), .mov (.l 0), none⟩])
 (.cond (.v 8)
 (.seq
 (.reg [⟨none, .faddr 1 (.v 2), none⟩,
  ⟨none, .load none (.l 0), none⟩,
  ⟨none, .call F.strconv_Itoa [(.l 0)], none⟩,
  ⟨(some 3), .mov (.l 0), none⟩])
 (.ret))
 (.seq
 (.reg [⟨none, .bin .eql (.v 7) (.c (.int .i64 (1))), none⟩,
  ⟨(some 9), .mov (.l 0), none⟩])
 (.cond (.v 9)
 (.seq
 (.reg [⟨none, .faddr 2 (.v 2), none⟩,
  ⟨none, .load none (.l 0), none⟩,
  ⟨none, .call F.redo_quoted [(.l 0)], none⟩,
  ⟨(some 3), .mov (.l 0), none⟩])
 (.ret))
 (.seq
 (.reg [⟨none, .bin .eql (.v 7) (.c (.int .i64 (2))), none⟩,
  ⟨(some 10), .mov (.l 0), none⟩])
 (.cond (.v 10)
 (.seq
 (.reg [⟨none, .faddr 3 (.v 2), none⟩,
  ⟨none, .load none (.l 0), none⟩,
  ⟨none, .call F.redo_quoted [(.l 0)], none⟩,
  ⟨(some 3), .mov (.l 0), none⟩])
 (.ret))
 (.seq
 (.reg [⟨none, .bin .eql (.v 7) (.c (.int .i64 (3))), none⟩,
  ⟨(some 11), .mov (.l 0), none⟩])
 (.cond (.v 11)
 (.seq
 (.reg [⟨none, .faddr 4 (.v 2), none⟩,
  ⟨none, .load none (.l 0), none⟩,
  ⟨none, .call F.strconv_Itoa [(.l 0)], none⟩,
  ⟨(some 3), .mov (.l 0), none⟩])
 (.ret))
 (.seq
 (.reg [⟨none, .bin .eql (.v 7) (.c (.int .i64 (5))), none⟩,
  ⟨(some 12), .mov (.l 0), none⟩])
 (.cond (.v 12)
 (.seq
 (.reg [⟨none, .faddr 6 (.v 2), none⟩,
  ⟨none, .load none (.l 0), none⟩,
  ⟨none, .call F.strconv_Itoa [(.l 0)], none⟩,
  ⟨(some 3), .mov (.l 0), none⟩])
 (.ret))
 (.seq
 (.reg [⟨none, .bin .eql (.v 7) (.c (.int .i64 (6))), none⟩,
  ⟨(some 13), .mov (.l 0), none⟩])
 (.cond (.v 13)
 (.seq
 (.reg [⟨none, .faddr 7 (.v 2), none⟩,
  ⟨none, .load none (.l 0), none⟩,
  ⟨none, .call F.redo_quoted [(.l 0)], none⟩,
  ⟨(some 3), .mov (.l 0), none⟩])
 (.ret))
 (.seq
 (.reg [⟨none, .bin .eql (.v 7) (.c (.int .i64 (7))), none⟩,
  ⟨(some 14), .mov (.l 0), none⟩])
 (.cond (.v 14)
 (.seq
 (.reg [⟨none, .faddr 8 (.v 2), none⟩,
  ⟨none, .load none (.l 0), none⟩,
  ⟨none, .call F.strconv_Itoa [(.l 0)], none⟩,
  ⟨(some 3), .mov (.l 0), none⟩])
 (.ret))
 (.skip)))))))))))))))))
 (.seq
 (.reg [⟨(some 4), .nilbuf 1, none⟩])
 (.seq
 (.seq
 (.reg [⟨none, .faddr 5 (.v 2), none⟩,
  ⟨(some 15), .load none (.l 0), none⟩,
  ⟨(some 16), .len false (.v 15), none⟩,
  ⟨(some 17), .mov (.c (.int .i64 (0))), none⟩])
 (.block 1 (.loop [0, 1, 2, 3, 5, 6, 7, 8, 9, 10, 11, 12, 13, 14, 18] l_redo_shown_0)))
 (.seq
 (.reg [⟨none, .mov (.v 4), none⟩,
  ⟨none, .call F.strings_Join [(.l 0), (.c (.str [44]))], none⟩,
  ⟨none, .bin .add (.c (.str [40])) (.l 0), none⟩,
  ⟨none, .bin .add (.l 0) (.c (.str [41])), none⟩,
  ⟨(some 3), .mov (.l 0), none⟩])
 (.ret))))),
 [.v 3]⟩
theorem vfun_redo_shown : funOf Go.Proofs.Tryz.prog ann F.redo_shown = some vf_redo_shown := by kernel_rfl
theorem call_redo_shown (args : List V) (m : Mem) (hl : args.length = 2) : callL MM F.redo_shown args m = (ex (callL MM) m.length vf_redo_shown.body (enter vf_redo_shown args) m).bind (leave m.length vf_redo_shown.res) := call_fn vfun_redo_shown rfl args m hl
def vf_ref20_word : VFun := ⟨[0, 2], 1,
 .seq
 (.reg [⟨(some 1), .mov (.c (.str [])), none⟩])
 (.seq
 (.reg [⟨none, .mksl 1 [(.c (.str [])), (.c (.str [105, 110, 115, 101, 114, 116])), (.c (.str [117, 112, 100, 97, 116, 101])), (.c (.str [100, 101, 108, 101, 116, 101])), (.c (.str [98, 97, 99, 107])), (.c (.str [99, 111, 109, 109, 105, 116])), (.c (.str [97, 98, 111, 114, 116])), (.c (.str [112, 114, 101, 112, 97, 114, 101])), (.c (.str [100, 101, 102])), (.c (.str [100, 114, 111, 112])), (.c (.str [115, 101, 114, 105, 97, 108])), (.c (.str [115, 116, 97, 114, 116]))], none⟩,
  ⟨none, .mov (.v 0), none⟩,
  ⟨none, .iaddr 1 (.l 1) (.l 0), none⟩,
  ⟨none, .load none (.l 0), none⟩,
  ⟨(some 1), .mov (.l 0), none⟩])
 (.ret)),
 [.v 1]⟩
theorem vfun_ref20_word : funOf Go.Proofs.Tryz.prog ann F.ref20_word = some vf_ref20_word := by kernel_rfl
theorem call_ref20_word (args : List V) (m : Mem) (hl : args.length = 1) : callL MM F.ref20_word args m = (ex (callL MM) m.length vf_ref20_word.body (enter vf_ref20_word args) m).bind (leave m.length vf_ref20_word.res) := call_fn vfun_ref20_word rfl args m hl
def vf_ref20_Digits : VFun := ⟨[0, 2, 4, 14, 20], 1,
 .seq
 (.reg [⟨(some 1), .mov (.c (.str [])), none⟩])
 (.seq
 (.seq
 (.reg [⟨none, .mov (.v 0), none⟩,
  ⟨(some 2), .bin .leq (.l 0) (.c (.int .i64 (-10))), none⟩])
 (.cond (.v 2)
 (.seq
 (.reg [⟨none, .mov (.v 0), none⟩,
  ⟨none, .bin .quo (.l 0) (.c (.int .i64 (10))), none⟩,
  ⟨none, .call F.ref20_Digits [(.l 0)], none⟩,
  ⟨none, .mov (.v 0), none⟩,
  ⟨none, .bin .rem (.l 0) (.c (.int .i64 (10))), none⟩,
  ⟨none, .neg (.l 0), none⟩,
  ⟨none, .call F.ref20_Digits [(.l 0)], none⟩,
  ⟨none, .bin .add (.l 4) (.l 0), none⟩,
  ⟨(some 1), .mov (.l 0), none⟩])
 (.ret))
 (.skip)))
 (.seq
 (.seq
 (.reg [⟨none, .mov (.v 0), none⟩,
  ⟨(some 3), .bin .lss (.l 0) (.c (.int .i64 (0))), none⟩])
 (.cond (.v 3)
 (.seq
 (.reg [⟨none, .mov (.v 0), none⟩,
  ⟨none, .neg (.l 0), none⟩,
  ⟨none, .call F.ref20_Digits [(.l 0)], none⟩,
  ⟨none, .bin .add (.c (.str [45])) (.l 0), none⟩,
  ⟨(some 1), .mov (.l 0), none⟩])
 (.ret))
 (.skip)))
 (.seq
 (.seq
 (.reg [⟨none, .mov (.v 0), none⟩,
  ⟨(some 4), .bin .lss (.l 0) (.c (.int .i64 (10))), none⟩])
 (.cond (.v 4)
 (.seq
 (.reg [⟨none, .mov (.v 0), none⟩,
  ⟨none, .mov (.v 0), none⟩,
  ⟨none, .bin .add (.l 0) (.c (.int .i64 (1))), none⟩,
  ⟨none, .slice none (.c (.str [48, 49, 50, 51, 52, 53, 54, 55, 56, 57])) (some (.l 2)) (some (.l 0)) none, none⟩,
  ⟨(some 1), .mov (.l 0), none⟩])
 (.ret))
 (.skip)))
 (.seq
 (.reg [⟨none, .mov (.v 0), none⟩,
  ⟨none, .bin .quo (.l 0) (.c (.int .i64 (10))), none⟩,
  ⟨none, .call F.ref20_Digits [(.l 0)], none⟩,
  ⟨none, .mov (.v 0), none⟩,
  ⟨none, .bin .rem (.l 0) (.c (.int .i64 (10))), none⟩,
  ⟨none, .call F.ref20_Digits [(.l 0)], none⟩,
  ⟨none, .bin .add (.l 3) (.l 0), none⟩,
  ⟨(some 1), .mov (.l 0), none⟩])
 (.ret))))),
 [.v 1]⟩
theorem vfun_ref20_Digits : funOf Go.Proofs.Tryz.prog ann F.ref20_Digits = some vf_ref20_Digits := by kernel_rfl
theorem call_ref20_Digits (args : List V) (m : Mem) (hl : args.length = 1) : callL MM F.ref20_Digits args m = (ex (callL MM) m.length vf_ref20_Digits.body (enter vf_ref20_Digits args) m).bind (leave m.length vf_ref20_Digits.res) := call_fn vfun_ref20_Digits rfl args m hl
def l_ref20_quoted_0 : VC := .seq
 (.reg [⟨(some 6), .bin .lss (.v 5) (.v 4), none⟩])
 (.seq
 (.cond (.v 6)
 (.skip)
 (.exit 0))
 (.seq
 (.block 1 (.seq
 (.reg [⟨none, .mov (.v 5), none⟩,
  ⟨(some 3), .mov (.l 0), none⟩])
 (.seq
 (.seq
 (.reg [⟨none, .mov (.v 0), none⟩,
  ⟨none, .mov (.v 3), none⟩,
  ⟨none, .idxs (.l 1) (.l 0), none⟩,
  ⟨(some 7), .bin .eql (.l 0) (.c (.int .u8 (39))), none⟩])
 (.cond (.v 7)
 (.reg [⟨none, .mov (.v 2), none⟩,
  ⟨none, .bin .add (.l 0) (.c (.str [39])), none⟩,
  ⟨(some 2), .mov (.l 0), none⟩])
 (.skip)))
 (.reg [⟨none, .mov (.v 2), none⟩,
  ⟨none, .mov (.v 0), none⟩,
  ⟨none, .mov (.v 3), none⟩,
  ⟨none, .mov (.v 3), none⟩,
  ⟨none, .bin .add (.l 0) (.c (.int .i64 (1))), none⟩,
  ⟨none, .slice none (.l 3) (some (.l 2)) (some (.l 0)) none, none⟩,
  ⟨none, .bin .add (.l 5) (.l 0), none⟩,
  ⟨(some 2), .mov (.l 0), none⟩]))))
 (.reg [⟨none, .bin .add (.v 5) (.c (.int .i64 (1))), none⟩,
  ⟨(some 5), .mov (.l 0), none⟩])))
def vf_ref20_quoted : VFun := ⟨[0, 2, 3, 4, 6, 7, 8, 13], 1,
 .seq
 (.reg [⟨(some 1), .mov (.c (.str [])), none⟩])
 (.seq
 (.reg [⟨(some 2), .mov (.c (.str [39])), none⟩])
 (.seq
 (.seq
 (.reg [⟨none, .mov (.v 0), none⟩,
  ⟨(some 4), .len true (.l 0), none⟩,
  ⟨(some 5), .mov (.c (.int .i64 (0))), none⟩])
 (.block 0 (.loop [1, 3, 6, 7] l_ref20_quoted_0)))
 (.seq
 (.reg [⟨none, .mov (.v 2), none⟩,
  ⟨none, .bin .add (.l 0) (.c (.str [39])), none⟩,
  ⟨(some 1), .mov (.l 0), none⟩])
 (.ret)))),
 [.v 1]⟩
theorem vfun_ref20_quoted : funOf Go.Proofs.Tryz.prog ann F.ref20_quoted = some vf_ref20_quoted := by kernel_rfl
theorem call_ref20_quoted (args : List V) (m : Mem) (hl : args.length = 1) : callL MM F.ref20_quoted args m = (ex (callL MM) m.length vf_ref20_quoted.body (enter vf_ref20_quoted args) m).bind (leave m.length vf_ref20_quoted.res) := call_fn vfun_ref20_quoted rfl args m hl
def vf_ref01_Text : VFun := ⟨[0, 1, 2, 3, 6, 8, 9, 11, 16, 23], 1,
 .seq
 (.reg [⟨(some 1), .box (.v 0) [], none⟩,
  ⟨(some 2), .mov (.c (.str [])), none⟩,
  ⟨(some 3), .mov (.c (.int .i64 (0))), none⟩])
 (.seq
 (.seq
 (.reg [⟨none, .load (some 3) (.v 1), none⟩,
  ⟨none, .call F.ref01_Valid [(.l 0)], none⟩,
  ⟨(some 4), .not (.l 0), none⟩])
 (.cond (.v 4)
 (.seq
 (.reg [⟨(some 2), .mov (.c (.str [])), none⟩,
  ⟨(some 3), .mov (.c (.int .i64 (2))), none⟩])
 (.ret))
 (.skip)))
 (.seq
 (.seq
 (.reg [⟨none, .faddr 0 (.v 1), none⟩,
  ⟨(some 5), .load none (.l 0), none⟩])
 (.block 0 (.seq
 (.reg [⟨none, .bin .eql (.v 5) (.c (.int .i64 (0))), none⟩,
  ⟨(some 6), .mov (.l 0), none⟩])
 (.cond (.v 6)
 (.seq
 (.reg [⟨(some 2), .mov (.c (.str [110, 117, 108, 108])), none⟩,
  ⟨(some 3), .mov (.c (.int .i64 (0))), none⟩])
 (.ret))
 (.seq
 (.reg [⟨none, .bin .eql (.v 5) (.c (.int .i64 (1))), none⟩,
  ⟨(some 7), .mov (.l 0), none⟩])
 (.cond (.v 7)
 (.seq
 (.reg [⟨none, .faddr 1 (.v 1), none⟩,
  ⟨none, .load none (.l 0), none⟩,
  ⟨none, .call F.ref01_digits [(.l 0)], none⟩,
  ⟨(some 2), .mov (.l 0), none⟩,
  ⟨(some 3), .mov (.c (.int .i64 (0))), none⟩])
 (.ret))
 (.seq
 (.reg [⟨none, .bin .eql (.v 5) (.c (.int .i64 (2))), none⟩,
  ⟨(some 8), .mov (.l 0), none⟩])
 (.cond (.v 8)
 (.seq
 (.reg [⟨none, .faddr 2 (.v 1), none⟩,
  ⟨none, .load none (.l 0), none⟩,
  ⟨none, .call F.ref01_Quoted [(.l 0)], none⟩,
  ⟨(some 2), .mov (.l 0), none⟩,
  ⟨(some 3), .mov (.c (.int .i64 (0))), none⟩])
 (.ret))
 (.skip)))))))))
 (.seq
 (.seq
 (.reg [⟨none, .faddr 1 (.v 1), none⟩,
  ⟨none, .load none (.l 0), none⟩,
  ⟨(some 9), .bin .eql (.l 0) (.c (.int .i64 (1))), none⟩])
 (.cond (.v 9)
 (.seq
 (.reg [⟨(some 2), .mov (.c (.str [116, 114, 117, 101])), none⟩,
  ⟨(some 3), .mov (.c (.int .i64 (0))), none⟩])
 (.ret))
 (.skip)))
 (.seq
 (.reg [⟨(some 2), .mov (.c (.str [102, 97, 108, 115, 101])), none⟩,
  ⟨(some 3), .mov (.c (.int .i64 (0))), none⟩])
 (.ret))))),
 [.v 2, .v 3]⟩
theorem vfun_ref01_Text : funOf Go.Proofs.Tryz.prog ann F.ref01_Text = some vf_ref01_Text := by kernel_rfl
theorem call_ref01_Text (args : List V) (m : Mem) (hl : args.length = 1) : callL MM F.ref01_Text args m = (ex (callL MM) m.length vf_ref01_Text.body (enter vf_ref01_Text args) m).bind (leave m.length vf_ref01_Text.res) := call_fn vfun_ref01_Text rfl args m hl
def vf_redo_reader_field : VFun := ⟨[0, 1, 2, 6, 7, 14, 21, 28, 35, 42, 49, 56], 3,
 .seq
 (.reg [⟨(some 3), .mov (.v 2), none⟩])
 (.block 0 (.seq
 (.reg [⟨none, .bin .eql (.v 3) (.c (.int .i64 (0))), none⟩,
  ⟨(some 4), .mov (.l 0), none⟩])
 (.cond (.v 4)
 (.reg [⟨none, .mov (.v 1), none⟩,
  ⟨none, .mov (.v 0), none⟩,
  ⟨none, .call F.redo_reader_number [(.l 0), (.c (.int .i64 (8)))], none⟩,
  ⟨none, .nilck (.l 2), none⟩,
  ⟨none, .faddr 1 (.l 0), none⟩,
  ⟨none, .store 1 (.l 0) (.l 2), none⟩])
 (.seq
 (.reg [⟨none, .bin .eql (.v 3) (.c (.int .i64 (1))), none⟩,
  ⟨(some 5), .mov (.l 0), none⟩])
 (.cond (.v 5)
 (.reg [⟨none, .mov (.v 1), none⟩,
  ⟨none, .mov (.v 0), none⟩,
  ⟨none, .call F.redo_reader_text [(.l 0)], none⟩,
  ⟨none, .nilck (.l 2), none⟩,
  ⟨none, .faddr 2 (.l 0), none⟩,
  ⟨none, .store 1 (.l 0) (.l 2), none⟩])
 (.seq
 (.reg [⟨none, .bin .eql (.v 3) (.c (.int .i64 (2))), none⟩,
  ⟨(some 6), .mov (.l 0), none⟩])
 (.cond (.v 6)
 (.reg [⟨none, .mov (.v 1), none⟩,
  ⟨none, .mov (.v 0), none⟩,
  ⟨none, .call F.redo_reader_text [(.l 0)], none⟩,
  ⟨none, .nilck (.l 2), none⟩,
  ⟨none, .faddr 3 (.l 0), none⟩,
  ⟨none, .store 1 (.l 0) (.l 2), none⟩])
 (.seq
 (.reg [⟨none, .bin .eql (.v 3) (.c (.int .i64 (3))), none⟩,
  ⟨(some 7), .mov (.l 0), none⟩])
 (.cond (.v 7)
 (.reg [⟨none, .mov (.v 1), none⟩,
  ⟨none, .mov (.v 0), none⟩,
  ⟨none, .call F.redo_reader_number [(.l 0), (.c (.int .i64 (8)))], none⟩,
  ⟨none, .nilck (.l 2), none⟩,
  ⟨none, .faddr 4 (.l 0), none⟩,
  ⟨none, .store 1 (.l 0) (.l 2), none⟩])
 (.seq
 (.reg [⟨none, .bin .eql (.v 3) (.c (.int .i64 (4))), none⟩,
  ⟨(some 8), .mov (.l 0), none⟩])
 (.cond (.v 8)
 (.reg [⟨none, .mov (.v 1), none⟩,
  ⟨none, .mov (.v 0), none⟩,
  ⟨none, .call F.redo_reader_row [(.l 0)], none⟩,
  ⟨none, .nilck (.l 2), none⟩,
  ⟨none, .faddr 5 (.l 0), none⟩,
  ⟨none, .store 1 (.l 0) (.l 2), none⟩])
 (.seq
 (.reg [⟨none, .bin .eql (.v 3) (.c (.int .i64 (5))), none⟩,
  ⟨(some 9), .mov (.l 0), none⟩])
 (.cond (.v 9)
 (.reg [⟨none, .mov (.v 1), none⟩,
  ⟨none, .mov (.v 0), none⟩,
  ⟨none, .call F.redo_reader_number [(.l 0), (.c (.int .i64 (8)))], none⟩,
  ⟨none, .nilck (.l 2), none⟩,
  ⟨none, .faddr 6 (.l 0), none⟩,
  ⟨none, .store 1 (.l 0) (.l 2), none⟩])
 (.seq
 (.reg [⟨none, .bin .eql (.v 3) (.c (.int .i64 (6))), none⟩,
  ⟨(some 10), .mov (.l 0), none⟩])
 (.cond (.v 10)
 (.reg [⟨none, .mov (.v 1), none⟩,
  ⟨none, .mov (.v 0), none⟩,
  ⟨none, .call F.redo_reader_text [(.l 0)], none⟩,
  ⟨none, .nilck (.l 2), none⟩,
  ⟨none, .faddr 7 (.l 0), none⟩,
  ⟨none, .store 1 (.l 0) (.l 2), none⟩])
 (.seq
 (.reg [⟨none, .bin .eql (.v 3) (.c (.int .i64 (7))), none⟩,
  ⟨(some 11), .mov (.l 0), none⟩])
 (.cond (.v 11)
 (.reg [⟨none, .mov (.v 1), none⟩,
  ⟨none, .mov (.v 0), none⟩,
  ⟨none, .call F.redo_reader_number [(.l 0), (.c (.int .i64 (8)))], none⟩,
  ⟨none, .nilck (.l 2), none⟩,
  ⟨none, .faddr 8 (.l 0), none⟩,
  ⟨none, .store 1 (.l 0) (.l 2), none⟩])
 (.skip)))))))))))))))))),
 []⟩
theorem vfun_redo_reader_field : funOf Go.Proofs.Tryz.prog ann F.redo_reader_field = some vf_redo_reader_field := by kernel_rfl
theorem call_redo_reader_field (args : List V) (m : Mem) (hl : args.length = 3) : callL MM F.redo_reader_field args m = (ex (callL MM) m.length vf_redo_reader_field.body (enter vf_redo_reader_field args) m).bind (leave m.length vf_redo_reader_field.res) := call_fn vfun_redo_reader_field rfl args m hl
def l_redo_reader_number_0 : VC := .seq
 (.reg [⟨(some 8), .bin .lss (.v 7) (.v 6), none⟩])
 (.seq
 (.cond (.v 8)
 (.skip)
 (.exit 0))
 (.seq
 (.block 1 (.seq
 (.reg [⟨none, .iaddr 1 (.v 5) (.v 7), none⟩,
  ⟨none, .load none (.l 0), none⟩,
  ⟨(some 4), .mov (.l 0), none⟩])
 (.reg [⟨none, .mov (.v 3), none⟩,
  ⟨none, .bin .shl (.l 0) (.c (.int .u64 (8))), none⟩,
  ⟨none, .mov (.v 4), none⟩,
  ⟨none, .conv .i64 (.l 0), none⟩,
  ⟨none, .bin .or (.l 2) (.l 0), none⟩,
  ⟨(some 3), .mov (.l 0), none⟩])))
 (.reg [⟨none, .bin .add (.v 7) (.c (.int .i64 (1))), none⟩,
  ⟨(some 7), .mov (.l 0), none⟩])))
def vf_redo_reader_number : VFun := ⟨[0, 1, 4, 5, 7, 10, 11, 12, 13], 2,
 .seq
 (.reg [⟨(some 2), .mov (.c (.int .i64 (0))), none⟩])
 (.seq
 (.reg [⟨(some 3), .mov (.c (.int .i64 (0))), none⟩])
 (.seq
 (.seq
 (.reg [⟨none, .mov (.v 0), none⟩,
  ⟨none, .mov (.v 1), none⟩,
  ⟨(some 5), .call F.redo_reader_take [(.l 1), (.l 0)], none⟩,
  ⟨(some 6), .len false (.v 5), none⟩,
  ⟨(some 7), .mov (.c (.int .i64 (0))), none⟩])
 (.block 0 (.loop [0, 1, 2, 4, 8] l_redo_reader_number_0)))
 (.seq
 (.reg [⟨none, .mov (.v 3), none⟩,
  ⟨(some 2), .mov (.l 0), none⟩])
 (.ret)))),
 [.v 2]⟩
theorem vfun_redo_reader_number : funOf Go.Proofs.Tryz.prog ann F.redo_reader_number = some vf_redo_reader_number := by kernel_rfl
theorem call_redo_reader_number (args : List V) (m : Mem) (hl : args.length = 2) : callL MM F.redo_reader_number args m = (ex (callL MM) m.length vf_redo_reader_number.body (enter vf_redo_reader_number args) m).bind (leave m.length vf_redo_reader_number.res) := call_fn vfun_redo_reader_number rfl args m hl
def l_ref20_Reader_Rec_0 : VC := .seq
 (.reg [⟨(some 7), .bin .lss (.v 6) (.v 5), none⟩])
 (.seq
 (.cond (.v 7)
 (.skip)
 (.exit 0))
 (.seq
 (.block 1 (.seq
 (.reg [⟨none, .mov (.v 6), none⟩,
  ⟨(some 4), .mov (.l 0), none⟩])
 (.seq
 (.reg [⟨none, .mov (.v 3), none⟩,
  ⟨none, .mov (.v 4), none⟩,
  ⟨(some 8), .idxs (.l 1) (.l 0), none⟩])
 (.block 2 (.seq
 (.reg [⟨none, .bin .eql (.v 8) (.c (.int .u8 (84))), none⟩,
  ⟨(some 9), .mov (.l 0), none⟩])
 (.cond (.v 9)
 (.reg [⟨none, .mov (.v 0), none⟩,
  ⟨none, .call F.ref20_Reader_Number [(.l 0), (.c (.int .i64 (8)))], none⟩,
  ⟨none, .faddr 1 (.v 2), none⟩,
  ⟨none, .store 1 (.l 0) (.l 1), none⟩])
 (.seq
 (.reg [⟨none, .bin .eql (.v 8) (.c (.int .u8 (79))), none⟩,
  ⟨(some 10), .mov (.l 0), none⟩])
 (.cond (.v 10)
 (.reg [⟨none, .mov (.v 0), none⟩,
  ⟨none, .call F.ref20_Reader_String [(.l 0)], none⟩,
  ⟨none, .faddr 2 (.v 2), none⟩,
  ⟨none, .store 1 (.l 0) (.l 1), none⟩])
 (.seq
 (.reg [⟨none, .bin .eql (.v 8) (.c (.int .u8 (78))), none⟩,
  ⟨(some 11), .mov (.l 0), none⟩])
 (.cond (.v 11)
 (.reg [⟨none, .mov (.v 0), none⟩,
  ⟨none, .call F.ref20_Reader_String [(.l 0)], none⟩,
  ⟨none, .faddr 3 (.v 2), none⟩,
  ⟨none, .store 1 (.l 0) (.l 1), none⟩])
 (.seq
 (.reg [⟨none, .bin .eql (.v 8) (.c (.int .u8 (73))), none⟩,
  ⟨(some 12), .mov (.l 0), none⟩])
 (.cond (.v 12)
 (.reg [⟨none, .mov (.v 0), none⟩,
  ⟨none, .call F.ref20_Reader_Number [(.l 0), (.c (.int .i64 (8)))], none⟩,
  ⟨none, .faddr 4 (.v 2), none⟩,
  ⟨none, .store 1 (.l 0) (.l 1), none⟩])
 (.seq
 (.reg [⟨none, .bin .eql (.v 8) (.c (.int .u8 (82))), none⟩,
  ⟨(some 13), .mov (.l 0), none⟩])
 (.cond (.v 13)
 (.reg [⟨none, .mov (.v 0), none⟩,
  ⟨none, .call F.ref20_Reader_Row [(.l 0)], none⟩,
  ⟨none, .faddr 5 (.v 2), none⟩,
  ⟨none, .store 1 (.l 0) (.l 1), none⟩])
 (.seq
 (.seq
 (.reg [⟨none, .bin .eql (.v 8) (.c (.int .u8 (66))), none⟩,
  ⟨(some 14), .mov (.l 0), none⟩])
 (.cond (.v 14)
 (.skip)
 (.reg [⟨none, .bin .eql (.v 8) (.c (.int .u8 (77))), none⟩,
  ⟨(some 14), .mov (.l 0), none⟩])))
 (.cond (.v 14)
 (.reg [⟨none, .mov (.v 0), none⟩,
  ⟨none, .call F.ref20_Reader_Number [(.l 0), (.c (.int .i64 (8)))], none⟩,
  ⟨none, .faddr 8 (.v 2), none⟩,
  ⟨none, .store 1 (.l 0) (.l 1), none⟩])
 (.seq
 (.reg [⟨none, .bin .eql (.v 8) (.c (.int .u8 (67))), none⟩,
  ⟨(some 15), .mov (.l 0), none⟩])
 (.cond (.v 15)
 (.reg [⟨none, .mov (.v 0), none⟩,
  ⟨none, .call F.ref20_Reader_Number [(.l 0), (.c (.int .i64 (8)))], none⟩,
  ⟨none, .faddr 6 (.v 2), none⟩,
  ⟨none, .store 1 (.l 0) (.l 1), none⟩])
 (.reg [⟨none, .mov (.v 0), none⟩,
  ⟨none, .call F.ref20_Reader_String [(.l 0)], none⟩,
  ⟨none, .faddr 7 (.v 2), none⟩,
  ⟨none, .store 1 (.l 0) (.l 1), none⟩])))))))))))))))))))
 (.reg [⟨none, .bin .add (.v 6) (.c (.int .i64 (1))), none⟩,
  ⟨(some 6), .mov (.l 0), none⟩])))
def vf_ref20_Reader_Rec : VFun := ⟨[0, 2, 3, 4, 6, 17, 18, 19, 23, 27, 32, 37, 42, 47, 52, 58], 1,
 .seq
 (.reg [⟨(some 1), .alloc [.int .i64 (0), .int .i64 (0), .str [], .str [], .int .i64 (0), .sl true 0 [], .int .i64 (0), .str [], .int .i64 (0)] [], none⟩])
 (.seq
 (.reg [⟨none, .mov (.v 0), none⟩,
  ⟨none, .call F.ref20_Reader_Number [(.l 0), (.c (.int .i64 (1)))], none⟩,
  ⟨none, .build [.int .i64 (0), .int .i64 (0), .str [], .str [], .int .i64 (0), .sl true 0 [], .int .i64 (0), .str [], .int .i64 (0)] [(0, 1, (.l 0))], none⟩,
  ⟨(some 2), .alloc [.int .i64 (0), .int .i64 (0), .str [], .str [], .int .i64 (0), .sl true 0 [], .int .i64 (0), .str [], .int .i64 (0)] [], none⟩,
  ⟨none, .store 9 (.v 2) (.l 1), none⟩])
 (.seq
 (.reg [⟨none, .faddr 0 (.v 2), none⟩,
  ⟨none, .load none (.l 0), none⟩,
  ⟨none, .call F.ref20_Fields [(.l 0)], none⟩,
  ⟨none, .mov (.l 0), none⟩,
  ⟨none, .ext (.l 0) 0, none⟩,
  ⟨none, .ext (.l 1) 1, none⟩,
  ⟨(some 3), .mov (.l 1), none⟩,
  ⟨none, .mov (.l 1), none⟩])
 (.seq
 (.seq
 (.reg [⟨none, .mov (.v 3), none⟩,
  ⟨(some 5), .len true (.l 0), none⟩,
  ⟨(some 6), .mov (.c (.int .i64 (0))), none⟩])
 (.block 0 (.loop [4, 7, 8, 9, 10, 11, 12, 13, 14, 15] l_ref20_Reader_Rec_0)))
 (.seq
 (.reg [⟨none, .load (some 9) (.v 2), none⟩,
  ⟨none, .store 9 (.v 1) (.l 0), none⟩])
 (.ret))))),
 [.cell 1 (some 9)]⟩
theorem vfun_ref20_Reader_Rec : funOf Go.Proofs.Tryz.prog ann F.ref20_Reader_Rec = some vf_ref20_Reader_Rec := by kernel_rfl
theorem call_ref20_Reader_Rec (args : List V) (m : Mem) (hl : args.length = 1) : callL MM F.ref20_Reader_Rec args m = (ex (callL MM) m.length vf_ref20_Reader_Rec.body (enter vf_ref20_Reader_Rec args) m).bind (leave m.length vf_ref20_Reader_Rec.res) := call_fn vfun_ref20_Reader_Rec rfl args m hl
def vf_redo_writer_text : VFun := ⟨[0, 1], 2,
 .seq
 (.reg [⟨none, .mov (.v 0), none⟩,
  ⟨none, .mov (.v 1), none⟩,
  ⟨none, .len true (.l 0), none⟩,
  ⟨none, .call F.redo_writer_number [(.l 2), (.l 0), (.c (.int .i64 (2)))], none⟩])
 (.reg [⟨none, .mov (.v 0), none⟩,
  ⟨none, .mov (.v 0), none⟩,
  ⟨none, .nilck (.l 0), none⟩,
  ⟨none, .faddr 0 (.l 0), none⟩,
  ⟨none, .load none (.l 0), none⟩,
  ⟨none, .mov (.v 1), none⟩,
  ⟨none, .app 1 1 (.l 1) (.l 0), none⟩,
  ⟨none, .nilck (.l 6), none⟩,
  ⟨none, .faddr 0 (.l 0), none⟩,
  ⟨none, .store 1 (.l 0) (.l 2), none⟩]),
 []⟩
theorem vfun_redo_writer_text : funOf Go.Proofs.Tryz.prog ann F.redo_writer_text = some vf_redo_writer_text := by kernel_rfl
theorem call_redo_writer_text (args : List V) (m : Mem) (hl : args.length = 2) : callL MM F.redo_writer_text args m = (ex (callL MM) m.length vf_redo_writer_text.body (enter vf_redo_writer_text args) m).bind (leave m.length vf_redo_writer_text.res) := call_fn vfun_redo_writer_text rfl args m hl
def l_redo_writer_row_0 : VC := .seq
 (.reg [⟨(some 6), .bin .lss (.v 5) (.v 4), none⟩])
 (.seq
 (.cond (.v 6)
 (.skip)
 (.exit 0))
 (.seq
 (.block 1 (.seq
 (.reg [⟨none, .iaddr 3 (.v 3) (.v 5), none⟩,
  ⟨none, .load (some 3) (.l 0), none⟩,
  ⟨(some 2), .alloc [.int .i64 (0), .int .i64 (0), .str []] [], none⟩,
  ⟨none, .store 3 (.v 2) (.l 1), none⟩])
 (.seq
 (.reg [⟨none, .mov (.v 0), none⟩,
  ⟨none, .faddr 0 (.v 2), none⟩,
  ⟨none, .load none (.l 0), none⟩,
  ⟨none, .call F.redo_writer_number [(.l 2), (.l 0), (.c (.int .i64 (1)))], none⟩])
 (.seq
 (.reg [⟨none, .faddr 0 (.v 2), none⟩,
  ⟨(some 7), .load none (.l 0), none⟩])
 (.block 2 (.seq
 (.reg [⟨none, .bin .eql (.v 7) (.c (.int .i64 (1))), none⟩,
  ⟨(some 8), .mov (.l 0), none⟩])
 (.cond (.v 8)
 (.reg [⟨none, .mov (.v 0), none⟩,
  ⟨none, .faddr 1 (.v 2), none⟩,
  ⟨none, .load none (.l 0), none⟩,
  ⟨none, .call F.redo_writer_number [(.l 2), (.l 0), (.c (.int .i64 (8)))], none⟩])
 (.seq
 (.reg [⟨none, .bin .eql (.v 7) (.c (.int .i64 (3))), none⟩,
  ⟨(some 9), .mov (.l 0), none⟩])
 (.cond (.v 9)
 (.reg [⟨none, .mov (.v 0), none⟩,
  ⟨none, .faddr 1 (.v 2), none⟩,
  ⟨none, .load none (.l 0), none⟩,
  ⟨none, .call F.redo_writer_number [(.l 2), (.l 0), (.c (.int .i64 (1)))], none⟩])
 (.seq
 (.reg [⟨none, .bin .eql (.v 7) (.c (.int .i64 (2))), none⟩,
  ⟨(some 10), .mov (.l 0), none⟩])
 (.cond (.v 10)
 (.reg [⟨none, .mov (.v 0), none⟩,
  ⟨none, .faddr 2 (.v 2), none⟩,
  ⟨none, .load none (.l 0), none⟩,
  ⟨none, .call F.redo_writer_text [(.l 2), (.l 0)], none⟩])
 (.skip))))))))))))
 (.reg [⟨none, .bin .add (.v 5) (.c (.int .i64 (1))), none⟩,
  ⟨(some 5), .mov (.l 0), none⟩])))
def vf_redo_writer_row : VFun := ⟨[0, 1, 5, 10, 11, 12, 13, 21, 22, 28, 34], 2,
 .seq
 (.reg [⟨none, .mov (.v 0), none⟩,
  ⟨none, .mov (.v 1), none⟩,
  ⟨none, .len false (.l 0), none⟩,
  ⟨none, .call F.redo_writer_number [(.l 2), (.l 0), (.c (.int .i64 (1)))], none⟩])
 (.seq
 (.reg [⟨(some 3), .mov (.v 1), none⟩,
  ⟨(some 4), .len false (.v 3), none⟩,
  ⟨(some 5), .mov (.c (.int .i64 (0))), none⟩])
 (.block 0 (.loop [1, 2, 6, 7, 8, 9, 10] l_redo_writer_row_0))),
 []⟩
theorem vfun_redo_writer_row : funOf Go.Proofs.Tryz.prog ann F.redo_writer_row = some vf_redo_writer_row := by kernel_rfl
theorem call_redo_writer_row (args : List V) (m : Mem) (hl : args.length = 2) : callL MM F.redo_writer_row args m = (ex (callL MM) m.length vf_redo_writer_row.body (enter vf_redo_writer_row args) m).bind (leave m.length vf_redo_writer_row.res) := call_fn vfun_redo_writer_row rfl args m hl
def l_ref20_Number_0 : VC := .seq
 (.seq
 (.reg [⟨none, .mov (.v 4), none⟩,
  ⟨(some 5), .bin .geq (.l 0) (.c (.int .i64 (0))), none⟩])
 (.cond (.v 5)
 (.skip)
 (.exit 0)))
 (.seq
 (.block 1 (.reg [⟨none, .mov (.v 0), none⟩,
  ⟨none, .mov (.v 1), none⟩,
  ⟨none, .mov (.v 4), none⟩,
  ⟨none, .bin .mul (.c (.int .i64 (8))) (.l 0), none⟩,
  ⟨none, .conv .u64 (.l 0), none⟩,
  ⟨none, .bin .shr (.l 3) (.l 0), none⟩,
  ⟨none, .conv .u8 (.l 0), none⟩,
  ⟨none, .mksl 1 [(.l 0)], none⟩,
  ⟨none, .app 1 1 (.l 7) (.l 0), none⟩,
  ⟨(some 0), .mov (.l 0), none⟩]))
 (.reg [⟨none, .mov (.v 4), none⟩,
  ⟨none, .bin .sub (.l 0) (.c (.int .i64 (1))), none⟩,
  ⟨(some 4), .mov (.l 0), none⟩]))
def vf_ref20_Number : VFun := ⟨[0, 1, 2, 6, 7, 11], 3,
 .seq
 (.reg [⟨(some 3), .mov (.c (.sl true 0 [])), none⟩])
 (.seq
 (.seq
 (.reg [⟨none, .mov (.v 2), none⟩,
  ⟨none, .bin .sub (.l 0) (.c (.int .i64 (1))), none⟩,
  ⟨(some 4), .mov (.l 0), none⟩])
 (.block 0 (.loop [2, 3, 5] l_ref20_Number_0)))
 (.seq
 (.reg [⟨none, .mov (.v 0), none⟩,
  ⟨(some 3), .mov (.l 0), none⟩])
 (.ret))),
 [.g 3]⟩
theorem vfun_ref20_Number : funOf Go.Proofs.Tryz.prog ann F.ref20_Number = some vf_ref20_Number := by kernel_rfl
theorem call_ref20_Number (args : List V) (m : Mem) (hl : args.length = 3) : callL MM F.ref20_Number args m = (ex (callL MM) m.length vf_ref20_Number.body (enter vf_ref20_Number args) m).bind (leave m.length vf_ref20_Number.res) := call_fn vfun_ref20_Number rfl args m hl
def vf_ref20_String : VFun := ⟨[0, 1, 4], 2,
 .seq
 (.reg [⟨(some 2), .mov (.c (.sl true 0 [])), none⟩])
 (.seq
 (.reg [⟨none, .mov (.v 0), none⟩,
  ⟨none, .mov (.v 1), none⟩,
  ⟨none, .len true (.l 0), none⟩,
  ⟨none, .callg 1 F.ref20_Number [(.l 2), (.l 0), (.c (.int .i64 (2)))], none⟩,
  ⟨none, .mov (.v 1), none⟩,
  ⟨none, .app 1 1 (.l 1) (.l 0), none⟩,
  ⟨(some 2), .mov (.l 0), none⟩])
 (.ret)),
 [.g 2]⟩
theorem vfun_ref20_String : funOf Go.Proofs.Tryz.prog ann F.ref20_String = some vf_ref20_String := by kernel_rfl
theorem call_ref20_String (args : List V) (m : Mem) (hl : args.length = 2) : callL MM F.ref20_String args m = (ex (callL MM) m.length vf_ref20_String.body (enter vf_ref20_String args) m).bind (leave m.length vf_ref20_String.res) := call_fn vfun_ref20_String rfl args m hl
def l_ref20_Row_0 : VC := .seq
 (.reg [⟨(some 7), .bin .lss (.v 6) (.v 5), none⟩])
 (.seq
 (.cond (.v 7)
 (.skip)
 (.exit 0))
 (.seq
 (.block 1 (.seq
 (.reg [⟨none, .iaddr 3 (.v 4) (.v 6), none⟩,
  ⟨none, .load (some 3) (.l 0), none⟩,
  ⟨(some 3), .alloc [.int .i64 (0), .int .i64 (0), .str []] [], none⟩,
  ⟨none, .store 3 (.v 3) (.l 1), none⟩])
 (.seq
 (.reg [⟨none, .mov (.v 0), none⟩,
  ⟨none, .faddr 0 (.v 3), none⟩,
  ⟨none, .load none (.l 0), none⟩,
  ⟨none, .conv .u8 (.l 0), none⟩,
  ⟨none, .mksl 1 [(.l 0)], none⟩,
  ⟨none, .app 1 1 (.l 4) (.l 0), none⟩,
  ⟨(some 0), .mov (.l 0), none⟩])
 (.seq
 (.reg [⟨none, .faddr 0 (.v 3), none⟩,
  ⟨(some 8), .load none (.l 0), none⟩])
 (.block 2 (.seq
 (.reg [⟨none, .bin .eql (.v 8) (.c (.int .i64 (1))), none⟩,
  ⟨(some 9), .mov (.l 0), none⟩])
 (.cond (.v 9)
 (.reg [⟨none, .mov (.v 0), none⟩,
  ⟨none, .faddr 1 (.v 3), none⟩,
  ⟨none, .load none (.l 0), none⟩,
  ⟨none, .callg 1 F.ref20_Number [(.l 2), (.l 0), (.c (.int .i64 (8)))], none⟩,
  ⟨(some 0), .mov (.l 0), none⟩])
 (.seq
 (.reg [⟨none, .bin .eql (.v 8) (.c (.int .i64 (2))), none⟩,
  ⟨(some 10), .mov (.l 0), none⟩])
 (.cond (.v 10)
 (.reg [⟨none, .mov (.v 0), none⟩,
  ⟨none, .faddr 2 (.v 3), none⟩,
  ⟨none, .load none (.l 0), none⟩,
  ⟨none, .callg 1 F.ref20_String [(.l 2), (.l 0)], none⟩,
  ⟨(some 0), .mov (.l 0), none⟩])
 (.seq
 (.reg [⟨none, .bin .eql (.v 8) (.c (.int .i64 (3))), none⟩,
  ⟨(some 11), .mov (.l 0), none⟩])
 (.cond (.v 11)
 (.reg [⟨none, .mov (.v 0), none⟩,
  ⟨none, .faddr 1 (.v 3), none⟩,
  ⟨none, .load none (.l 0), none⟩,
  ⟨none, .conv .u8 (.l 0), none⟩,
  ⟨none, .mksl 1 [(.l 0)], none⟩,
  ⟨none, .app 1 1 (.l 4) (.l 0), none⟩,
  ⟨(some 0), .mov (.l 0), none⟩])
 (.skip))))))))))))
 (.reg [⟨none, .bin .add (.v 6) (.c (.int .i64 (1))), none⟩,
  ⟨(some 6), .mov (.l 0), none⟩])))
def vf_ref20_Row : VFun := ⟨[0, 1, 4, 6, 13, 14, 15, 16, 26, 27, 33, 39], 2,
 .seq
 (.reg [⟨(some 2), .mov (.c (.sl true 0 [])), none⟩])
 (.seq
 (.reg [⟨none, .mov (.v 0), none⟩,
  ⟨none, .mov (.v 1), none⟩,
  ⟨none, .len false (.l 0), none⟩,
  ⟨none, .conv .u8 (.l 0), none⟩,
  ⟨none, .mksl 1 [(.l 0)], none⟩,
  ⟨none, .app 1 1 (.l 4) (.l 0), none⟩,
  ⟨(some 0), .mov (.l 0), none⟩])
 (.seq
 (.seq
 (.reg [⟨(some 4), .mov (.v 1), none⟩,
  ⟨(some 5), .len false (.v 4), none⟩,
  ⟨(some 6), .mov (.c (.int .i64 (0))), none⟩])
 (.block 0 (.loop [1, 2, 3, 7, 8, 9, 10, 11] l_ref20_Row_0)))
 (.seq
 (.reg [⟨none, .mov (.v 0), none⟩,
  ⟨(some 2), .mov (.l 0), none⟩])
 (.ret)))),
 [.g 2]⟩
theorem vfun_ref20_Row : funOf Go.Proofs.Tryz.prog ann F.ref20_Row = some vf_ref20_Row := by kernel_rfl
theorem call_ref20_Row (args : List V) (m : Mem) (hl : args.length = 2) : callL MM F.ref20_Row args m = (ex (callL MM) m.length vf_ref20_Row.body (enter vf_ref20_Row args) m).bind (leave m.length vf_ref20_Row.res) := call_fn vfun_ref20_Row rfl args m hl
def l_slices_IndexFunc_redo_field_redo_field_0 : VC := .seq
 (.reg [⟨(some 6), .bin .lss (.v 5) (.v 4), none⟩])
 (.seq
 (.cond (.v 6)
 (.skip)
 (.exit 0))
 (.seq
 (.block 1 (.seq
 (.reg [⟨none, .mov (.v 5), none⟩,
  ⟨(some 3), .mov (.l 0), none⟩])
 (.seq
 (.reg [⟨none, .mov (.v 1), none⟩,
  ⟨none, .mov (.v 0), none⟩,
  ⟨none, .mov (.v 3), none⟩,
  ⟨none, .iaddr 1 (.l 1) (.l 0), none⟩,
  ⟨none, .load none (.l 0), none⟩,
  ⟨(some 7), .callv (.l 4) [(.l 0)], none⟩])
 (.cond (.v 7)
 (.seq
 (.reg [⟨none, .mov (.v 3), none⟩,
  ⟨(some 2), .mov (.l 0), none⟩])
 (.ret))
 (.skip)))))
 (.reg [⟨none, .bin .add (.v 5) (.c (.int .i64 (1))), none⟩,
  ⟨(some 5), .mov (.l 0), none⟩])))
def vf_slices_IndexFunc_redo_field_redo_field : VFun := ⟨[0, 1, 4, 5, 7, 8, 9, 16], 2,
 .seq
 (.reg [⟨(some 2), .mov (.c (.int .i64 (0))), none⟩])
 (.seq
 (.seq
 (.reg [⟨none, .mov (.v 0), none⟩,
  ⟨(some 4), .len false (.l 0), none⟩,
  ⟨(some 5), .mov (.c (.int .i64 (0))), none⟩])
 (.block 0 (.loop [2, 3, 6, 7] l_slices_IndexFunc_redo_field_redo_field_0)))
 (.seq
 (.reg [⟨(some 2), .mov (.c (.int .i64 (-1))), none⟩])
 (.ret))),
 [.v 2]⟩
theorem vfun_slices_IndexFunc_redo_field_redo_field : funOf Go.Proofs.Tryz.prog ann F.slices_IndexFunc_redo_field_redo_field = some vf_slices_IndexFunc_redo_field_redo_field := by kernel_rfl
theorem call_slices_IndexFunc_redo_field_redo_field (args : List V) (m : Mem) (hl : args.length = 2) : callL MM F.slices_IndexFunc_redo_field_redo_field args m = (ex (callL MM) m.length vf_slices_IndexFunc_redo_field_redo_field.body (enter vf_slices_IndexFunc_redo_field_redo_field args) m).bind (leave m.length vf_slices_IndexFunc_redo_field_redo_field.res) := call_fn vfun_slices_IndexFunc_redo_field_redo_field rfl args m hl
def vf_valid_IsNumber : VFun := ⟨[0, 2], 1,
 .seq
 (.reg [⟨(some 1), .mov (.c (.bool false)), none⟩])
 (.seq
 (.reg [⟨none, .mov (.v 0), none⟩,
  ⟨none, .bin .geq (.l 0) (.c (.int .i64 (1))), none⟩,
  ⟨none, .mov (.l 0), none⟩,
  ⟨none, .mov (.v 0), (some (0, true))⟩,
  ⟨none, .bin .leq (.l 0) (.c (.int .i64 (1099511627776))), (some (1, true))⟩,
  ⟨none, .pick (.l 2) (.l 0) (.c (.bool false)), none⟩,
  ⟨(some 1), .mov (.l 0), none⟩])
 (.ret)),
 [.v 1]⟩
theorem vfun_valid_IsNumber : funOf Go.Proofs.Tryz.prog ann F.valid_IsNumber = some vf_valid_IsNumber := by kernel_rfl
theorem call_valid_IsNumber (args : List V) (m : Mem) (hl : args.length = 1) : callL MM F.valid_IsNumber args m = (ex (callL MM) m.length vf_valid_IsNumber.body (enter vf_valid_IsNumber args) m).bind (leave m.length vf_valid_IsNumber.res) := call_fn vfun_valid_IsNumber rfl args m hl
def vf_valid_IsName : VFun := ⟨[0, 2], 1,
 .seq
 (.reg [⟨(some 1), .mov (.c (.bool false)), none⟩])
 (.seq
 (.reg [⟨none, .mov (.v 0), none⟩,
  ⟨none, .call F.lex_Name [(.l 0)], none⟩,
  ⟨(some 1), .mov (.l 0), none⟩])
 (.ret)),
 [.v 1]⟩
theorem vfun_valid_IsName : funOf Go.Proofs.Tryz.prog ann F.valid_IsName = some vf_valid_IsName := by kernel_rfl
theorem call_valid_IsName (args : List V) (m : Mem) (hl : args.length = 1) : callL MM F.valid_IsName args m = (ex (callL MM) m.length vf_valid_IsName.body (enter vf_valid_IsName args) m).bind (leave m.length vf_valid_IsName.res) := call_fn vfun_valid_IsName rfl args m hl
end Go.Vm.Redo
