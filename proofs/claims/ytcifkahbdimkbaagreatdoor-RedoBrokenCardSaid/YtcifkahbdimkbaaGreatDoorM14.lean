/- Part 14 of the ground under the rows: Walks: records as strings, the program's. -/
import Derived.Test.YtcifkahbdimkbaaGreatDoorM13
import Derived.Lib.ItoaLen
set_option linter.unusedSimpArgs false
set_option linter.unusedVariables false
-- RT0: Walks: records as strings, the program's.
set_option maxRecDepth 100000
namespace Go.Vm.Redo
open Go Go.Vm

theorem run_Itoa (n : Int) (h0 : -9223372036854775808 ≤ n) (h1 : n ≤ 9223372036854775807) (m : Mem) : callL MM F.strconv_Itoa [.int .i64 n] m = some (.ret [.str (Lib.itoa n)] m) := by
  rw [call_prim (p := pItoa) (hp := rfl)]
  simp only [pItoa]
  rw [if_pos ⟨h0, h1⟩]
theorem run_ReplaceAll (s old new : List UInt8) (h : s.length < 1000000 ∧ 1 ≤ old.length ∧ old.length < 1000 ∧ new.length < 1000) (m : Mem) : callL MM F.strings_ReplaceAll [.str s, .str old, .str new] m = some (.ret [.str (Lib.replaceAll s old new)] m) := by
  rw [call_prim (p := pReplaceAll) (hp := rfl)]
  simp only [pReplaceAll]
  rw [if_pos h]
theorem run_Fields (s : List UInt8) (h : s.length < 1000 ∧ s.all (fun c => c.toNat < 128) = true) (m : Mem) : callL MM F.strings_Fields [.str s] m = some (.ret [.sl false 1 ((Lib.fields s).map .str)] m) := by
  rw [call_prim (p := pFields) (hp := rfl)]
  simp only [pFields]
  rw [if_pos h]
theorem strs_inj : ∀ {l k : List (List UInt8)}, l.map V.str = k.map V.str → l = k
  | [], [], _ => rfl
  | v :: l, w :: k, h => by
    simp only [List.map_cons, List.cons.injEq, V.str.injEq] at h
    rw [h.1, strs_inj h.2]
  | [], _ :: _, h => by simp at h
  | _ :: _, [], h => by simp at h
theorem run_Join (nl : Bool) (sz : Nat) (l : List (List UInt8)) (sep : List UInt8) (h : (sz = 1 ∨ l = []) ∧ l.length < 100000 ∧ sep.length < 1000 ∧ (l.map List.length).sum < 100000000) (m : Mem) : callL MM F.strings_Join [.sl nl sz (l.map .str), .str sep] m = some (.ret [.str (Lib.join l sep)] m) := by
  rw [call_prim (p := pJoin) (hp := rfl)]
  simp only [pJoin]
  have hh : ∃ k : List (List UInt8), l.map V.str = k.map V.str ∧ (sz = 1 ∨ k = []) ∧ k.length < 100000 ∧ sep.length < 1000 ∧ (k.map List.length).sum < 100000000 := ⟨l, rfl, h.1, h.2.1, h.2.2.1, h.2.2.2⟩
  rw [dif_pos hh]
  have e : hh.choose = l := (strs_inj hh.choose_spec.1).symm
  rw [e]

theorem run_FormatBool (b : Bool) (m : Mem) : callL MM F.strconv_FormatBool [.bool b] m = some (.ret [.str (if b then [116, 114, 117, 101] else [102, 97, 108, 115, 101])] m) := by
  rw [call_strconv_FormatBool _ _ rfl]
  have h : ∀ m, callL MM F.internal_strconv_FormatBool [.bool b] m = some (.ret [.str (if b then [116, 114, 117, 101] else [102, 97, 108, 115, 101])] m) := fun m => by
    rw [call_internal_strconv_FormatBool _ _ rfl]
    cases b <;> simp [vf_internal_strconv_FormatBool]
  simp [vf_strconv_FormatBool, h]

/-! ### quoted strings -/
def quoteL (s : List UInt8) : List UInt8 := s.flatMap fun c => if c = 39 then [39, 39] else [c]
theorem index_39 (l : List UInt8) : Lib.index (39 :: l) [39] = 0 := by simp [Lib.index]
theorem index_ne (b : UInt8) (l : List UInt8) (h : b ≠ 39) : Lib.index (b :: l) [39] = if Lib.index l [39] == -1 then -1 else 1 + Lib.index l [39] := by
  simp [Lib.index, Ne.symm h]
  try omega
theorem replace_quote : ∀ s : List UInt8, Lib.replaceK [39] [39, 39] (Lib.count s [39]) s = quoteL s
  | [] => rfl
  | b :: l => by
    have ih := replace_quote l
    by_cases hb : b = 39
    · subst hb
      rw [Lib.count_cons_eq, Nat.add_comm, Lib.replaceK_hit _ _ _ _ 0 (index_39 l)]
      simp only [List.take_zero, List.nil_append, List.length_singleton, Nat.zero_add, List.drop_succ_cons, List.drop_zero]
      rw [ih]; rfl
    · rw [Lib.count_cons_ne _ _ _ hb]
      have e : quoteL (b :: l) = b :: quoteL l := by simp [quoteL, hb]
      rw [e]
      cases hc : Lib.count l [39] with
      | zero => rw [hc] at ih; simp only [Lib.replaceK] at ih ⊢; rw [← ih]
      | succ k =>
        rw [hc] at ih
        obtain ⟨i, hi⟩ := Lib.index_of_count (s := l) (old := [39]) (by omega)
        have h1 : Lib.index (b :: l) [39] = ((i + 1 : Nat) : Int) := by
          rw [index_ne b l hb, hi]
          have : ¬ (((i : Int) == -1) = true) := by simp
          rw [if_neg this]; omega
        rw [Lib.replaceK_hit _ _ _ _ i hi] at ih
        rw [Lib.replaceK_hit _ _ _ _ (i + 1) h1, ← ih]
        simp [Nat.add_right_comm]
theorem replaceAll_quote (s : List UInt8) : Lib.replaceAll s [39] [39, 39] = quoteL s := by
  rw [← replace_quote s]
  simp [Lib.replaceAll, Lib.replace, Lib.replaceNum]
theorem quoteL_len (s : List UInt8) : (quoteL s).length ≤ 2 * s.length := by
  induction s with
  | nil => simp [quoteL]
  | cons b l ih =>
    simp only [quoteL, List.flatMap_cons, List.length_append, List.length_cons] at ih ⊢
    split <;> simp only [List.length_cons, List.length_nil] <;> omega

theorem run_redo_quoted (s : List UInt8) (h : s.length < 1000000) (m : Mem) : callL MM F.redo_quoted [.str s] m = some (.ret [.str (quote s)] m) := by
  rw [call_redo_quoted _ _ rfl]
  have h1 := run_ReplaceAll s [39] [39, 39] ⟨h, by simp, by simp, by simp⟩ m
  have hl := quoteL_len s
  unfold quote
  rw [replaceAll_quote] at h1 ⊢
  have w1 : ¬ (9223372036854775807 : Int) < 1 + ((quoteL s).length : Int) := by omega
  have w2 : ¬ (9223372036854775807 : Int) < ((quoteL s).length : Int) + 1 + 1 := by omega
  simp [vf_redo_quoted, h1, binStr, w1, w2]

theorem itoa_len (n : Int) (h0 : -9223372036854775808 ≤ n) (h1 : n ≤ 9223372036854775807) : (Lib.itoa n).length ≤ 21 := Lib.itoa_length_le n h0 h1
theorem quote_len (s : List UInt8) : (quote s).length ≤ 2 * s.length + 2 := by
  unfold quote
  rw [replaceAll_quote]
  have := quoteL_len s
  simp; omega
theorem valText_len (v : Val) (h : valOK v = true) : (valText v).length ≤ 500 := by
  have hw := valOK_weight v h
  have hq := quote_len v.t
  unfold valText
  split
  · have : -9223372036854775808 ≤ v.n ∧ v.n ≤ 9223372036854775807 := by
      rename_i hk
      unfold valOK at h
      rw [if_neg (by omega), if_pos hk] at h
      simp only [Bool.and_eq_true, intOK] at h
      have h1 := of_decide_eq_true h.2.1
      have h2 := of_decide_eq_true h.2.2
      unfold big at h1 h2
      omega
    have := itoa_len v.n this.1 this.2
    omega
  · split
    · omega
    · split
      · split <;> simp
      · simp
theorem run_value_Written (v : Val) (h : valOK v = true) (m : Mem) : callL MM F.value_Written [v.toV] m = some (.ret [.str (valText v)] m) := by
  rw [call_value_Written _ _ rfl]
  have hw := valOK_weight v h
  obtain ⟨kd, n, t⟩ := v
  simp only at hw
  unfold valText
  simp only
  by_cases k1 : kd = 1
  · subst k1
    have hn : -9223372036854775808 ≤ n ∧ n ≤ 9223372036854775807 := by
      simp only [valOK, reduceIte, Int.reduceEq, Bool.and_eq_true, intOK] at h
      have h1 := of_decide_eq_true h.2.1
      have h2 := of_decide_eq_true h.2.2
      unfold big at h1 h2
      omega
    have hi := run_Itoa n hn.1 hn.2 (.cells [.int .i64 1, .int .i64 n, .str t] :: m)
    simp [vf_value_Written, Val.toV, hi]
  by_cases k2 : kd = 2
  · subst k2
    have h1 := run_ReplaceAll t [39] [39, 39] ⟨by omega, by simp, by simp, by simp⟩ (.cells [.int .i64 2, .int .i64 n, .str t] :: m)
    have hl := quoteL_len t
    unfold quote
    rw [replaceAll_quote] at h1 ⊢
    have w1 : ¬ (9223372036854775807 : Int) < 1 + ((quoteL t).length : Int) := by omega
    have w2 : ¬ (9223372036854775807 : Int) < ((quoteL t).length : Int) + 1 + 1 := by omega
    simp [vf_value_Written, Val.toV, h1, binStr, w1, w2]
  by_cases k3 : kd = 3
  · subst k3
    have hf := fun b => run_FormatBool b (.cells [.int .i64 3, .int .i64 n, .str t] :: m)
    by_cases hn : n = 1
    · subst hn; simp [vf_value_Written, Val.toV, hf]
    · simp [vf_value_Written, Val.toV, hf, hn, ibeq hn]
  simp [vf_value_Written, Val.toV, k1, k2, k3, ibeq k1, ibeq k2, ibeq k3]
theorem run_value_Text (v : Val) (h : valOK v = true) (m : Mem) : callL MM F.value_Text [v.toV] m = some (.ret [.str (valText v), .int .i64 0] m) := by
  rw [call_value_Text _ _ rfl]
  have h1 := run_value_Valid v (.cells v.toV.cells :: m)
  rw [h] at h1
  have h2 := run_value_Written v h (.cells v.toV.cells :: m)
  simp only [Val.toV, cells_agg] at *
  simp [vf_value_Text, h1, h2]
end Go.Vm.Redo
-- RT1: Walks: records as strings, the program's.
set_option maxRecDepth 100000
namespace Go.Vm.Redo
open Go Go.Vm

theorem join_len (sep : List UInt8) : ∀ l : List (List UInt8), (Lib.join l sep).length ≤ (l.map List.length).sum + sep.length * l.length
  | [] => by simp [Lib.join_nil]
  | [x] => by simp [Lib.join_one]
  | x :: y :: r => by
    have ih := join_len sep (y :: r)
    have e : Lib.join (x :: y :: r) sep = x ++ sep ++ Lib.join (y :: r) sep := by
      unfold Lib.join
      simp [List.intercalate]
    rw [e]
    simp only [List.length_append, List.map_cons, List.sum_cons, List.length_cons] at ih ⊢
    rw [Nat.mul_succ]; omega
theorem texts_sum : ∀ l : List Val, l.all valOK = true → ((l.map valText).map List.length).sum ≤ 500 * l.length
  | [], _ => by simp
  | v :: l, h => by
    simp only [List.all_cons, Bool.and_eq_true] at h
    have ih := texts_sum l h.2
    have := valText_len v h.1
    simp only [List.map_cons, List.sum_cons, List.length_cons]
    omega

theorem fieldText_len (x : Rec) (f : Int) (h : fieldOK x f = true) (hf : isF f) : (fieldText x f).length ≤ 50000 := by
  rcases hf with rfl | rfl | rfl | rfl | rfl | rfl | rfl | rfl <;> simp only [fieldOK, fieldText, reduceIte, Int.reduceEq] at h ⊢
  · unfold between at h; simp only [Bool.and_eq_true, decide_eq_true_eq] at h
    have h2 := h.2; unfold big at h2
    have := itoa_len x.txn (by omega) (by omega); omega
  · have h1 := isName_len _ h; have := quote_len x.owner; omega
  · have h1 := isName_len _ h; have := quote_len x.name; omega
  · unfold between at h; simp only [Bool.and_eq_true, decide_eq_true_eq] at h
    have h2 := h.2; unfold big at h2
    have := itoa_len x.id (by omega) (by omega); omega
  · unfold rowOK at h
    simp only [Bool.and_eq_true, decide_eq_true_eq] at h
    have h1 := texts_sum _ h.2
    have h2 := join_len [44] (x.row.vals.map valText)
    simp only [List.length_append, List.length_cons, List.length_nil, List.length_map] at h2 ⊢
    omega
  · unfold between at h; simp only [Bool.and_eq_true, decide_eq_true_eq] at h
    have h2 := h.2; unfold big at h2
    have := itoa_len x.time (by omega) (by omega); omega
  · have : x.text.length ≤ 20000 := by
      simp only [Bool.or_eq_true, Bool.and_eq_true, decide_eq_true_eq] at h
      rcases h with h | h
      · have := joint_len _ h.2; omega
      · omega
    have := quote_len x.text; omega
  · unfold between at h; simp only [Bool.and_eq_true, decide_eq_true_eq] at h
    have h2 := h.2; unfold big at h2
    have : -1099511627776 ≤ x.n := by
      have := h.1
      split at this <;> (try unfold big at this) <;> omega
    have := itoa_len x.n (by omega) (by omega); omega

/-- redo.shown. -/
theorem run_redo_shown (x : Rec) (f : Int) (hf : isF f) (h : fieldOK x f = true) (m : Mem) : callL MM F.redo_shown [x.toV, .int .i64 f] m = some (.ret [.str (fieldText x f)] m) := by
  rw [call_redo_shown _ _ rfl]
  have hI := fun n h0 h1 => run_Itoa n h0 h1 (.cells x.cells :: m)
  have hQ := fun s h => run_redo_quoted s h (.cells x.cells :: m)
  rcases hf with rfl | rfl | rfl | rfl | rfl | rfl | rfl | rfl
  · simp only [fieldOK, reduceIte, between, Bool.and_eq_true, decide_eq_true_eq] at h
    have h2 := h.2; unfold big at h2
    have h1 := hI x.txn (by omega) (by omega)
    simp only [Rec.cells, Rec.toV] at *
    simp [vf_redo_shown, h1, fieldText]
  · simp only [fieldOK, reduceIte, Int.reduceEq] at h
    have h1 := hQ x.owner (by have := isName_len _ h; omega)
    simp only [Rec.cells, Rec.toV] at *
    simp [vf_redo_shown, h1, fieldText]
  · simp only [fieldOK, reduceIte, Int.reduceEq] at h
    have h1 := hQ x.name (by have := isName_len _ h; omega)
    simp only [Rec.cells, Rec.toV] at *
    simp [vf_redo_shown, h1, fieldText]
  · simp only [fieldOK, reduceIte, Int.reduceEq, between, Bool.and_eq_true, decide_eq_true_eq] at h
    have h2 := h.2; unfold big at h2
    have h1 := hI x.id (by omega) (by omega)
    simp only [Rec.cells, Rec.toV] at *
    simp [vf_redo_shown, h1, fieldText]
  · simp only [fieldOK, reduceIte, Int.reduceEq, rowOK, Bool.and_eq_true, decide_eq_true_eq] at h
    obtain ⟨h20, hall⟩ := h
    obtain ⟨nl, sz, hrow, hsz⟩ := x.row.shape
    have hft : fieldText x 4 = [40] ++ Lib.join (x.row.vals.map valText) [44] ++ [41] := rfl
    rw [hft]
    have hxc : x.cells = [.int .i64 x.op, .int .i64 x.txn, .str x.owner, .str x.name, .int .i64 x.id, .sl nl sz (x.row.vals.map Val.toV), .int .i64 x.time, .str x.text, .int .i64 x.n] := by unfold Rec.cells; rw [hrow]
    unfold Rec.toV
    rw [hxc] at *
    generalize x.row.vals = l at *
    have hq := loop_each (cf := callL MM) (b := m.length) (L := m.length + 1 + 1) (kill := [0, 1, 2, 3, 5, 6, 7, 8, 9, 10, 11, 12, 13, 14, 18]) (c := l_redo_shown_0) l
      (fun i (out : List (List UInt8)) => [.undef, .undef, .undef, .undef, .gs (m.length + 1) out.length, .undef, .undef, .undef, .undef, .undef, .undef, .undef, .undef, .undef, .undef, .sl nl sz (l.map Val.toV), .int .i64 l.length, .int .i64 i, .undef])
      (fun _ out => .buf 1 true (out.map .str) :: .cells [.int .i64 x.op, .int .i64 x.txn, .str x.owner, .str x.name, .int .i64 x.id, .sl nl sz (l.map Val.toV), .int .i64 x.time, .str x.text, .int .i64 x.n] :: m) (fun i out => out.length = i)
      (fun rest i out => .exit 1 [.undef, .undef, .undef, .undef, .gs (m.length + 1) (out ++ rest.map valText).length, .undef, .undef, .undef, .undef, .undef, .undef, .undef, .undef, .undef, .undef, .sl nl sz (l.map Val.toV), .int .i64 l.length, .int .i64 l.length, .bool false] (.buf 1 true ((out ++ rest.map valText).map .str) :: .cells [.int .i64 x.op, .int .i64 x.txn, .str x.owner, .str x.name, .int .i64 x.id, .sl nl sz (l.map Val.toV), .int .i64 x.time, .str x.text, .int .i64 x.n] :: m))
      (fun out _ => ⟨by simp [l_redo_shown_0], rfl⟩)
      (fun i v rest out hv hd hi ho => .inr ⟨out ++ [valText v], by
        have hs : sz = 3 := by
          rcases hsz with h | h
          · exact h
          · rw [h] at hv; simp at hv
        subst hs
        have hok : valOK v = true := List.all_eq_true.1 hall v (List.mem_of_getElem? hv)
        have ht := fun m => run_value_Text v hok m
        have hw := wrap_succ (show i < 4611686018427387904 by omega)
        have c1 : (i + 1) * 16 ≤ 140737488355328 := by omega
        have c2 : i + 1 ≤ 140737488355328 := by omega
        generalize valText v = tx at *
        simp only [Val.toV] at ht
        simp [l_redo_shown_0, int_lt hi, hv, Val.toV, ht, hw, ho, c1, c2], by simp [ho], by simp⟩)
      [] [.agg [.int .i64 x.op, .int .i64 x.txn, .str x.owner, .str x.name, .int .i64 x.id, .sl nl sz (l.map Val.toV), .int .i64 x.time, .str x.text, .int .i64 x.n], .int .i64 4, .ptr m.length 0, .str [], .gs (m.length + 1) 0, .undef, .undef, .int .i64 4, .bool false, .bool false, .bool false, .bool false, .bool false, .bool false, .bool false, .sl nl sz (l.map Val.toV), .int .i64 l.length, .int .i64 0, .undef]
      (.buf 1 true [] :: .cells [.int .i64 x.op, .int .i64 x.txn, .str x.owner, .str x.name, .int .i64 x.id, .sl nl sz (l.map Val.toV), .int .i64 x.time, .str x.text, .int .i64 x.n] :: m) rfl (by simp)
    simp only [List.nil_append] at hq
    have hsum := texts_sum l hall
    have hj := fun m => run_Join (decide (l.length = 0)) 1 (l.map valText) [44] ⟨.inl rfl, by rw [List.length_map]; omega, by simp, by omega⟩ m
    have hjl := join_len [44] (l.map valText)
    simp only [List.length_map, List.length_cons, List.length_nil] at hjl
    have w1 : ¬ (9223372036854775807 : Int) < 1 + ((Lib.join (l.map valText) [44]).length : Int) := by omega
    have w2 : ¬ (9223372036854775807 : Int) < ((Lib.join (l.map valText) [44]).length : Int) + 1 + 1 := by omega
    generalize hJ : Lib.join (l.map valText) [44] = J at *
    have hl0 : (l.length == 0) = decide (l.length = 0) := by cases l <;> rfl
    generalize hT : l.map valText = T at *
    have hTl : T.length = l.length := by rw [← hT, List.length_map]
    have htk : List.take l.length (T.map V.str) = T.map V.str := List.take_of_length_le (by rw [List.length_map]; omega)
    rw [hTl] at hq
    simp [vf_redo_shown, hq, htk, hl0, hj, binStr, w1, w2, -List.length_eq_zero_iff, -decide_eq_true_eq, -beq_iff_eq]
  · simp only [fieldOK, reduceIte, Int.reduceEq, between, Bool.and_eq_true, decide_eq_true_eq] at h
    have h2 := h.2; unfold big at h2
    have h1 := hI x.time (by omega) (by omega)
    simp only [Rec.cells, Rec.toV] at *
    simp [vf_redo_shown, h1, fieldText]
  · simp only [fieldOK, reduceIte, Int.reduceEq] at h
    have : x.text.length ≤ 20000 := by
      simp only [Bool.or_eq_true, Bool.and_eq_true, decide_eq_true_eq] at h
      rcases h with h | h
      · have := joint_len _ h.2; omega
      · omega
    have h1 := hQ x.text (by omega)
    simp only [Rec.cells, Rec.toV] at *
    simp [vf_redo_shown, h1, fieldText]
  · simp only [fieldOK, reduceIte, Int.reduceEq, between, Bool.and_eq_true, decide_eq_true_eq] at h
    have h2 := h.2; unfold big at h2
    have : -1099511627776 ≤ x.n := by
      have := h.1
      split at this <;> (try unfold big at this) <;> omega
    have h1 := hI x.n (by omega) (by omega)
    simp only [Rec.cells, Rec.toV] at *
    simp [vf_redo_shown, h1, fieldText]
end Go.Vm.Redo
-- RT2: Walks: records as strings, the program's.
set_option maxRecDepth 100000
namespace Go.Vm.Redo
open Go Go.Vm

def namesL : List UInt8 := [105, 110, 115, 101, 114, 116, 32, 117, 112, 100, 97, 116, 101, 32, 100, 101, 108, 101, 116, 101, 32, 98, 97, 99, 107, 32, 99, 111, 109, 109, 105, 116, 32, 97, 98, 111, 114, 116, 32, 112, 114, 101, 112, 97, 114, 101, 32, 100, 101, 102, 32, 100, 114, 111, 112, 32, 115, 101, 114, 105, 97, 108, 32, 115, 116, 97, 114, 116]
theorem run_names (m : Mem) : callL MM F.strings_Fields [.str namesL] m = some (.ret [.sl false 1 (opNames.map .str)] m) := by
  rw [run_Fields namesL (by decide +kernel)]
  have : Lib.fields namesL = opNames := by decide +kernel
  rw [this]
theorem opName_get (op : Int) (h1 : 1 ≤ op) (h2 : op ≤ 11) : (opNames.map V.str)[(op - 1).toNat]? = some (.str (opName op)) := by
  have : op = 1 ∨ op = 2 ∨ op = 3 ∨ op = 4 ∨ op = 5 ∨ op = 6 ∨ op = 7 ∨ op = 8 ∨ op = 9 ∨ op = 10 ∨ op = 11 := by omega
  rcases this with rfl | rfl | rfl | rfl | rfl | rfl | rfl | rfl | rfl | rfl | rfl <;> rfl
theorem opName_len (op : Int) : (opName op).length ≤ 10 := by
  unfold opName
  have h : opNames.all (fun s => decide (s.length ≤ 10)) = true := by decide
  cases hg : opNames[op.toNat - 1]? with
  | none => simp [List.getD, hg]
  | some s =>
    have := List.all_eq_true.1 h s (List.mem_of_getElem? hg)
    simpa [List.getD, hg] using this

/-- redo.Text. -/
theorem run_redo_Text (x : Rec) (hx : x.Fit) (m : Mem) : callL MM F.redo_Text [x.toV] m = some (.ret (if validR x then [.str (recText x), .int .i64 0] else [.str [], .int .i64 2]) m) := by
  rw [call_redo_Text _ _ rfl]
  have hv := fun m => run_redo_Valid x hx m
  cases h : validR x with
  | false =>
    simp only [h] at hv
    simp only [Rec.cells, Rec.toV] at *
    simp [vf_redo_Text, hv]
  | true =>
    simp only [h] at hv
    obtain ⟨o1, o2, _, hall⟩ := valid_op x h
    obtain ⟨hisF, _⟩ := fields_isF x.op
    have hg := opName_get x.op o1 o2
    have hgl := opName_len x.op
    have hw1 : IntKind.i64.wrap (x.op - 1) = x.op - 1 := wrap64_id (by omega) (by omega)
    have htn : (x.op - 1).toNat = x.op.toNat - 1 := by omega
    rw [htn] at hg
    have hnm := fun m => run_names m
    simp only [namesL] at hnm
    have hF := fun m => run_redo_fields x.op m
    obtain ⟨nl', sz', hfv, hz⟩ := fieldsV_shape x.op
    have hshort := fields_getD_short x.op
    have hrec : recText x = ((fieldsOf x.op).getD []).foldl (fun out f => out ++ ([32] ++ fieldText x f)) (opName x.op) := rfl
    rw [hfv] at hF
    rw [hrec]
    generalize (fieldsOf x.op).getD [] = l at *
    have hq := loop_each (cf := callL MM) (b := m.length) (L := m.length + 1) (kill := [0, 2, 3, 5, 6, 10]) (c := l_redo_Text_0) l
      (fun i (out : List UInt8) => [.undef, .ptr m.length 0, .undef, .undef, .str out, .undef, .undef, .sl nl' sz' (l.map (.int .i64)), .int .i64 l.length, .int .i64 i, .undef])
      (fun _ _ => .cells x.cells :: m) (fun i out => out.length ≤ 10 + i * 60000)
      (fun rest i out => .exit 0 [.undef, .ptr m.length 0, .undef, .undef, .str (rest.foldl (fun out f => out ++ ([32] ++ fieldText x f)) out), .undef, .undef, .sl nl' sz' (l.map (.int .i64)), .int .i64 l.length, .int .i64 l.length, .bool false] (.cells x.cells :: m))
      (fun out _ => ⟨by simp [l_redo_Text_0], rfl⟩)
      (fun i f rest out hf hd hi ho => .inr ⟨out ++ ([32] ++ fieldText x f), by
        have hs : sz' = 1 := by
          rcases hz with h | h
          · exact h
          · rw [h] at hf; simp at hf
        subst hs
        have hmem := List.mem_of_getElem? hf
        have hsh := fun m => run_redo_shown x f (hisF f hmem) (List.all_eq_true.1 hall f hmem) m
        have hlen := fieldText_len x f (List.all_eq_true.1 hall f hmem) (hisF f hmem)
        have hw := wrap_succ (show i < 4611686018427387904 by omega)
        have hmul : i * 60000 ≤ 1000 * 60000 := Nat.mul_le_mul (by omega) (Nat.le_refl _)
        generalize fieldText x f = tx at *
        have w1 : ¬ (9223372036854775807 : Int) < 1 + (tx.length : Int) := by omega
        have w2 : ¬ (9223372036854775807 : Int) < (out.length : Int) + ((tx.length : Int) + 1) := by omega
        simp only [Rec.cells, Rec.toV] at *
        simp [l_redo_Text_0, int_lt hi, hf, hsh, hw, binStr, w1, w2], by
        have hmem := List.mem_of_getElem? hf
        have hlen := fieldText_len x f (List.all_eq_true.1 hall f hmem) (hisF f hmem)
        simp only [List.length_append, List.length_cons, List.length_nil]
        rw [Nat.succ_mul]; omega, rfl⟩)
      (opName x.op) [x.toV, .ptr m.length 0, .str [], .int .i64 0, .str (opName x.op), .undef, .bool false, .sl nl' sz' (l.map (.int .i64)), .int .i64 l.length, .int .i64 0, .undef] (.cells x.cells :: m) (by omega) (by simp [Rec.cells])
    generalize opName x.op = on at *
    simp only [Rec.cells, Rec.toV] at *
    simp [-getElem?_pos, -List.getElem?_map, -List.getD_eq_getElem?_getD, List.getElem?_cons_zero, List.getElem?_cons_succ, vf_redo_Text, hv, hnm, hw1, o1, hg, hF, hq]
end Go.Vm.Redo
-- RT3: Walks: numbers and quoted strings, the reference's.
set_option maxRecDepth 100000
namespace Go.Vm.Redo
open Go Go.Vm

theorem dec_len (u : Nat) (h : u ≤ 9223372036854775808) : (Lib.decDigits u).length ≤ 21 := by
  by_cases h1 : u ≤ 9223372036854775807
  · have := Lib.itoa_length_le (u : Int) (by omega) (by omega)
    rw [Lib.itoa_nonneg] at this; exact this
  · have : u = 9223372036854775808 := by omega
    subst this
    have := Lib.itoa_length_le (-(9223372036854775808 : Nat) : Int) (by omega) (by omega)
    rw [Lib.itoa_neg _ (by omega)] at this
    simp at this; omega
theorem dec_big (u : Nat) (h : ¬ u < 10) : Lib.decDigits u = Lib.decDigits (u / 10) ++ [UInt8.ofNat (48 + u % 10)] := by
  rw [Lib.decDigits, dif_neg h]

theorem run_Digits_nat : ∀ (k : Nat) (_ : k ≤ 9223372036854775807) (m : Mem), callL MM F.ref20_Digits [.int .i64 k] m = some (.ret [.str (Lib.decDigits k)] m) := by
  intro k
  induction k using Nat.strongRecOn with
  | ind k ih =>
    intro hk m
    rw [call_ref20_Digits _ _ rfl]
    have h1 : ¬ ((k : Int) ≤ -10) := by omega
    have h2 : ¬ ((k : Int) < 0) := by omega
    by_cases h10 : k < 10
    · have h3 : (k : Int) < 10 := by omega
      rw [Lib.decDigits_one h10]
      have hw : IntKind.i64.wrap ((k : Int) + 1) = ((k + 1 : Nat) : Int) := by rw [wrap64_id (by omega) (by omega)]; omega
      have : k = 0 ∨ k = 1 ∨ k = 2 ∨ k = 3 ∨ k = 4 ∨ k = 5 ∨ k = 6 ∨ k = 7 ∨ k = 8 ∨ k = 9 := by omega
      rcases this with rfl | rfl | rfl | rfl | rfl | rfl | rfl | rfl | rfl | rfl <;> (simp at hw; simp [vf_ref20_Digits, hw])
    · have h3 : ¬ (k : Int) < 10 := by omega
      have e1 : IntKind.i64.wrap ((k : Int) / 10) = ((k / 10 : Nat) : Int) := by
        rw [wrap64_id (by omega) (by omega)]; omega
      have e2 : (k : Int).tmod 10 = ((k % 10 : Nat) : Int) := by rw [Int.tmod_eq_emod_of_nonneg (by omega)]; omega
      have i1 := ih (k / 10) (by omega) (by omega) m
      have i2 := ih (k % 10) (by omega) (by omega) m
      have l1 := dec_len (k / 10) (by omega)
      rw [Lib.decDigits_one (show k % 10 < 10 by omega)] at i2
      rw [dec_big k h10]
      generalize Lib.decDigits (k / 10) = D at *
      have w1 : ¬ (9223372036854775807 : Int) < (D.length : Int) + 1 := by omega
      generalize ((k / 10 : Nat) : Int) = z1 at *
      generalize hz2 : ((k % 10 : Nat) : Int) = z2 at *
      simp [vf_ref20_Digits, h1, h2, h3, e1, e2, i1, i2, binStr, w1]
theorem run_Digits (n : Int) (h0 : -9223372036854775808 < n) (h1 : n ≤ 9223372036854775807) (m : Mem) : callL MM F.ref20_Digits [.int .i64 n] m = some (.ret [.str (Lib.itoa n)] m) := by
  have neg : ∀ (k : Nat) (_ : 1 ≤ k) (_ : k ≤ 9223372036854775807), callL MM F.ref20_Digits [.int .i64 (-(k : Int))] m = some (.ret [.str (45 :: Lib.decDigits k)] m) := by
    intro k
    induction k using Nat.strongRecOn with
    | ind k ih =>
      intro hk1 hk
      rw [call_ref20_Digits _ _ rfl]
      have g1 : -(k : Int) < 0 := by omega
      by_cases h10 : k < 10
      · have g2 : ¬ (-(k : Int) ≤ -10) := by omega
        have hn := run_Digits_nat k (by omega) m
        have e1 : IntKind.i64.wrap (0 - -(k : Int)) = (k : Int) := by rw [wrap64_id (by omega) (by omega)]; omega
        rw [Lib.decDigits_one h10] at hn ⊢
        have e1' : IntKind.i64.wrap (k : Int) = (k : Int) := wrap64_id (by omega) (by omega)
        have k0 : 0 < k := by omega
        have k10 : ¬ 10 ≤ k := by omega
        have k10' : ¬ (10 : Int) ≤ k := by omega
        simp [vf_ref20_Digits, g2, g1, e1, e1', hn, binStr, k0, k10, k10']
      · have g2 : (-(k : Int) ≤ -10) := by omega
        have g2' : (10 : Int) ≤ k := by omega
        have e1 : (-(k : Int)).tdiv 10 = -((k / 10 : Nat) : Int) := by
          rw [Int.neg_tdiv, Int.tdiv_eq_ediv_of_nonneg (by omega)]; omega
        have e1w : IntKind.i64.wrap (-((k / 10 : Nat) : Int)) = -((k / 10 : Nat) : Int) := wrap64_id (by omega) (by omega)
        have e2 : (-(k : Int)).tmod 10 = -((k % 10 : Nat) : Int) := by
          rw [Int.neg_tmod, Int.tmod_eq_emod_of_nonneg (by omega)]; omega
        have e2w : IntKind.i64.wrap (((k % 10 : Nat) : Int)) = ((k % 10 : Nat) : Int) := wrap64_id (by omega) (by omega)
        have i1 := ih (k / 10) (by omega) (by omega) (by omega)
        have i2 := run_Digits_nat (k % 10) (by omega) m
        have l1 := dec_len (k / 10) (by omega)
        rw [Lib.decDigits_one (show k % 10 < 10 by omega)] at i2
        rw [dec_big k h10]
        generalize Lib.decDigits (k / 10) = D at *
        have w1 : ¬ (9223372036854775807 : Int) < (D.length : Int) + 1 + 1 := by omega
        generalize ((k / 10 : Nat) : Int) = z1 at *
        generalize hz2 : ((k % 10 : Nat) : Int) = z2 at *
        simp [vf_ref20_Digits, g2, g2', Int.neg_tdiv, Int.neg_tmod] at e1 e2 ⊢
        simp [e1, e2, e1w, e2w, i1, i2, binStr, w1]
  by_cases hn : 0 ≤ n
  · obtain ⟨k, rfl⟩ : ∃ k : Nat, n = k := ⟨n.toNat, by omega⟩
    rw [Lib.itoa_nonneg]
    exact run_Digits_nat k (by omega) m
  · obtain ⟨k, hk⟩ : ∃ k : Nat, n = -(k : Int) := ⟨(-n).toNat, by omega⟩
    subst hk
    rw [Lib.itoa_neg k (by omega)]
    exact neg k (by omega) (by omega)
end Go.Vm.Redo
-- RT4: Walks: values as strings, the reference's.
set_option maxRecDepth 100000
namespace Go.Vm.Redo
open Go Go.Vm

theorem encode_low (k : Nat) (h : k < 10) : (Utf8.encode ((48 + k : Nat) : Int)).data.toList = [UInt8.ofNat (48 + k)] := by
  have : k = 0 ∨ k = 1 ∨ k = 2 ∨ k = 3 ∨ k = 4 ∨ k = 5 ∨ k = 6 ∨ k = 7 ∨ k = 8 ∨ k = 9 := by omega
  rcases this with rfl | rfl | rfl | rfl | rfl | rfl | rfl | rfl | rfl | rfl <;> decide +kernel
theorem run_digits_nat : ∀ (k : Nat) (_ : k ≤ 9223372036854775807) (m : Mem), callL MM F.ref01_digits [.int .i64 k] m = some (.ret [.str (Lib.decDigits k)] m) := by
  intro k
  induction k using Nat.strongRecOn with
  | ind k ih =>
    intro hk m
    rw [call_ref01_digits _ _ rfl]
    have h2 : ¬ ((k : Int) < 0) := by omega
    have e2 : (k : Int).tmod 10 = ((k % 10 : Nat) : Int) := by rw [Int.tmod_eq_emod_of_nonneg (by omega)]; omega
    have e3 : IntKind.i64.wrap (48 + ((k % 10 : Nat) : Int)) = ((48 + k % 10 : Nat) : Int) := by rw [wrap64_id (by omega) (by omega)]; omega
    have e4 : IntKind.i32.wrap ((48 + k % 10 : Nat) : Int) = ((48 + k % 10 : Nat) : Int) := by simp only [IntKind.wrap, IntKind.bits, IntKind.signed]; simp; omega
    have e5 := encode_low (k % 10) (by omega)
    have e1 : IntKind.i64.wrap ((k : Int) / 10) = ((k / 10 : Nat) : Int) := by
      rw [wrap64_id (by omega) (by omega)]; omega
    by_cases h10 : k < 10
    · have h3 : ¬ (10 : Int) ≤ (k : Int) := by omega
      have h3' : ¬ 10 ≤ k := by omega
      rw [Lib.decDigits_one h10]
      have hm : k % 10 = k := by omega
      rw [hm] at e2 e3 e4 e5
      generalize hz : ((48 + k : Nat) : Int) = z at *
      simp only [Int.natCast_add] at *
      simp [vf_ref01_digits, h2, h3, h3', e2, e3, e4, e5]
    · have h3 : (10 : Int) ≤ (k : Int) := by omega
      have h3' : 10 ≤ k := by omega
      have i1 := ih (k / 10) (by omega) (by omega) m
      have l1 := dec_len (k / 10) (by omega)
      rw [dec_big k h10]
      generalize Lib.decDigits (k / 10) = D at *
      have w1 : ¬ (9223372036854775807 : Int) < (D.length : Int) + 1 := by omega
      generalize ((k / 10 : Nat) : Int) = z1 at *
      generalize hz : ((48 + k % 10 : Nat) : Int) = z at *
      generalize hz2 : ((k % 10 : Nat) : Int) = z2 at *
      simp [vf_ref01_digits, h2, h3, h3', e1, e2, e3, e4, e5, i1, binStr, w1]
theorem run_digits (n : Int) (h0 : -9223372036854775808 < n) (h1 : n ≤ 9223372036854775807) (m : Mem) : callL MM F.ref01_digits [.int .i64 n] m = some (.ret [.str (Lib.itoa n)] m) := by
  by_cases hn : 0 ≤ n
  · obtain ⟨k, rfl⟩ : ∃ k : Nat, n = k := ⟨n.toNat, by omega⟩
    rw [Lib.itoa_nonneg]
    exact run_digits_nat k (by omega) m
  · obtain ⟨k, hk⟩ : ∃ k : Nat, n = -(k : Int) := ⟨(-n).toNat, by omega⟩
    subst hk
    rw [Lib.itoa_neg k (by omega)]
    have hd := run_digits_nat k (by omega) m
    have e1 : IntKind.i64.wrap (k : Int) = (k : Int) := wrap64_id (by omega) (by omega)
    have k0 : 0 < k := by omega
    have l1 := dec_len k (by omega)
    have w1 : ¬ (9223372036854775807 : Int) < 1 + ((Lib.decDigits k).length : Int) := by omega
    generalize Lib.decDigits k = D at *
    rw [call_ref01_digits _ _ rfl]
    simp [vf_ref01_digits, k0, e1, hd, binStr, w1]

theorem quoteL_app (a b : List UInt8) : quoteL (a ++ b) = quoteL a ++ quoteL b := by simp [quoteL]
theorem run_ref01_Quoted (s : List UInt8) (hs : s.length < 1000000) (m : Mem) : callL MM F.ref01_Quoted [.str s] m = some (.ret [.str (quote s)] m) := by
  rw [call_ref01_Quoted _ _ rfl]
  have hq := loop_each (cf := callL MM) (b := m.length) (L := m.length + 1) (kill := [1, 4, 5]) (c := l_ref01_Quoted_0) s
    (fun i (out : List UInt8) => [.str s, .undef, .gs m.length out.length, .int .i64 i, .undef, .undef])
    (fun _ out => .buf 1 false (bytesV out) :: m) (fun i out => out.length ≤ 1 + 2 * i)
    (fun rest i out => .exit 0 [.str s, .undef, .gs m.length (out ++ quoteL rest).length, .int .i64 s.length, .bool false, .undef] (.buf 1 false (bytesV (out ++ quoteL rest)) :: m))
    (fun out _ => ⟨by simp [l_ref01_Quoted_0, quoteL], rfl⟩)
    (fun i c rest out hc hd hi ho => .inr ⟨out ++ quoteL [c], by
      have hw := wrap_succ (show i < 4611686018427387904 by omega)
      have b39 : ((c.toNat : Int) == 39) = decide (c = 39) := u8_beq c 39 (by omega)
      have c1 : out.length + 1 ≤ 140737488355328 := by omega
      have c2 : out.length + 1 + 1 ≤ 140737488355328 := by omega
      by_cases h39 : c = 39
      · subst h39
        have e : bytesV (out ++ quoteL [39]) = bytesV out ++ [.int .u8 39] ++ [.int .u8 39] := by rw [bytesV_append]; simp [quoteL, bytesV]
        rw [e]
        simp [l_ref01_Quoted_0, int_lt hi, hc, hw, c1, c2, bytesV_len, quoteL]
      · have e : bytesV (out ++ quoteL [c]) = bytesV out ++ [.int .u8 c.toNat] := by rw [bytesV_append]; simp [quoteL, bytesV, h39]
        rw [e]
        simp [l_ref01_Quoted_0, int_lt hi, hc, hw, c1, c2, bytesV_len, quoteL, b39, h39], by
      have := quoteL_len [c]
      simp only [List.length_append, List.length_cons, List.length_nil] at this ⊢; omega, by
      have : quoteL (c :: rest) = quoteL [c] ++ quoteL rest := quoteL_app [c] rest
      simp only [this, List.append_assoc]⟩)
    [39] [.str s, .str [], .gs m.length 1, .int .i64 0, .undef, .undef] (.buf 1 false [.int .u8 39] :: m) (by simp) (by simp; rfl)
  have hl := quoteL_len s
  have c1 : ([39] ++ quoteL s).length + 1 ≤ 140737488355328 := by simp; omega
  have e : bytesV ([39] ++ quoteL s) ++ [.int .u8 39] = bytesV (quote s) := by
    unfold quote
    rw [replaceAll_quote, bytesV_append ([39] ++ quoteL s)]; rfl
  have hql : (quote s).length = ([39] ++ quoteL s).length + 1 := by unfold quote; rw [replaceAll_quote, List.length_append]; rfl
  generalize [39] ++ quoteL s = Q at *
  have ht : List.take (Q.length + 1) (bytesV (quote s)) = bytesV (quote s) := List.take_of_length_le (by rw [bytesV_len]; omega)
  simp [vf_ref01_Quoted, hq, c1, bytesV_len, e, ht, strOf_bytes]

theorem run_ref20_quoted (s : List UInt8) (hs : s.length < 1000000) (m : Mem) : callL MM F.ref20_quoted [.str s] m = some (.ret [.str (quote s)] m) := by
  rw [call_ref20_quoted _ _ rfl]
  have hq := loop_each (cf := callL MM) (b := m.length) (L := m.length) (kill := [1, 3, 6, 7]) (c := l_ref20_quoted_0) s
    (fun i (out : List UInt8) => [.str s, .undef, .str out, .undef, .int .i64 s.length, .int .i64 i, .undef, .undef])
    (fun _ out => m) (fun i out => out.length ≤ 1 + 2 * i)
    (fun rest i out => .exit 0 [.str s, .undef, .str (out ++ quoteL rest), .undef, .int .i64 s.length, .int .i64 s.length, .bool false, .undef] m)
    (fun out _ => ⟨by simp [l_ref20_quoted_0, quoteL], rfl⟩)
    (fun i c rest out hc hd hi ho => .inr ⟨out ++ quoteL [c], by
      have hw := wrap_succ (show i < 4611686018427387904 by omega)
      have b39 : ((c.toNat : Int) == 39) = decide (c = 39) := u8_beq c 39 (by omega)
      have hle : i + 1 ≤ s.length := by omega
      have hle' : (i : Int) + 1 ≤ (s.length : Int) := by omega
      have p1 : (0 : Int) ≤ (i : Int) + 1 := by omega
      have tn : ((i : Int) + 1).toNat = i + 1 := by omega
      have ple : (i : Int) ≤ (i : Int) + 1 := by omega
      have hsub : (s.take (i + 1)).drop i = [c] := by
        rw [List.drop_take, hd]; simp
      have w1 : ¬ (9223372036854775807 : Int) < (out.length : Int) + 1 := by omega
      have w2 : ¬ (9223372036854775807 : Int) < (out.length : Int) + 1 + 1 := by omega
      by_cases h39 : c = 39
      · subst h39
        simp [l_ref20_quoted_0, int_lt hi, hc, hw, quoteL, binStr, w1, w2, hle, hle', p1, tn, ple, hsub]
      · simp [l_ref20_quoted_0, int_lt hi, hc, hw, quoteL, b39, h39, binStr, w1, w2, hle, hle', p1, tn, ple, hsub], by
      have := quoteL_len [c]
      simp only [List.length_append, List.length_cons, List.length_nil] at this ⊢; omega, by
      have : quoteL (c :: rest) = quoteL [c] ++ quoteL rest := quoteL_app [c] rest
      simp only [this, List.append_assoc]⟩)
    [39] [.str s, .str [], .str [39], .undef, .int .i64 s.length, .int .i64 0, .undef, .undef] m (by simp) (by simp)
  have hl := quoteL_len s
  have w1 : ¬ (9223372036854775807 : Int) < (([39] ++ quoteL s).length : Int) + 1 := by simp; omega
  have e : quote s = [39] ++ quoteL s ++ [39] := by unfold quote; rw [replaceAll_quote]
  rw [e]
  generalize [39] ++ quoteL s = Q at *
  simp [vf_ref20_quoted, hq, binStr, w1]

theorem run_ref01_Text (v : Val) (h : valOK v = true) (m : Mem) : callL MM F.ref01_Text [v.toV] m = some (.ret [.str (valText v), .int .i64 0] m) := by
  rw [call_ref01_Text _ _ rfl]
  have hw := valOK_weight v h
  have h1 := run_ref01_Valid v (by omega) (.cells v.toV.cells :: m)
  rw [h] at h1
  obtain ⟨kd, n, t⟩ := v
  simp only at hw
  simp only [Val.toV, cells_agg] at h1
  unfold valText
  simp only
  by_cases k0 : kd = 0
  · subst k0; simp [vf_ref01_Text, Val.toV, h1]
  by_cases k1 : kd = 1
  · subst k1
    have hn : -9223372036854775808 < n ∧ n ≤ 9223372036854775807 := by
      simp only [valOK, reduceIte, Int.reduceEq, Bool.and_eq_true, intOK] at h
      have h1 := of_decide_eq_true h.2.1
      have h2 := of_decide_eq_true h.2.2
      unfold big at h1 h2
      omega
    have hi := run_digits n hn.1 hn.2 (.cells [.int .i64 1, .int .i64 n, .str t] :: m)
    simp [vf_ref01_Text, Val.toV, h1, hi]
  by_cases k2 : kd = 2
  · subst k2
    have hi := run_ref01_Quoted t (by omega) (.cells [.int .i64 2, .int .i64 n, .str t] :: m)
    simp [vf_ref01_Text, Val.toV, h1, hi]
  have k3 : kd = 3 := by
    unfold valOK at h
    simp only at h
    rw [if_neg k0, if_neg k1, if_neg k2] at h
    split at h
    · assumption
    · cases h
  subst k3
  by_cases hn : n = 1
  · subst hn; simp [vf_ref01_Text, Val.toV, h1]
  · simp [vf_ref01_Text, Val.toV, h1, hn, ibeq hn]
end Go.Vm.Redo
-- RT5: Walks: records as strings, the reference's.
set_option maxRecDepth 100000
namespace Go.Vm.Redo
open Go Go.Vm

def jr (l : List (List UInt8)) : List UInt8 := l.flatMap fun t => 44 :: t
theorem join_jr : ∀ (x : List UInt8) (r : List (List UInt8)), Lib.join (x :: r) [44] = x ++ jr r
  | x, [] => by simp [Lib.join_one, jr]
  | x, y :: r => by
    have ih := join_jr y r
    have e : Lib.join (x :: y :: r) [44] = x ++ [44] ++ Lib.join (y :: r) [44] := by
      unfold Lib.join
      simp [List.intercalate]
    rw [e, ih]
    simp [jr]
/-- What is still to come of a row's string, from place i on. -/
def restJ (i : Nat) (l : List Val) : List UInt8 := if i = 0 then Lib.join (l.map valText) [44] else jr (l.map valText)
theorem restJ_cons (i : Nat) (v : Val) (l : List Val) : restJ i (v :: l) = (if i = 0 then [] else [44]) ++ valText v ++ restJ (i + 1) l := by
  unfold restJ
  by_cases h : i = 0
  · subst h; simp [join_jr]
  · simp [h, jr]

theorem text_rows (x : Rec) (m : Mem) (nl : Bool) (sz : Nat) (ls : List UInt8) (i : Nat) (l : List Val) (hsz : sz = 3 ∨ l = []) (h20 : l.length ≤ 20) (hall : l.all valOK = true) (o : List UInt8) (ho : o.length ≤ 1000000) (w6 w14 w15 w16 w17 w18 w19 : V) :
    loopL (callL MM) m.length (m.length + 1) [0, 2, 3, 6, 7, 8, 9, 10, 13, 14, 15, 16, 17, 18, 19, 23, 24, 25, 26] l_ref20_Text_0
      [.undef, .ptr m.length 0, .undef, .undef, .str o, .str ls, w6, .undef, .undef, .undef, .undef, .int .i64 ls.length, .int .i64 i, .bool true, w14, w15, w16, w17, w18, w19, .sl nl sz (l.map Val.toV), .int .i64 l.length, .int .i64 0, .undef, .undef, .undef, .undef] (.cells [.int .i64 x.op, .int .i64 x.txn, .str x.owner, .str x.name, .int .i64 x.id, .sl nl sz (l.map Val.toV), .int .i64 x.time, .str x.text, .int .i64 x.n] :: m) =
      some (.exit 3 [.undef, .ptr m.length 0, .undef, .undef, .str (o ++ Lib.join (l.map valText) [44]), .str ls, .undef, .undef, .undef, .undef, .undef, .int .i64 ls.length, .int .i64 i, .undef, .undef, .undef, .undef, .undef, .undef, .undef, .sl nl sz (l.map Val.toV), .int .i64 l.length, .int .i64 l.length, .bool false, .undef, .undef, .undef] (.cells [.int .i64 x.op, .int .i64 x.txn, .str x.owner, .str x.name, .int .i64 x.id, .sl nl sz (l.map Val.toV), .int .i64 x.time, .str x.text, .int .i64 x.n] :: m)) := by
  refine loop_each l (fun k (o : List UInt8) => [.undef, .ptr m.length 0, .undef, .undef, .str o, .str ls, .undef, .undef, .undef, .undef, .undef, .int .i64 ls.length, .int .i64 i, .undef, .undef, .undef, .undef, .undef, .undef, .undef, .sl nl sz (l.map Val.toV), .int .i64 l.length, .int .i64 k, .undef, .undef, .undef, .undef]) (fun _ _ => .cells [.int .i64 x.op, .int .i64 x.txn, .str x.owner, .str x.name, .int .i64 x.id, .sl nl sz (l.map Val.toV), .int .i64 x.time, .str x.text, .int .i64 x.n] :: m) (fun k o => o.length ≤ 1000000 + k * 501)
    (fun rest k o => .exit 3 [.undef, .ptr m.length 0, .undef, .undef, .str (o ++ restJ k rest), .str ls, .undef, .undef, .undef, .undef, .undef, .int .i64 ls.length, .int .i64 i, .undef, .undef, .undef, .undef, .undef, .undef, .undef, .sl nl sz (l.map Val.toV), .int .i64 l.length, .int .i64 l.length, .bool false, .undef, .undef, .undef] (.cells [.int .i64 x.op, .int .i64 x.txn, .str x.owner, .str x.name, .int .i64 x.id, .sl nl sz (l.map Val.toV), .int .i64 x.time, .str x.text, .int .i64 x.n] :: m))
    (fun o _ => ⟨?_, rfl⟩) (fun k v rest o hv hd hk ho => .inr ⟨o ++ ((if k = 0 then [] else [44]) ++ valText v), ?_, ?_, ?_⟩) o _ _ (by omega) (by simp)
  · have : restJ l.length [] = [] := by unfold restJ; split <;> rfl
    rw [this]
    simp [l_ref20_Text_0]
  · have hs : sz = 3 := by
      rcases hsz with h | h
      · exact h
      · rw [h] at hv; simp at hv
    subst hs
    have hok : valOK v = true := List.all_eq_true.1 hall v (List.mem_of_getElem? hv)
    have ht := fun m => run_ref01_Text v hok m
    have hl := valText_len v hok
    have hw := wrap_succ (show k < 4611686018427387904 by omega)
    have hmul : k * 501 ≤ 20 * 501 := Nat.mul_le_mul (by omega) (Nat.le_refl _)
    generalize valText v = tx at *
    have w1 : ¬ (9223372036854775807 : Int) < (o.length : Int) + 1 := by omega
    have w2 : ¬ (9223372036854775807 : Int) < (o.length : Int) + (tx.length : Int) := by omega
    have w3 : ¬ (9223372036854775807 : Int) < (o.length : Int) + 1 + (tx.length : Int) := by omega
    have w3' : ¬ (9223372036854775807 : Int) < (o.length : Int) + ((tx.length : Int) + 1) := by omega
    simp only [Val.toV] at ht
    by_cases h0 : k = 0
    · subst h0
      have hw1 : IntKind.i64.wrap 1 = 1 := by simpa using hw
      simp [-getElem?_pos, -List.getD_eq_getElem?_getD, List.getElem?_cons_zero, List.getElem?_cons_succ, l_ref20_Text_0, hk, hv, Val.toV, ht, binStr, w1, w2, w3, hw1]
    · have hp : 0 < k := by omega
      simp [l_ref20_Text_0, int_lt hk, hv, Val.toV, ht, hw, binStr, w1, w2, w3, w3', h0, hp]
  · have hok : valOK v = true := List.all_eq_true.1 hall v (List.mem_of_getElem? hv)
    have hl := valText_len v hok
    rw [List.length_append, List.length_append, Nat.succ_mul]
    split <;> simp <;> omega
  · rw [restJ_cons]; simp

theorem run_ref20_word (op : Int) (h1 : 1 ≤ op) (h2 : op ≤ 11) (m : Mem) : callL MM F.ref20_word [.int .i64 op] m = some (.ret [.str (opName op)] m) := by
  rw [call_ref20_word _ _ rfl]
  have : op = 1 ∨ op = 2 ∨ op = 3 ∨ op = 4 ∨ op = 5 ∨ op = 6 ∨ op = 7 ∨ op = 8 ∨ op = 9 ∨ op = 10 ∨ op = 11 := by omega
  rcases this with rfl | rfl | rfl | rfl | rfl | rfl | rfl | rfl | rfl | rfl | rfl <;> simp [vf_ref20_word, opName, opNames]

theorem text_round (x : Rec) (m : Mem) (ls : List UInt8) (i : Nat) (c : UInt8) (hc : ls[i]? = some c) (hi : i < ls.length) (hl : ls.length < 1000) (o : List UInt8) (ho : o.length ≤ 900000) (hok : fieldOK x (letterF c) = true) (hop : letterF c = 6 → c ≠ 84 ∧ c ≠ 79 ∧ c ≠ 78 ∧ c ≠ 73 ∧ c ≠ 82 ∧ c ≠ 66 ∧ c ≠ 77 ∧ c ≠ 67) :
    rnd (callL MM) m.length (m.length + 1) [0, 2, 3, 6, 7, 8, 9, 10, 13, 14, 15, 16, 17, 18, 19, 20, 21, 22, 23, 24, 25, 26] l_ref20_Text_1 [.undef, .ptr m.length 0, .undef, .undef, .str o, .str ls, .undef, .undef, .undef, .undef, .undef, .int .i64 ls.length, .int .i64 i, .undef, .undef, .undef, .undef, .undef, .undef, .undef, .undef, .undef, .undef, .undef, .undef, .undef, .undef] (.cells x.cells :: m) =
      some ([.undef, .ptr m.length 0, .undef, .undef, .str (o ++ ([32] ++ fieldText x (letterF c))), .str ls, .undef, .undef, .undef, .undef, .undef, .int .i64 ls.length, .int .i64 ((i + 1 : Nat) : Int), .undef, .undef, .undef, .undef, .undef, .undef, .undef, .undef, .undef, .undef, .undef, .undef, .undef, .undef], .cells x.cells :: m) := by
  have hw := wrap_succ (show i < 4611686018427387904 by omega)
  have hlen := fieldText_len x (letterF c) hok (by unfold letterF; repeat' split
                                                   all_goals simp [isF])
  have b84 : ((c.toNat : Int) == 84) = decide (c = 84) := u8_beq c 84 (by omega)
  have b79 : ((c.toNat : Int) == 79) = decide (c = 79) := u8_beq c 79 (by omega)
  have b78 : ((c.toNat : Int) == 78) = decide (c = 78) := u8_beq c 78 (by omega)
  have b73 : ((c.toNat : Int) == 73) = decide (c = 73) := u8_beq c 73 (by omega)
  have b82 : ((c.toNat : Int) == 82) = decide (c = 82) := u8_beq c 82 (by omega)
  have b66 : ((c.toNat : Int) == 66) = decide (c = 66) := u8_beq c 66 (by omega)
  have b77 : ((c.toNat : Int) == 77) = decide (c = 77) := u8_beq c 77 (by omega)
  have b67 : ((c.toNat : Int) == 67) = decide (c = 67) := u8_beq c 67 (by omega)
  have w1 : ¬ (9223372036854775807 : Int) < (o.length : Int) + 1 := by omega
  have hD := fun n h0 h1 => run_Digits n h0 h1 (.cells x.cells :: m)
  have hQ := fun s h => run_ref20_quoted s h (.cells x.cells :: m)
  have hi' := int_lt hi
  by_cases c84 : c = 84
  · subst c84
    have e : letterF 84 = 0 := rfl
    rw [e] at hok hlen ⊢
    simp only [fieldOK, reduceIte, Int.reduceEq, between, Bool.and_eq_true, decide_eq_true_eq] at hok
    have h2 := hok.2; unfold big at h2
    have h1 := hD x.txn (by omega) (by omega)
    have e2 : fieldText x 0 = Lib.itoa x.txn := rfl
    rw [e2] at hlen ⊢
    have w2 : ¬ (9223372036854775807 : Int) < (o.length : Int) + 1 + ((Lib.itoa x.txn).length : Int) := by omega
    generalize Lib.itoa x.txn = tx at *
    simp only [Rec.cells] at *
    simp [l_ref20_Text_1, hi', hc, h1, hw, binStr, w1, w2]
  by_cases c79 : c = 79
  · subst c79
    have e : letterF 79 = 1 := rfl
    rw [e] at hok hlen ⊢
    simp only [fieldOK, reduceIte, Int.reduceEq] at hok
    have h1 := hQ x.owner (by have := isName_len _ hok; omega)
    have e2 : fieldText x 1 = quote x.owner := rfl
    rw [e2] at hlen ⊢
    have w2 : ¬ (9223372036854775807 : Int) < (o.length : Int) + 1 + ((quote x.owner).length : Int) := by omega
    generalize quote x.owner = tx at *
    simp only [Rec.cells] at *
    simp [l_ref20_Text_1, hi', hc, h1, hw, binStr, w1, w2]
  by_cases c78 : c = 78
  · subst c78
    have e : letterF 78 = 2 := rfl
    rw [e] at hok hlen ⊢
    simp only [fieldOK, reduceIte, Int.reduceEq] at hok
    have h1 := hQ x.name (by have := isName_len _ hok; omega)
    have e2 : fieldText x 2 = quote x.name := rfl
    rw [e2] at hlen ⊢
    have w2 : ¬ (9223372036854775807 : Int) < (o.length : Int) + 1 + ((quote x.name).length : Int) := by omega
    generalize quote x.name = tx at *
    simp only [Rec.cells] at *
    simp [l_ref20_Text_1, hi', hc, h1, hw, binStr, w1, w2]
  by_cases c73 : c = 73
  · subst c73
    have e : letterF 73 = 3 := rfl
    rw [e] at hok hlen ⊢
    simp only [fieldOK, reduceIte, Int.reduceEq, between, Bool.and_eq_true, decide_eq_true_eq] at hok
    have h2 := hok.2; unfold big at h2
    have h1 := hD x.id (by omega) (by omega)
    have e2 : fieldText x 3 = Lib.itoa x.id := rfl
    rw [e2] at hlen ⊢
    have w2 : ¬ (9223372036854775807 : Int) < (o.length : Int) + 1 + ((Lib.itoa x.id).length : Int) := by omega
    generalize Lib.itoa x.id = tx at *
    simp only [Rec.cells] at *
    simp [l_ref20_Text_1, hi', hc, h1, hw, binStr, w1, w2]
  by_cases c82 : c = 82
  · subst c82
    have e : letterF 82 = 4 := rfl
    rw [e] at hok hlen ⊢
    simp only [fieldOK, reduceIte, Int.reduceEq, rowOK, Bool.and_eq_true, decide_eq_true_eq] at hok
    obtain ⟨h20, hall⟩ := hok
    obtain ⟨nl, sz, hrow, hsz⟩ := x.row.shape
    have hft : fieldText x 4 = [40] ++ Lib.join (x.row.vals.map valText) [44] ++ [41] := rfl
    rw [hft] at hlen ⊢
    have hxc : x.cells = [.int .i64 x.op, .int .i64 x.txn, .str x.owner, .str x.name, .int .i64 x.id, .sl nl sz (x.row.vals.map Val.toV), .int .i64 x.time, .str x.text, .int .i64 x.n] := by unfold Rec.cells; rw [hrow]
    rw [hxc]
    generalize x.row.vals = l at *
    have hq := text_rows x m nl sz ls i l hsz h20 hall (o ++ [32] ++ [40]) (by simp; omega) (.int .i64 i) (.int .u8 82) (.bool false) (.bool false) (.bool false) (.bool false) (.bool true)
    generalize Lib.join (l.map valText) [44] = J at *
    simp only [List.length_append, List.length_cons, List.length_nil] at hlen
    have w2 : ¬ (9223372036854775807 : Int) < (o.length : Int) + 1 + 1 := by omega
    have w3 : ¬ (9223372036854775807 : Int) < (o.length : Int) + 1 + 1 + (J.length : Int) + 1 := by omega
    have w3' : ¬ (9223372036854775807 : Int) < (o.length : Int) + ((J.length : Int) + 1 + 1) + 1 := by omega
    simp only [List.append_assoc, List.cons_append, List.nil_append] at hq
    simp [l_ref20_Text_1, hi', hc, hq, hw, binStr, w1, w2, w3, w3']
  by_cases c66 : c = 66
  · subst c66
    have e : letterF 66 = 7 := rfl
    rw [e] at hok hlen ⊢
    simp only [fieldOK, reduceIte, Int.reduceEq, between, Bool.and_eq_true, decide_eq_true_eq] at hok
    have h2 := hok.2; unfold big at h2
    have : -1099511627776 ≤ x.n := by
      have := hok.1
      split at this <;> (try unfold big at this) <;> omega
    have h1 := hD x.n (by omega) (by omega)
    have e2 : fieldText x 7 = Lib.itoa x.n := rfl
    rw [e2] at hlen ⊢
    have w2 : ¬ (9223372036854775807 : Int) < (o.length : Int) + 1 + ((Lib.itoa x.n).length : Int) := by omega
    generalize Lib.itoa x.n = tx at *
    simp only [Rec.cells] at *
    simp [l_ref20_Text_1, hi', hc, h1, hw, binStr, w1, w2]
  by_cases c77 : c = 77
  · subst c77
    have e : letterF 77 = 7 := rfl
    rw [e] at hok hlen ⊢
    simp only [fieldOK, reduceIte, Int.reduceEq, between, Bool.and_eq_true, decide_eq_true_eq] at hok
    have h2 := hok.2; unfold big at h2
    have : -1099511627776 ≤ x.n := by
      have := hok.1
      split at this <;> (try unfold big at this) <;> omega
    have h1 := hD x.n (by omega) (by omega)
    have e2 : fieldText x 7 = Lib.itoa x.n := rfl
    rw [e2] at hlen ⊢
    have w2 : ¬ (9223372036854775807 : Int) < (o.length : Int) + 1 + ((Lib.itoa x.n).length : Int) := by omega
    generalize Lib.itoa x.n = tx at *
    simp only [Rec.cells] at *
    simp [l_ref20_Text_1, hi', hc, h1, hw, binStr, w1, w2]
  by_cases c67 : c = 67
  · subst c67
    have e : letterF 67 = 5 := rfl
    rw [e] at hok hlen ⊢
    simp only [fieldOK, reduceIte, Int.reduceEq, between, Bool.and_eq_true, decide_eq_true_eq] at hok
    have h2 := hok.2; unfold big at h2
    have h1 := hD x.time (by omega) (by omega)
    have e2 : fieldText x 5 = Lib.itoa x.time := rfl
    rw [e2] at hlen ⊢
    have w2 : ¬ (9223372036854775807 : Int) < (o.length : Int) + 1 + ((Lib.itoa x.time).length : Int) := by omega
    generalize Lib.itoa x.time = tx at *
    simp only [Rec.cells] at *
    simp [l_ref20_Text_1, hi', hc, h1, hw, binStr, w1, w2]
  have e : letterF c = 6 := by simp [letterF, c84, c79, c78, c73, c82, c66, c77, c67]
  rw [e] at hok hlen ⊢
  simp only [fieldOK, reduceIte, Int.reduceEq] at hok
  have : x.text.length ≤ 20000 := by
    simp only [Bool.or_eq_true, Bool.and_eq_true, decide_eq_true_eq] at hok
    rcases hok with h | h
    · have := joint_len _ h.2; omega
    · omega
  have h1 := hQ x.text (by omega)
  have e2 : fieldText x 6 = quote x.text := rfl
  rw [e2] at hlen ⊢
  have w2 : ¬ (9223372036854775807 : Int) < (o.length : Int) + 1 + ((quote x.text).length : Int) := by omega
  generalize quote x.text = tx at *
  simp only [Rec.cells] at *
  simp [l_ref20_Text_1, hi', hc, h1, hw, binStr, w1, w2, b84, b79, b78, b73, b82, b66, b77, b67, c84, c79, c78, c73, c82, c66, c77, c67]
end Go.Vm.Redo
-- RT6: Walks: records as strings, the reference's.
set_option maxRecDepth 100000
namespace Go.Vm.Redo
open Go Go.Vm

theorem letters_six (op : Int) : ∀ c ∈ (lettersOf op).getD [], letterF c = 6 → c ≠ 84 ∧ c ≠ 79 ∧ c ≠ 78 ∧ c ≠ 73 ∧ c ≠ 82 ∧ c ≠ 66 ∧ c ≠ 77 ∧ c ≠ 67 := by
  intro c _ h
  unfold letterF at h
  refine ⟨?_, ?_, ?_, ?_, ?_, ?_, ?_, ?_⟩ <;> rintro rfl <;> revert h <;> decide
theorem letters_map (op : Int) : ((lettersOf op).getD []).map letterF = (fieldsOf op).getD [] := by
  rw [← letters_fields]
  cases lettersOf op <;> rfl

/-- justiciarref20.Text. -/
theorem run_ref20_Text (x : Rec) (hx : x.Fit) (m : Mem) : callL MM F.ref20_Text [x.toV] m = some (.ret (if validR x then [.str (recText x), .int .i64 0] else [.str [], .int .i64 2]) m) := by
  rw [call_ref20_Text _ _ rfl]
  have hv := fun m => run_ref20_Valid x hx m
  cases h : validR x with
  | false =>
    simp only [h] at hv
    simp only [Rec.cells, Rec.toV] at *
    simp [vf_ref20_Text, hv]
  | true =>
    simp only [h] at hv
    obtain ⟨o1, o2, _, hall⟩ := valid_op x h
    have hgl := opName_len x.op
    have hwd := fun m => run_ref20_word x.op o1 o2 m
    have hF := fun m => run_ref20_Fields x.op m
    have hshort := letters_short x.op
    have hsix := letters_six x.op
    have hlok : ∀ c ∈ (lettersOf x.op).getD [], fieldOK x (letterF c) = true := fun c hc => List.all_eq_true.1 hall _ (by rw [← letters_map]; exact List.mem_map_of_mem hc)
    have hisF : ∀ c ∈ (lettersOf x.op).getD [], isF (letterF c) := fun c hc => (fields_isF x.op).1 _ (by rw [← letters_map]; exact List.mem_map_of_mem hc)
    have hrec : recText x = ((lettersOf x.op).getD []).foldl (fun out c => out ++ ([32] ++ fieldText x (letterF c))) (opName x.op) := by
      unfold recText
      rw [← letters_map, List.foldl_map]
    have h5 : ((lettersOf x.op).getD []).length ≤ 5 := by
      unfold lettersOf
      repeat' split
      all_goals decide
    rw [hrec]
    generalize (lettersOf x.op).getD [] = ls at *
    generalize (lettersOf x.op).isSome = ok at *
    have hq := loop_each (cf := callL MM) (b := m.length) (L := m.length + 1) (kill := [0, 2, 3, 6, 7, 8, 9, 10, 13, 14, 15, 16, 17, 18, 19, 20, 21, 22, 23, 24, 25, 26]) (c := l_ref20_Text_1) ls
      (fun i (o : List UInt8) => [.undef, .ptr m.length 0, .undef, .undef, .str o, .str ls, .undef, .undef, .undef, .undef, .undef, .int .i64 ls.length, .int .i64 i, .undef, .undef, .undef, .undef, .undef, .undef, .undef, .undef, .undef, .undef, .undef, .undef, .undef, .undef])
      (fun _ _ => .cells x.cells :: m) (fun i o => o.length ≤ 10 + i * 50001)
      (fun rest i o => .exit 0 [.undef, .ptr m.length 0, .undef, .undef, .str (rest.foldl (fun out c => out ++ ([32] ++ fieldText x (letterF c))) o), .str ls, .undef, .undef, .undef, .undef, .undef, .int .i64 ls.length, .int .i64 ls.length, .bool false, .undef, .undef, .undef, .undef, .undef, .undef, .undef, .undef, .undef, .undef, .undef, .undef, .undef] (.cells x.cells :: m))
      (fun o _ => ⟨by simp [l_ref20_Text_1], rfl⟩)
      (fun i c rest o hc hd hi ho => .inr ⟨o ++ ([32] ++ fieldText x (letterF c)), by
        have hmem := List.mem_of_getElem? hc
        have hmul : i * 50001 ≤ 5 * 50001 := Nat.mul_le_mul (by omega) (Nat.le_refl _)
        exact text_round x m ls i c hc hi (by omega) o (by omega) (hlok c hmem) (hsix c hmem), by
        have hmem := List.mem_of_getElem? hc
        have hlen := fieldText_len x (letterF c) (hlok c hmem) (hisF c hmem)
        simp only [List.length_append, List.length_cons, List.length_nil]
        rw [Nat.succ_mul]; omega, rfl⟩)
      (opName x.op) [x.toV, .ptr m.length 0, .str [], .int .i64 0, .str (opName x.op), .str ls, .undef, .undef, .undef, .undef, .bool false, .int .i64 ls.length, .int .i64 0, .undef, .undef, .undef, .undef, .undef, .undef, .undef, .undef, .undef, .undef, .undef, .undef, .undef, .undef] (.cells x.cells :: m) (by omega) (by simp [Rec.cells])
    generalize opName x.op = on at *
    simp only [Rec.cells, Rec.toV] at *
    simp [vf_ref20_Text, hv, hwd, hF, hq]
end Go.Vm.Redo
-- RZ0: Walks: the fixed calls.
set_option maxRecDepth 100000
namespace Go.Vm.Redo
open Go Go.Vm

def rowX : List Val := [⟨1, -1, []⟩, ⟨2, 0, [105, 116, 39, 115]⟩, ⟨0, 0, []⟩, ⟨3, 1, []⟩]
def recX : Rec := { op := 1, txn := 1, owner := [97], name := [116], id := 2, row := .mk rowX }
def recS : Rec := { op := 11 }
def recT : Rec := { op := 11, txn := 1 }
def bS : List UInt8 := [0, 5, 11, 0, 0, 0, 43]
def bX : List UInt8 := encB recX
def textX : List UInt8 := [105, 110, 115, 101, 114, 116, 32, 49, 32, 39, 97, 39, 32, 39, 116, 39, 32, 50, 32, 40, 45, 49, 44, 39, 105, 116, 39, 39, 115, 39, 44, 110, 117, 108, 108, 44, 116, 114, 117, 101, 41]
theorem bS_len : bS.length = 7 := rfl
theorem bX_len : bX.length = 49 := by kernel_rfl
theorem encS : encode recS = (some bS, 0) := by kernel_rfl
theorem encX : encode recX = (some bX, 0) := by kernel_rfl
theorem encT : encode recT = (none, 2) := by kernel_rfl
theorem decX : decode bX = (recX, 49, 0) := by kernel_rfl
theorem dec3 : decode (bS.take 3) = ({ op := 0 }, 0, 31) := by kernel_rfl
theorem dec4 : decode [0, 1, 0] = ({ op := 0 }, 0, 30) := by kernel_rfl
theorem readSX : readF 56 (bS ++ bX) = ([recS, recX], 56) := by kernel_rfl
theorem cut6 : cut bS 6 = (some [], 0) := by kernel_rfl
theorem cut9 : cut bS 9 = (none, 21) := by kernel_rfl
theorem validX : validR recX = true := by kernel_rfl
theorem textX_eq : recText recX = textX := by kernel_rfl
theorem sameX : sameR recX recX = true := by kernel_rfl
theorem fitX : recX.Fit := valid_fit recX validX

theorem run_Int (n : Int) (m : Mem) : callL MM1 F.ref01_Int [.int .i64 n] m = some (.ret [.agg [.int .i64 1, .int .i64 n, .str []]] m) := by
  rw [call1 vfun_ref01_Int rfl _ _ rfl]
  simp [vf_ref01_Int, fill]
theorem run_String (s : List UInt8) (m : Mem) : callL MM1 F.ref01_String [.str s] m = some (.ret [.agg [.int .i64 2, .int .i64 0, .str s]] m) := by
  rw [call1 vfun_ref01_String rfl _ _ rfl]
  simp [vf_ref01_String, fill]
theorem run_Null (m : Mem) : callL MM1 F.ref01_Null [] m = some (.ret [.agg [.int .i64 0, .int .i64 0, .str []]] m) := by
  rw [call1 vfun_ref01_Null rfl _ _ rfl]
  simp [vf_ref01_Null, fill]
theorem run_Bool_true (m : Mem) : callL MM1 F.ref01_Bool [.bool true] m = some (.ret [.agg [.int .i64 3, .int .i64 1, .str []]] m) := by
  rw [call1 vfun_ref01_Bool rfl _ _ rfl]
  simp [vf_ref01_Bool, fill]

/-- The fixed calls have the document's results. -/
theorem run_awake (m : Mem) : callL MM1 F.law20_awake [] m = some (.ret [.bool true] m) := by
  rw [call1 vfun_law20_awake rfl _ _ rfl]
  have h1 := fun m => run_redo_Encode recS (by constructor <;> simp [recS, RowR.vals]) m
  have h2 := fun m => run_redo_Encode recX fitX m
  have h3 := fun m => run_redo_Encode recT (by constructor <;> simp [recT, RowR.vals]) m
  have h4 := fun m => up (run_redo_Decode false bX (by rw [bX_len]; omega) m)
  have h5 := fun m => up (run_redo_Read false (bS ++ bX) (by rw [List.length_append, bS_len, bX_len]; omega) m)
  have h6 := fun m => up (run_redo_Decode false (bS.take 3) (by simp [bS]) m)
  have h7 := fun m => up (run_redo_Decode false [0, 1, 0] (by simp) m)
  have h8 := fun m => up (run_redo_Text recX fitX m)
  have h9 := fun m => up (run_redo_Cut false bS (by rw [bS_len]; omega) 6 m)
  have h10 := fun m => up (run_redo_Cut false bS (by rw [bS_len]; omega) 9 m)
  have h11 := fun m => up (run_redo_Same recX recX (by simp [recX, RowR.vals, rowX]) m)
  have h12 := fun m => up (run_redo_Valid recX fitX m)
  have hlen : (bS ++ bX).length = 56 := by rw [List.length_append, bS_len, bX_len]
  have e7 : bytesV [0, 1, 0] = [.int .u8 0, .int .u8 1, .int .u8 0] := rfl
  simp only [encS, encX, encT, decX, dec3, dec4, hlen, readSX, cut6, cut9, validX, textX_eq, sameX, bytesR, e7] at h1 h2 h3 h4 h5 h6 h7 h8 h9 h10 h11 h12
  have eS : recS.toV = .agg [.int .i64 11, .int .i64 0, .str [], .str [], .int .i64 0, .sl true 0 [], .int .i64 0, .str [], .int .i64 0] := rfl
  have eT : recT.toV = .agg [.int .i64 11, .int .i64 1, .str [], .str [], .int .i64 0, .sl true 0 [], .int .i64 0, .str [], .int .i64 0] := rfl
  have eX : recX.toV = .agg [.int .i64 1, .int .i64 1, .str [97], .str [116], .int .i64 2, .sl false 3 [.agg [.int .i64 1, .int .i64 (-1), .str []], .agg [.int .i64 2, .int .i64 0, .str [105, 116, 39, 115]], .agg [.int .i64 0, .int .i64 0, .str []], .agg [.int .i64 3, .int .i64 1, .str []]], .int .i64 0, .str [], .int .i64 0] := rfl
  have eR : recsR [recS, recX] = .sl false 9 [recS.toV, recX.toV] := rfl
  have eC : recsO (some []) = .sl true 9 [] := rfl
  have eN : recsO none = .sl true 0 [] := rfl
  have eZ : ({ op := 0 } : Rec).toV = .agg [.int .i64 0, .int .i64 0, .str [], .str [], .int .i64 0, .sl true 0 [], .int .i64 0, .str [], .int .i64 0] := rfl
  rw [eR] at h5
  rw [eC] at h9
  rw [eN] at h10
  rw [eS] at h1 h5
  rw [eT] at h3
  rw [eX] at h2 h4 h5 h8 h11 h12
  rw [eZ] at h6 h7
  have lS : (bytesV bS).length = 7 := by rw [bytesV_len]; rfl
  have lX : (bytesV bX).length = 49 := by rw [bytesV_len, bX_len]
  have sS : strOf (bytesV bS) = some bS := strOf_bytes bS
  have q1 : (bS == [0, 5, 11, 0, 0, 0, 43]) = true := rfl
  have q2 : (textX == [105, 110, 115, 101, 114, 116, 32, 49, 32, 39, 97, 39, 32, 39, 116, 39, 32, 50, 32, 40, 45, 49, 44, 39, 105, 116, 39, 39, 115, 39, 44, 110, 117, 108, 108, 44, 116, 114, 117, 101, 41]) = true := rfl
  have a1 : bytesV bS ++ bytesV bX = bytesV (bS ++ bX) := (bytesV_append _ _).symm
  have t3 : (bytesV bS).take 3 = bytesV (bS.take 3) := bytesV_take _ _
  have tk : List.take 56 (bytesV (bS ++ bX)) = bytesV (bS ++ bX) := List.take_of_length_le (by rw [bytesV_len, hlen]; omega)
  have w : IntKind.i64.wrap 56 = 56 := by rw [IntKind.wrap_i64]; rfl
  generalize bS = B at *
  generalize bX = C at *
  generalize textX = T at *
  simp [-getElem?_pos, -List.getD_eq_getElem?_getD, List.getElem?_cons_zero, List.getElem?_cons_succ, vf_law20_awake, run_Int, run_String, run_Null, run_Bool_true, fill, h1, h2, h3, h4, h5, h6, h7, h8, h9, h10, h11, h12, lS, lX, sS, q1, q2, a1, t3, tk, w, binStr]
end Go.Vm.Redo
-- RX0: The laws' functions answer true: RedoEncodes, RedoDecodes, RedoWrites.
set_option maxRecDepth 100000
namespace Go.Vm.Redo
open Go Go.Vm

theorem bytesR_seal (m : Mem) (o : Option (List UInt8)) : V.shut m (bytesR o) = some (bytesR o) := by cases o <;> rfl

theorem law_encodes (a b : Rec) (ha : a.Fit) (hb : b.Fit) (m : Mem) : callL MM1 F.law20_RedoEncodes [a.toV, b.toV] m = some (.ret [.bool true] m) := by
  rw [call1 vfun_law20_RedoEncodes rfl _ _ rfl]
  have hF := fun m => up (run_ref20_Few false 9 [a, b] (.inl rfl) (by simp) (by simp [ha, hb]) m)
  have hA := run_awake
  have hE1 := fun m => run_redo_Encode a ha m
  have hE2 := fun m => up (run_ref20_Encode a ha m)
  have hV1 := fun m => up (run_redo_Valid a ha m)
  have hV2 := fun m => up (run_ref20_Valid a ha m)
  have hS1 := fun m => up (run_redo_Same a b (by have := ha.row; omega) m)
  have hS2 := fun m => up (run_ref20_Same a b (by have := ha.row; omega) m)
  have hS3 := fun m => up (run_redo_Same a a (by have := ha.row; omega) m)
  have hT1 := fun m => up (run_redo_Text a ha m)
  have hT2 := fun m => up (run_ref20_Text a ha m)
  have hsame : sameR a a = true := (sameR_iff a a).2 rfl
  rw [hsame] at hS3
  simp only [List.map_cons, List.map_nil] at hF
  cases hf : few [a, b] with
  | false =>
    simp only [hf] at hF
    simp only [Rec.toV, Rec.cells] at *
    simp [vf_law20_RedoEncodes, hF, hA]
  | true =>
    simp only [hf] at hF
    generalize encode a = E at *
    obtain ⟨eb, ee⟩ := E
    generalize sameR a b = s at *
    generalize recText a = tx at *
    cases hv : validR a <;> simp only [hv] at hV1 hV2 hT1 hT2 <;> cases eb <;> simp only [bytesR] at hE1 hE2 <;> simp only [Rec.toV, Rec.cells] at * <;>
      cases s <;> simp [vf_law20_RedoEncodes, hF, hA, hE1, hE2, hV1, hV2, hS1, hS2, hS3, hT1, hT2, strOf_bytes, strOf, binStr, eqv]

theorem sameAll_self : ∀ l : List Rec, sameAll l l = true
  | [] => rfl
  | x :: l => by
    have ih := sameAll_self l
    have hx : sameR x x = true := (sameR_iff x x).2 rfl
    unfold sameAll at ih ⊢
    simpa [hx] using ih
theorem readF_small : ∀ (k : Nat) (b : List UInt8), (readF k b).1.length ≤ k ∧ ∀ x ∈ (readF k b).1, x.Fit
  | 0, b => ⟨Nat.le_refl _, fun x h => by cases h⟩
  | k + 1, b => by
    unfold readF
    split
    · exact ⟨Nat.zero_le _, fun x h => by cases h⟩
    · rename_i h
      have h0 : (decode b).2.2 = 0 := by omega
      obtain ⟨b0, b1, b2, t, n, x, rfl, ha, hd⟩ := decode_accept b h0
      obtain ⟨i1, i2⟩ := readF_small k ((b0 :: b1 :: b2 :: t).drop (decode (b0 :: b1 :: b2 :: t)).2.1.toNat)
      refine ⟨by simp only [List.length_cons]; omega, fun y hy => ?_⟩
      rcases List.mem_cons.1 hy with rfl | hy
      · rw [hd]; exact valid_fit x ha.valid
      · exact i2 y hy
theorem recsR_shape (l : List Rec) : ∃ nl sz, recsR l = .sl nl sz (l.map Rec.toV) ∧ (sz = 9 ∨ l = []) := ⟨_, _, rfl, .inl rfl⟩
theorem recsO_shape (o : Option (List Rec)) : ∃ nl sz, recsO o = .sl nl sz ((o.getD []).map Rec.toV) ∧ (sz = 9 ∨ o.getD [] = []) := by
  cases o with
  | none => exact ⟨true, 0, rfl, .inr rfl⟩
  | some l => exact ⟨_, _, rfl, .inl rfl⟩

theorem law_decodes (nl : Bool) (b : List UInt8) (n : Int) (m : Mem) : callL MM1 F.law20_RedoDecodes [.sl nl 1 (bytesV b), .int .i64 n] m = some (.ret [.bool true] m) := by
  rw [call1 vfun_law20_RedoDecodes rfl _ _ rfl]
  have hL := fun m => up (run_law20_long nl b m)
  have hA := run_awake
  by_cases hb : 12000 < b.length
  · simp only [hb, decide_true] at hL
    simp [vf_law20_RedoDecodes, hL, hA]
  · simp only [hb, decide_false] at hL
    have hD1 := fun m => up (run_redo_Decode false b (by omega) m)
    have hD2 : ∀ m, callL MM1 F.ref20_Decode [.sl nl 1 (bytesV b)] m = _ := fun m => up (run_ref20_Decode nl b (by omega) m)
    rw [qDecode_eq] at hD2
    have hR1 := fun m => up (run_redo_Read false b (by omega) m)
    have hR2 := fun m => up (run_ref20_Read nl b (by omega) m)
    have hC1 := fun m => up (run_redo_Cut false b (by omega) n m)
    have hC2 := fun m => up (run_ref20_Cut nl b (by omega) n m)
    have hsD : (decode b).1.row.vals.length < 4611686018427387904 := by
      by_cases h0 : (decode b).2.2 = 0
      · obtain ⟨b0, b1, b2, t, n, x, rfl, ha, hd⟩ := decode_accept b h0
        rw [hd]
        have := (valid_fit x ha.valid).row
        simp only; omega
      · rw [decode_err0 b h0]; simp [RowR.vals]
    have hS := fun m => up (run_ref20_Same (decode b).1 (decode b).1 hsD m)
    have hself : sameR (decode b).1 (decode b).1 = true := (sameR_iff _ _).2 rfl
    rw [hself] at hS
    obtain ⟨r1, r2⟩ := readF_small b.length b
    have hSA := fun m => up (run_ref20_SameAll (decide ((readF b.length b).1.length = 0)) (decide ((readF b.length b).1.length = 0)) 9 9 (readF b.length b).1 (readF b.length b).1 (.inl rfl) (.inl rfl) (by omega) (fun x hx => by have := (r2 x hx).row; omega) m)
    rw [sameAll_self] at hSA
    obtain ⟨cnl, csz, hcs, hcz⟩ := recsO_shape (cut b n).1
    have hcl : ((cut b n).1.getD []).length ≤ 12000 ∧ ∀ x ∈ (cut b n).1.getD [], x.Fit := by
      unfold cut
      split
      · exact ⟨by simp, fun x h => by cases h⟩
      · rename_i hc
        obtain ⟨q1, q2⟩ := readF_small n.toNat (b.take n.toNat)
        exact ⟨by simp only [Option.getD_some]; omega, q2⟩
    have hSC := fun m => up (run_ref20_SameAll cnl cnl csz csz ((cut b n).1.getD []) ((cut b n).1.getD []) hcz hcz (by omega) (fun x hx => by have := (hcl.2 x hx).row; omega) m)
    rw [sameAll_self] at hSC
    rw [hcs] at hC1 hC2
    have hrs : recsR (readF b.length b).1 = .sl (decide ((readF b.length b).1.length = 0)) 9 ((readF b.length b).1.map Rec.toV) := rfl
    rw [hrs] at hR1 hR2
    have c1 : b.length ≤ 140737488355328 := by omega
    have tk : List.take b.length (bytesV b) = bytesV b := by rw [bytesV_take, List.take_length]
    have e0 : ([] : List V) ++ bytesV b = bytesV b := rfl
    generalize decide ((readF b.length b).1.length = 0) = dn at *
    generalize (readF b.length b).1.map Rec.toV = RL at *
    generalize ((cut b n).1.getD []).map Rec.toV = CL at *
    generalize (cut b n).2 = ce at *
    generalize (readF b.length b).2 = rn at *
    clear hself hsD hcs r1 r2 hrs hcl hcz
    generalize decode b = D at *
    obtain ⟨x, dn2, de⟩ := D
    simp only [Rec.toV, Rec.cells, rowV_nil] at *
    simp [vf_law20_RedoDecodes, hL, hA, hD1, hD2, hR1, hR2, hC1, hC2, hS, hSA, hSC, c1, bytesV_len, tk, strOf_bytes, binStr]

theorem law_writes (nl : Bool) (sz : Nat) (l : List Rec) (hs : sz = 9 ∨ l = []) (hl : l.length ≤ 140737488355328) (hf : ∀ x ∈ l, x.Fit) (m : Mem) : callL MM1 F.law20_RedoWrites [.sl nl sz (l.map Rec.toV)] m = some (.ret [.bool true] m) := by
  rw [call1 vfun_law20_RedoWrites rfl _ _ rfl]
  have hF := fun m => up (run_ref20_Few nl sz l hs hl hf m)
  have hA := run_awake
  cases hfw : few l with
  | false =>
    simp only [hfw] at hF
    simp [vf_law20_RedoWrites, hF, hA]
  | true =>
    simp only [hfw] at hF
    have h3 : l.length < 3000 := by
      have : ∀ (l : List Rec) (n : Nat), n ≤ fewGo l n := by
        intro l
        induction l with
        | nil => intro n; exact Nat.le_refl _
        | cons x l ih =>
          intro n
          unfold fewGo
          split
          · have := ih (n + (x.row.vals.length + x.text.length / 100)); omega
          · exact Nat.le_refl _
      have h1 := this l l.length
      have h2 := of_decide_eq_true hfw
      omega
    have h1 := fun m => run_redo_Write nl sz l hs (by omega) hf m
    have h2 := fun m => up (run_ref20_Write nl sz l hs h3 hf m)
    generalize writeAll l [] = W at *
    obtain ⟨o, e⟩ := W
    cases o <;> simp only [gatherR] at h1 h2 <;> simp [vf_law20_RedoWrites, hF, hA, h1, h2, strOf_bytes, strOf, binStr]
end Go.Vm.Redo
-- RL6: Plain laws: many records are read as they were written; a beginning of their bytes; how many bytes they are.
namespace Go.Vm.Redo
open Go Go.Vm

theorem valB_len2 (v : Val) (h : valOK v = true) : (valB v).length ≤ 203 := by
  have ht := valOK_weight v h
  unfold valB
  rw [List.length_append, beB_len]
  split
  · rw [beB_len]; omega
  · split
    · rw [beB_len]; omega
    · split
      · unfold textB; rw [List.length_append, beB_len]; omega
      · simp
theorem rowB_len (l : List Val) (h : l.all valOK = true) : (rowB l).length ≤ 1 + 203 * l.length := by
  unfold rowB
  rw [List.length_append, beB_len]
  suffices (l.flatMap valB).length ≤ 203 * l.length by omega
  induction l with
  | nil => simp
  | cons v l ih =>
    simp only [List.all_cons, Bool.and_eq_true] at h
    have h1 := valB_len2 v h.1
    have h2 := ih h.2
    rw [List.flatMap_cons, List.length_append, List.length_cons]; omega
theorem enc_size (x : Rec) (h : validR x = true) : (encB x).length ≤ 104 + 203 * x.row.vals.length + x.text.length := by
  have hp := validR_parts x h
  obtain ⟨ho, hn, ht, hr⟩ := hp
  unfold rowOK at hr
  simp only [Bool.and_eq_true, decide_eq_true_eq] at hr
  have hrow := rowB_len _ hr.2
  have f0 : (fieldB x 0).length = 8 := beB_len _ _
  have f1 : (fieldB x 1).length = 2 + x.owner.length := by show (textB x.owner).length = _; unfold textB; rw [List.length_append, beB_len]
  have f2 : (fieldB x 2).length = 2 + x.name.length := by show (textB x.name).length = _; unfold textB; rw [List.length_append, beB_len]
  have f3 : (fieldB x 3).length = 8 := beB_len _ _
  have f4 : (fieldB x 4).length = (rowB x.row.vals).length := rfl
  have f5 : (fieldB x 5).length = 8 := beB_len _ _
  have f6 : (fieldB x 6).length = 2 + x.text.length := by show (textB x.text).length = _; unfold textB; rw [List.length_append, beB_len]
  have f7 : (fieldB x 7).length = 8 := beB_len _ _
  rw [encB_len, bodyB_len]
  have : (((fieldsOf x.op).getD []).flatMap (fieldB x)).length ≤ 97 + 203 * x.row.vals.length + x.text.length := by
    unfold fieldsOf
    repeat' split
    all_goals (simp only [Option.getD_some, Option.getD_none, List.flatMap_cons, List.flatMap_nil, List.length_append, List.length_nil, f0, f1, f2, f3, f4, f5, f6, f7]; omega)
  omega
theorem enc_small (x : Rec) (h : validR x = true) : (encB x).length ≤ 65537 := by
  have hp := validR_parts x h
  have h1 := enc_size x h
  have hr := hp.row
  have ht := hp.text
  unfold rowOK at hr
  simp only [Bool.and_eq_true, decide_eq_true_eq] at hr
  omega
theorem encode_valid (x : Rec) (h : validR x = true) : encode x = (some (encB x), 0) := by
  have := enc_small x h
  unfold encode
  rw [if_pos h, if_neg (by omega)]
theorem encode_invalid (x : Rec) (h : validR x = false) : encode x = (none, 2) := by
  unfold encode
  rw [h]; rfl
theorem writeAll_valid : ∀ (l : List Rec) (out : List UInt8), l.all validR = true → writeAll l out = (some (out ++ l.flatMap encB), 0)
  | [], out, _ => by simp [writeAll]
  | x :: l, out, h => by
    simp only [List.all_cons, Bool.and_eq_true] at h
    unfold writeAll
    rw [encode_valid x h.1]
    simp only
    rw [writeAll_valid l _ h.2, List.flatMap_cons, List.append_assoc]
theorem writeAll_invalid : ∀ (l : List Rec) (out : List UInt8), l.all validR = false → writeAll l out = (none, 2)
  | [], out, h => by simp at h
  | x :: l, out, h => by
    unfold writeAll
    cases hx : validR x with
    | false => rw [encode_invalid x hx]
    | true =>
      simp only [List.all_cons, hx, Bool.true_and] at h
      rw [encode_valid x hx]
      exact writeAll_invalid l _ h

/-! ### how many bytes -/
def partsOf (x : Rec) : Nat := x.row.vals.length + x.text.length / 100
theorem fewGo_sum : ∀ (l : List Rec) (n : Nat), fewGo l n < 3000 → n + (l.map partsOf).sum < 3000
  | [], n, h => by simpa [fewGo] using h
  | x :: l, n, h => by
    unfold fewGo at h
    split at h
    · have := fewGo_sum l _ h
      simp only [List.map_cons, List.sum_cons]
      show n + (x.row.vals.length + x.text.length / 100 + _) < 3000
      omega
    · omega
theorem few_sum (l : List Rec) (h : few l = true) : l.length + (l.map partsOf).sum < 3000 := fewGo_sum l _ (of_decide_eq_true h)
theorem bytes_sum : ∀ (l : List Rec), l.all validR = true → (l.flatMap encB).length ≤ 203 * (l.length + (l.map partsOf).sum)
  | [], _ => by simp
  | x :: l, h => by
    simp only [List.all_cons, Bool.and_eq_true] at h
    have h1 := enc_size x h.1
    have h2 := bytes_sum l h.2
    simp only [List.flatMap_cons, List.length_append, List.map_cons, List.sum_cons, List.length_cons]
    have : partsOf x = x.row.vals.length + x.text.length / 100 := rfl
    omega
theorem few_bytes (l : List Rec) (h : few l = true) (hv : l.all validR = true) : (l.flatMap encB).length ≤ 609000 := by
  have h1 := few_sum l h
  have h2 := bytes_sum l hv
  omega

/-! ### records alike -/
theorem nm_valid {x y : Rec} (h : y.nm = x.nm) : validR y = validR x := by rw [← validR_nm, h, validR_nm]
theorem nm_enc {x y : Rec} (h : y.nm = x.nm) : encB y = encB x := by rw [← encB_nm, h, encB_nm]
theorem nm_all : ∀ {a b : List Rec}, a.map Rec.nm = b.map Rec.nm → a.length = b.length ∧ a.all validR = b.all validR ∧ a.flatMap encB = b.flatMap encB ∧ (List.zip a b).all (fun p => sameR p.1 p.2) = true
  | [], [], _ => ⟨rfl, rfl, rfl, rfl⟩
  | x :: a, y :: b, h => by
    simp only [List.map_cons, List.cons.injEq] at h
    obtain ⟨h1, h2, h3, h4⟩ := nm_all h.2
    refine ⟨by simp [h1], by simp only [List.all_cons, h2, nm_valid h.1], by simp only [List.flatMap_cons, h3, nm_enc h.1], ?_⟩
    simp only [List.zip_cons_cons, List.all_cons, h4, (sameR_iff x y).2 h.1, Bool.and_self]
  | [], _ :: _, h => by simp at h
  | _ :: _, [], h => by simp at h
theorem nm_same {a b : List Rec} (h : a.map Rec.nm = b.map Rec.nm) : sameAll a b = true := by
  obtain ⟨h1, _, _, h4⟩ := nm_all h
  unfold sameAll
  simp [h1, h4]

/-! ### reading -/
theorem decode_none : decode [] = ({ op := 0 }, 0, 31) := rfl
theorem readF_nil : ∀ k, readF k [] = ([], 0)
  | 0 => rfl
  | k + 1 => by simp [readF, decode_none]
theorem readF_enc : ∀ (l : List Rec) (k : Nat), l.length ≤ k → l.all validR = true → ∃ ys, readF k (l.flatMap encB) = (ys, (l.flatMap encB).length) ∧ ys.map Rec.nm = l.map Rec.nm
  | [], k, _, _ => ⟨[], readF_nil k, rfl⟩
  | x :: l, 0, h, _ => by simp at h
  | x :: l, k + 1, h, hv => by
    simp only [List.all_cons, Bool.and_eq_true] at hv
    obtain ⟨y, hy, hd⟩ := decode_enc x hv.1 (enc_small x hv.1) (l.flatMap encB)
    obtain ⟨ys, h1, h2⟩ := readF_enc l k (by simpa using h) hv.2
    refine ⟨y :: ys, ?_, by simp [hy, h2]⟩
    rw [List.flatMap_cons]
    unfold readF
    rw [hd]
    simp only [ne_eq, not_true_eq_false, if_false, Int.toNat_natCast, List.drop_left, h1, List.length_append]
theorem decode_torn (x : Rec) (h : validR x = true) (p : Nat) (hp : p < (encB x).length) : (decode ((encB x).take p)).2.2 ≠ 0 := by
  have hb := enc_small x h
  have hbl := encB_len x
  have e2 : beB (((bodyB x).length + 4 : Nat) : Int) 2 = [byteAt ((bodyB x).length + 4 : Nat) 256, byteAt ((bodyB x).length + 4 : Nat) 1] := beB_2 _
  have hB0 := byteAt_nat (((bodyB x).length + 4 : Nat) : Int) 256
  have hB1 := byteAt_nat (((bodyB x).length + 4 : Nat) : Int) 1
  have henc : encB x = byteAt ((bodyB x).length + 4 : Nat) 256 :: byteAt ((bodyB x).length + 4 : Nat) 1 :: (bodyB x ++ beB (sumB (headB x)) 4) := by
    show (beB (((bodyB x).length + 4 : Nat) : Int) 2 ++ bodyB x) ++ beB (sumB (headB x)) 4 = _
    rw [e2]; simp
  generalize byteAt (((bodyB x).length + 4 : Nat) : Int) 256 = b0 at *
  generalize byteAt (((bodyB x).length + 4 : Nat) : Int) 1 = b1 at *
  have hlt : ((encB x).take p).length = p := by rw [List.length_take]; omega
  rw [henc] at hlt ⊢
  match p, hp with
  | 0, _ => simp [decode]
  | 1, _ => simp [decode]
  | p + 2, hp =>
    simp only [List.take_succ_cons] at hlt ⊢
    simp only [decode]
    have h0 := b0.toNat_lt
    have h1 := b1.toNat_lt
    rw [if_pos (by rw [hlt]; omega)]
    decide
/-- How many records lie whole in the first n bytes. -/
def fits : List Rec → Nat → Nat
  | [], _ => 0
  | x :: l, n => if (encB x).length ≤ n then fits l (n - (encB x).length) + 1 else 0
theorem fits_le : ∀ (l : List Rec) (n : Nat), fits l n ≤ l.length
  | [], _ => Nat.le_refl _
  | x :: l, n => by
    unfold fits
    split
    · have := fits_le l (n - (encB x).length); simp only [List.length_cons]; omega
    · omega
theorem fits_bytes : ∀ (l : List Rec) (n : Nat), ((l.take (fits l n)).flatMap encB).length ≤ n
  | [], _ => by simp
  | x :: l, n => by
    unfold fits
    split
    · have := fits_bytes l (n - (encB x).length)
      rw [List.take_succ_cons, List.flatMap_cons, List.length_append]; omega
    · simp
theorem fits_next : ∀ (l : List Rec) (n : Nat), fits l n < l.length → ∃ x, l[fits l n]? = some x ∧ n < ((l.take (fits l n)).flatMap encB).length + (encB x).length
  | [], _, h => by simp [fits] at h
  | x :: l, n, h => by
    unfold fits at h ⊢
    split at h
    · rename_i hx
      obtain ⟨y, h1, h2⟩ := fits_next l (n - (encB x).length) (by simpa using h)
      rw [if_pos hx]
      refine ⟨y, by simpa using h1, ?_⟩
      rw [List.take_succ_cons, List.flatMap_cons, List.length_append]; omega
    · rename_i hx
      rw [if_neg hx]
      exact ⟨x, rfl, by simp; omega⟩
theorem readF_cut : ∀ (l : List Rec) (k n : Nat), n ≤ k → l.all validR = true → n ≤ (l.flatMap encB).length → ((readF k ((l.flatMap encB).take n)).1).map Rec.nm = (l.take (fits l n)).map Rec.nm
  | [], k, n, _, _, _ => by simp [readF_nil]
  | x :: l, 0, n, h, _, _ => by
    have hx := encB_seven x
    have : ¬ (encB x).length ≤ n := by omega
    simp [fits, this, readF]
  | x :: l, k + 1, n, h, hv, hn => by
    simp only [List.all_cons, Bool.and_eq_true] at hv
    have hx := encB_seven x
    rw [List.flatMap_cons] at hn ⊢
    rw [List.length_append] at hn
    unfold fits
    split
    · rename_i hle
      rw [List.take_append, List.take_of_length_le hle]
      obtain ⟨y, hy, hd⟩ := decode_enc x hv.1 (enc_small x hv.1) ((l.flatMap encB).take (n - (encB x).length))
      unfold readF
      rw [hd]
      simp only [ne_eq, not_true_eq_false, if_false, Int.toNat_natCast, List.drop_left, List.map_cons, List.take_succ_cons, hy]
      rw [readF_cut l k (n - (encB x).length) (by omega) hv.2 (by omega)]
    · rename_i hle
      have : ((encB x ++ l.flatMap encB).take n) = (encB x).take n := List.take_append_of_le_length (by omega)
      rw [this]
      unfold readF
      rw [if_pos (decode_torn x hv.1 n (by omega))]
      rfl

/-! ### one byte changed -/
theorem sumFrom_mod : ∀ (l : List UInt8) (i out : Nat), sumFrom l i (out % 4294967296) % 4294967296 = sumFrom l i out % 4294967296
  | [], i, out => by simp [sumFrom]
  | c :: l, i, out => by
    unfold sumFrom
    have : (out % 4294967296 + (i + 1) * c.toNat) % 4294967296 = (out + (i + 1) * c.toNat) % 4294967296 := by omega
    rw [this]
/-- The sum without its bound. -/
def sumN : List UInt8 → Nat → Nat
  | [], _ => 0
  | c :: l, i => (i + 1) * c.toNat + sumN l (i + 1)
theorem sumFrom_sumN : ∀ (l : List UInt8) (i out : Nat), sumFrom l i out % 4294967296 = (out + sumN l i) % 4294967296
  | [], i, out => by simp [sumFrom, sumN]
  | c :: l, i, out => by
    unfold sumFrom sumN
    rw [sumFrom_sumN l (i + 1)]
    omega
theorem sumN_set : ∀ (l : List UInt8) (j i : Nat) (c d : UInt8), l[j]? = some c → sumN (l.set j d) i + (i + j + 1) * c.toNat = sumN l i + (i + j + 1) * d.toNat
  | [], j, i, c, d, h => by simp at h
  | e :: l, 0, i, c, d, h => by
    simp only [List.getElem?_cons_zero, Option.some.injEq] at h
    subst h
    simp only [List.set_cons_zero, sumN, Nat.add_zero]; omega
  | e :: l, j + 1, i, c, d, h => by
    have := sumN_set l j (i + 1) c d (by simpa using h)
    simp only [List.set_cons_succ, sumN]
    have e1 : i + 1 + j + 1 = i + (j + 1) + 1 := by omega
    rw [e1] at this
    omega
theorem sumB_lt (l : List UInt8) : sumB l < 4294967296 := sum_lt l 0 0 (by omega)
theorem sumB_set (l : List UInt8) (j : Nat) (c d : UInt8) (h : l[j]? = some c) (hne : c ≠ d) (hl : l.length ≤ 70000) : sumB (l.set j d) ≠ sumB l := by
  intro he
  have hj : j < l.length := (List.getElem?_eq_some_iff.1 h).1
  have h1 := sumN_set l j 0 c d h
  have h2 := sumFrom_sumN l 0 0
  have h3 := sumFrom_sumN (l.set j d) 0 0
  have e1 : sumFrom l 0 0 = sumB l := rfl
  have e2 : sumFrom (l.set j d) 0 0 = sumB (l.set j d) := rfl
  rw [e1] at h2
  rw [e2, he] at h3
  have hcd : c.toNat ≠ d.toNat := fun e => hne (UInt8.toNat_inj.1 e)
  have hc := c.toNat_lt
  have hd := d.toNat_lt
  have m1 : (0 + j + 1) * c.toNat ≤ 70000 * 255 := Nat.mul_le_mul (by omega) (by omega)
  have m2 : (0 + j + 1) * d.toNat ≤ 70000 * 255 := Nat.mul_le_mul (by omega) (by omega)
  have hne : (0 + j + 1) * c.toNat ≠ (0 + j + 1) * d.toNat := fun e => hcd (Nat.eq_of_mul_eq_mul_left (by omega) e)
  omega
theorem num4_inj {a b : List UInt8} (ha : a.length = 4) (hb : b.length = 4) (h : rdNum a 0 = rdNum b 0) : a = b := by
  match a, ha, b, hb with
  | [a0, a1, a2, a3], _, [b0, b1, b2, b3], _ =>
    rw [← beB_num4 a0 a1 a2 a3, ← beB_num4 b0 b1 b2 b3, h]
/-- Bytes of a record of which one is changed, other than the first two, are no record's. -/
theorem decode_broken (x : Rec) (h : validR x = true) (i : Nat) (h2 : 2 ≤ i) (c d : UInt8) (hc : (encB x)[i]? = some c) (hne : c ≠ d) : (decode ((encB x).set i d)).2.2 = 30 := by
  have hb := enc_small x h
  have h7 := encB_seven x
  have hi : i < (encB x).length := (List.getElem?_eq_some_iff.1 hc).1
  have hhl := headB_len x
  have hbl := encB_len x
  have hB0 := byteAt_nat (((bodyB x).length + 4 : Nat) : Int) 256
  have hB1 := byteAt_nat (((bodyB x).length + 4 : Nat) : Int) 1
  have e2 : beB (((bodyB x).length + 4 : Nat) : Int) 2 = [byteAt ((bodyB x).length + 4 : Nat) 256, byteAt ((bodyB x).length + 4 : Nat) 1] := beB_2 _
  have henc : encB x = byteAt ((bodyB x).length + 4 : Nat) 256 :: byteAt ((bodyB x).length + 4 : Nat) 1 :: (bodyB x ++ beB (sumB (headB x)) 4) := by
    show (beB (((bodyB x).length + 4 : Nat) : Int) 2 ++ bodyB x) ++ beB (sumB (headB x)) 4 = _
    rw [e2]; simp
  have hst : encB x = headB x ++ beB (sumB (headB x)) 4 := rfl
  have hset : (encB x).set i d = byteAt ((bodyB x).length + 4 : Nat) 256 :: byteAt ((bodyB x).length + 4 : Nat) 1 :: (bodyB x ++ beB (sumB (headB x)) 4).set (i - 2) d := by
    obtain ⟨k, rfl⟩ : ∃ k, i = k + 2 := ⟨i - 2, by omega⟩
    rw [henc]; rfl
  have hlen : ((encB x).set i d).length = (encB x).length := by simp
  by_cases he : (decode ((encB x).set i d)).2.2 = 0
  · exfalso
    obtain ⟨b0, b1, b2, t, n, y, hy, hA, hd⟩ := decode_accept _ he
    rw [hset] at hy
    simp only [List.cons.injEq] at hy
    obtain ⟨q0, q1, q2⟩ := hy
    have hn := hA.hn
    rw [← q0, ← q1] at hn
    have h0 := (byteAt (((bodyB x).length + 4 : Nat) : Int) 256).toNat_lt
    have h1 := (byteAt (((bodyB x).length + 4 : Nat) : Int) 1).toNat_lt
    have hne' : n = (encB x).length := by omega
    have hs := hA.sum
    rw [← q0, ← q1, ← q2, ← hset, hne'] at hs
    have t1 : ((encB x).set i d).take (encB x).length = (encB x).set i d := by rw [List.take_of_length_le (by omega)]
    rw [t1] at hs
    by_cases hlow : i < (encB x).length - 4
    · -- in what is summed
      have hil : i < (headB x).length := by omega
      have e3 : (encB x).set i d = (headB x).set i d ++ beB (sumB (headB x)) 4 := by rw [hst, List.set_append_left _ _ hil]
      have e4 : (encB x).length - 4 = ((headB x).set i d).length := by rw [List.length_set]; omega
      rw [e4, e3, List.drop_left, List.take_left] at hs
      have e5 := num_beB4 (sumB (headB x)) (by omega) (by have := sumB_lt (headB x); omega)
      rw [e5] at hs
      refine sumB_set (headB x) i c d ?_ hne (by omega) (by omega)
      rw [hst, List.getElem?_append_left hil] at hc
      exact hc
    · -- in the sum
      have e3 : (encB x).set i d = headB x ++ (beB (sumB (headB x)) 4).set (i - (headB x).length) d := by rw [hst, List.set_append_right _ _ (by omega)]
      have e4 : (encB x).length - 4 = (headB x).length := by omega
      rw [e4, e3, List.drop_left, List.take_left] at hs
      have e5 := num_beB4 (sumB (headB x)) (by omega) (by have := sumB_lt (headB x); omega)
      have e6 := num4_inj (by rw [List.length_set, beB_len]) (beB_len _ _) (hs.trans e5.symm)
      have hc' : (beB (sumB (headB x)) 4)[i - (headB x).length]? = some c := by
        rw [hst, List.getElem?_append_right (by omega)] at hc; exact hc
      have hlt := (List.getElem?_eq_some_iff.1 hc').1
      have : ((beB (sumB (headB x)) 4).set (i - (headB x).length) d)[i - (headB x).length]? = some d := by rw [List.getElem?_set_self hlt]
      rw [e6, hc'] at this
      exact hne (Option.some.inj this)
  · -- not torn
    rw [hset] at he ⊢ hlen
    simp only [decode] at he ⊢
    have h0 := (byteAt (((bodyB x).length + 4 : Nat) : Int) 256).toNat_lt
    have h1 := (byteAt (((bodyB x).length + 4 : Nat) : Int) 1).toNat_lt
    rw [if_neg (by rw [hlen]; omega), if_neg (by omega)] at he ⊢
    split at he
    · rename_i q; rw [if_pos q]
    · exact absurd rfl he
end Go.Vm.Redo
-- RX1: The laws' functions answer true: RedoBack, RedoCuts, RedoParts.
set_option maxRecDepth 100000
namespace Go.Vm.Redo
open Go Go.Vm

theorem bytes_many : ∀ l : List Rec, l.length ≤ (l.flatMap encB).length
  | [] => by simp
  | x :: l => by
    have h1 := encB_seven x
    have h2 := bytes_many l
    rw [List.flatMap_cons, List.length_append, List.length_cons]; omega
theorem rows_fit {l : List Rec} (hf : ∀ x ∈ l, x.Fit) : ∀ x ∈ l, x.row.vals.length < 4611686018427387904 := fun x hx => by have := (hf x hx).row; omega

theorem law_back (nl : Bool) (sz : Nat) (l : List Rec) (hs : sz = 9 ∨ l = []) (hl : l.length ≤ 140737488355328) (hf : ∀ x ∈ l, x.Fit) (nl' : Bool) (more : List UInt8) (m : Mem) :
    callL MM1 F.law20_RedoBack [.sl nl sz (l.map Rec.toV), .sl nl' 1 (bytesV more)] m = some (.ret [.bool true] m) := by
  rw [call1 vfun_law20_RedoBack rfl _ _ rfl]
  have hF := fun m => up (run_ref20_Few nl sz l hs hl hf m)
  have hL := fun m => up (run_law20_long nl' more m)
  have hA := run_awake
  cases hfw : few l with
  | false =>
    simp only [hfw] at hF
    simp [vf_law20_RedoBack, hF, hA]
  | true =>
    simp only [hfw] at hF
    by_cases hm : 12000 < more.length
    · simp only [hm, decide_true] at hL
      simp [vf_law20_RedoBack, hF, hL, hA]
    · simp only [hm, decide_false] at hL
      have h3 : l.length < 3000 := by have := few_sum l hfw; omega
      have hW := fun m => run_redo_Write nl sz l hs (by omega) hf m
      cases hv : l.all validR with
      | false =>
        rw [writeAll_invalid l [] hv] at hW
        simp only [gatherR] at hW
        simp [vf_law20_RedoBack, hF, hL, hA, hW]
      | true =>
        rw [writeAll_valid l [] hv] at hW
        simp only [gatherR, List.nil_append] at hW
        have hbl := few_bytes l hfw hv
        obtain ⟨ys, hr, hn⟩ := readF_enc l (l.flatMap encB).length (bytes_many l) hv
        have hR := fun m => up (run_redo_Read (decide ((l.flatMap encB).length = 0)) (l.flatMap encB) (by omega) m)
        rw [hr] at hR
        have hlen := (nm_all hn).1
        have hS := fun m => up (run_ref20_SameAll nl (decide (ys.length = 0)) sz 9 l ys hs (.inl rfl) (by omega) (rows_fit hf) m)
        rw [nm_same hn.symm] at hS
        have hrs : recsR ys = .sl (decide (ys.length = 0)) 9 (ys.map Rec.toV) := rfl
        simp only [hrs] at hR
        have c1 : (l.flatMap encB).length ≤ 140737488355328 := by omega
        have c2 : (l.flatMap encB).length + more.length ≤ 140737488355328 := by omega
        cases l with
        | nil =>
          generalize decide (ys.length = 0) = dn at *
          generalize ys.map Rec.toV = YL at *
          simp only [List.map_nil, List.flatMap_nil, List.length_nil, decide_true, bytesV_nil] at hF hR hW hS
          simp [vf_law20_RedoBack, hF, hL, hA, hW, hR, hS]
        | cons x r =>
          obtain rfl : sz = 9 := by
            rcases hs with h | h
            · exact h
            · cases h
          simp only [List.all_cons, Bool.and_eq_true] at hv
          obtain ⟨y, hy, hd⟩ := decode_enc x hv.1 (enc_small x hv.1) (r.flatMap encB ++ more)
          have hD := fun m => up (run_redo_Decode false ((x :: r).flatMap encB ++ more) (by rw [List.length_append]; omega) m)
          have e0 : (x :: r).flatMap encB ++ more = encB x ++ (r.flatMap encB ++ more) := by rw [List.flatMap_cons, List.append_assoc]
          rw [e0, hd, ← e0] at hD
          have hyr : y.row.vals.length < 4611686018427387904 := by
            have h1 : y.nm.row.vals = x.nm.row.vals := by rw [hy]
            have h1 : y.row.vals = x.row.vals := h1
            have := (hf x (by simp)).row
            rw [h1]; omega
          have hSm := fun m => up (run_redo_Same y x hyr m)
          rw [(sameR_iff y x).2 hy] at hSm
          have k1 := encB_seven x
          have k2 : (encB x).length ≤ ((x :: r).flatMap encB).length := by rw [List.flatMap_cons, List.length_append]; omega
          have n1 : ¬ ((encB x).length : Int) < 7 := by omega
          have n2 : ¬ (((x :: r).flatMap encB).length : Int) < ((encB x).length : Int) := by omega
          have tk : List.take (((x :: r).flatMap encB).length + more.length) (bytesV ((x :: r).flatMap encB) ++ bytesV more) = bytesV ((x :: r).flatMap encB ++ more) := by
            rw [bytesV_append, List.take_of_length_le (by rw [List.length_append, bytesV_len, bytesV_len]; omega)]
          generalize (x :: r).flatMap encB = B at *
          generalize decide (B.length = 0) = db at *
          generalize (encB x).length = k at *
          generalize decide (ys.length = 0) = dn at *
          generalize ys.map Rec.toV = YL at *
          generalize r.map Rec.toV = RL at *
          clear hy hd e0 hn hr hlen hrs hbl hf hyr
          simp only [Rec.toV, Rec.cells, List.map_cons] at *
          simp [vf_law20_RedoBack, hF, hL, hA, hW, hR, hS, hD, hSm, n1, n2, tk, c1, c2, bytesV_len]

theorem law_cuts (nl : Bool) (l : List Rec) (hl : l.length ≤ 140737488355328) (hf : ∀ x ∈ l, x.Fit) (at0 : Int) (m : Mem) :
    callL MM1 F.law20_RedoCuts [.sl nl 9 (l.map Rec.toV), .int .i64 at0] m = some (.ret [.bool true] m) := by
  rw [call1 vfun_law20_RedoCuts rfl _ _ rfl]
  have hF := fun m => up (run_ref20_Few nl 9 l (.inl rfl) hl hf m)
  have hA := run_awake
  cases hfw : few l with
  | false =>
    simp only [hfw] at hF
    simp [vf_law20_RedoCuts, hF, hA]
  | true =>
    simp only [hfw] at hF
    have h3 : l.length < 3000 := by have := few_sum l hfw; omega
    have hW := fun m => run_redo_Write nl 9 l (.inl rfl) (by omega) hf m
    cases hv : l.all validR with
    | false =>
      rw [writeAll_invalid l [] hv] at hW
      simp only [gatherR] at hW
      simp [vf_law20_RedoCuts, hF, hA, hW]
    | true =>
      rw [writeAll_valid l [] hv] at hW
      simp only [gatherR, List.nil_append] at hW
      have hbl := few_bytes l hfw hv
      have w1 : IntKind.i64.wrap (((l.flatMap encB).length : Int) + 1) = ((l.flatMap encB).length : Int) + 1 := wrap64_id (by omega) (by omega)
      have hu : ∀ z : Int, IntKind.u64.wrap z = z % 18446744073709551616 := fun z => by simp [IntKind.wrap, IntKind.bits, IntKind.signed]
      have w2 : IntKind.u64.wrap (((l.flatMap encB).length : Int) + 1) = ((l.flatMap encB).length : Int) + 1 := by rw [hu]; omega
      have hu0 : 0 ≤ IntKind.u64.wrap at0 := by rw [hu]; omega
      obtain ⟨n, hn, hnl⟩ : ∃ n : Nat, (IntKind.u64.wrap at0).tmod (((l.flatMap encB).length : Int) + 1) = n ∧ n ≤ (l.flatMap encB).length := by
        refine ⟨((IntKind.u64.wrap at0).tmod (((l.flatMap encB).length : Int) + 1)).toNat, ?_, ?_⟩
        · rw [Int.toNat_of_nonneg (Int.tmod_nonneg _ hu0)]
        · have h1 := Int.tmod_lt_of_pos (IntKind.u64.wrap at0) (show (0 : Int) < ((l.flatMap encB).length : Int) + 1 by omega)
          have h2 := Int.tmod_nonneg (((l.flatMap encB).length : Int) + 1) hu0
          omega
      have w3 : ¬ (((l.flatMap encB).length : Int) + 1 = 0) := by omega
      have w4 : IntKind.i64.wrap (n : Int) = n := wrap64_id (by omega) (by omega)
      have hC := fun m => up (run_redo_Cut (decide ((l.flatMap encB).length = 0)) (l.flatMap encB) (by omega) n m)
      have hcut : cut (l.flatMap encB) n = (some (readF n ((l.flatMap encB).take n)).1, 0) := by
        unfold cut
        rw [if_neg (by omega), Int.toNat_natCast]
      rw [hcut] at hC
      have hys := readF_cut l n n (Nat.le_refl _) hv hnl
      obtain ⟨y1, y2⟩ := readF_small n ((l.flatMap encB).take n)
      obtain ⟨f1, f2⟩ := And.intro (fits_le l n) (fits_bytes l n)
      have f3 := fits_next l n
      generalize (readF n ((l.flatMap encB).take n)).1 = ys at *
      generalize fits l n = j at *
      obtain ⟨q1, q2, q3, _⟩ := nm_all hys
      have hjl : ys.length = j := by rw [q1, List.length_take]; omega
      have hvy : ys.all validR = true := by
        rw [q2]
        exact List.all_eq_true.2 fun x hx => List.all_eq_true.1 hv x (List.mem_of_mem_take hx)
      have hS := fun m => up (run_ref20_SameAll (decide (ys.length = 0)) nl 9 9 ys (l.take j) (.inl rfl) (.inl rfl) (by omega) (fun x hx => by have := (y2 x hx).row; omega) m)
      rw [nm_same hys] at hS
      have hW2 := fun m => run_redo_Write (decide (ys.length = 0)) 9 ys (.inl rfl) (by omega) y2 m
      rw [writeAll_valid ys [] hvy] at hW2
      simp only [gatherR, List.nil_append] at hW2
      rw [q3] at hW2
      have htk : (l.map Rec.toV).take j = (l.take j).map Rec.toV := (List.map_take).symm
      have hll : (l.map Rec.toV).length = l.length := by simp
      have hyl : (ys.map Rec.toV).length = j := by rw [List.length_map, hjl]
      have hcl : ¬ ((n : Int) < (((l.take j).flatMap encB).length : Int)) := by omega
      have hjl2 : ¬ ((l.length : Int) < (j : Int)) := by omega
      simp only [recsO, recsR] at hC
      have b1 : (bytesV ((l.take j).flatMap encB)).length = ((l.take j).flatMap encB).length := bytesV_len _
      have b2 : (bytesV (l.flatMap encB)).length = (l.flatMap encB).length := bytesV_len _
      by_cases hje : j = l.length
      · generalize hTL : (l.take j).map Rec.toV = TL at *
        generalize (l.take j).flatMap encB = CB at *
        generalize decide (CB.length = 0) = dc at *
        generalize l.flatMap encB = B at *
        generalize decide (B.length = 0) = db at *
        generalize decide (ys.length = 0) = dn at *
        generalize ys.map Rec.toV = YL at *
        clear f3 hTL hys q1 q2 q3 hcut
        generalize l.map Rec.toV = LL at *
        subst hje
        simp [vf_law20_RedoCuts, hF, hA, hW, hC, hS, hW2, w1, w2, w3, w4, hn, htk, hll, hyl, hcl, b1, b2]
      · obtain ⟨x, hx, hnx⟩ := f3 (by omega)
        have hmx := List.mem_of_getElem? hx
        have hvx := List.all_eq_true.1 hv x hmx
        have hE := fun m => run_redo_Encode x (hf x hmx) m
        rw [encode_valid x hvx] at hE
        simp only [bytesR] at hE
        have hxl := enc_small x hvx
        have w5 : IntKind.i64.wrap ((((l.take j).flatMap encB).length : Int) + ((encB x).length : Int)) = (((l.take j).flatMap encB).length : Int) + ((encB x).length : Int) := wrap64_id (by omega) (by omega)
        have hgt : (n : Int) < (((l.take j).flatMap encB).length : Int) + ((encB x).length : Int) := by omega
        have hne : ¬ ((j : Int) = (l.length : Int)) := by omega
        have hLx : (l.map Rec.toV)[j]? = some x.toV := by rw [List.getElem?_map, hx]; rfl
        have b3 : (bytesV (encB x)).length = (encB x).length := bytesV_len _
        have hbe : ((j : Int) == (l.length : Int)) = false := by simpa using hne
        generalize hTL : (l.take j).map Rec.toV = TL at *
        generalize (l.take j).flatMap encB = CB at *
        generalize decide (CB.length = 0) = dc at *
        generalize l.flatMap encB = B at *
        generalize decide (B.length = 0) = db at *
        generalize decide (ys.length = 0) = dn at *
        generalize ys.map Rec.toV = YL at *
        generalize encB x = EX at *
        clear f3 hTL hys q1 q2 q3 hcut
        generalize l.map Rec.toV = LL at *
        simp only [Rec.toV, Rec.cells] at *
        simp [vf_law20_RedoCuts, hF, hA, hW, hC, hS, hW2, w1, w2, w3, w4, hn, htk, hll, hyl, hcl, b1, b2, b3, hjl2, hbe, hLx, hE, w5, hgt, f1]

theorem law_parts (nl nl' : Bool) (a b : List Rec) (ha : a.length ≤ 140737488355328) (hb : b.length ≤ 140737488355328) (fa : ∀ x ∈ a, x.Fit) (fb : ∀ x ∈ b, x.Fit) (m : Mem) :
    callL MM1 F.law20_RedoParts [.sl nl 9 (a.map Rec.toV), .sl nl' 9 (b.map Rec.toV)] m = some (.ret [.bool true] m) := by
  rw [call1 vfun_law20_RedoParts rfl _ _ rfl]
  have hF := fun m => up (run_ref20_Few nl 9 a (.inl rfl) ha fa m)
  have hG := fun m => up (run_ref20_Few nl' 9 b (.inl rfl) hb fb m)
  have hA := run_awake
  cases hfa : few a with
  | false =>
    simp only [hfa] at hF
    simp [vf_law20_RedoParts, hF, hA]
  | true =>
    simp only [hfa] at hF
    cases hfb : few b with
    | false =>
      simp only [hfb] at hG
      simp [vf_law20_RedoParts, hF, hG, hA]
    | true =>
      simp only [hfb] at hG
      have h3 : a.length < 3000 := by have := few_sum a hfa; omega
      have h4 : b.length < 3000 := by have := few_sum b hfb; omega
      have hX := fun m => run_redo_Write nl 9 a (.inl rfl) (by omega) fa m
      have hY := fun m => run_redo_Write nl' 9 b (.inl rfl) (by omega) fb m
      cases hva : a.all validR with
      | false =>
        rw [writeAll_invalid a [] hva] at hX
        simp only [gatherR] at hX
        generalize writeAll b [] = W at *
        obtain ⟨o, e⟩ := W
        cases o <;> simp only [gatherR] at hY <;> simp [vf_law20_RedoParts, hF, hG, hA, hX, hY]
      | true =>
        rw [writeAll_valid a [] hva] at hX
        simp only [gatherR, List.nil_append] at hX
        cases hvb : b.all validR with
        | false =>
          rw [writeAll_invalid b [] hvb] at hY
          simp only [gatherR] at hY
          simp [vf_law20_RedoParts, hF, hG, hA, hX, hY]
        | true =>
          rw [writeAll_valid b [] hvb] at hY
          simp only [gatherR, List.nil_append] at hY
          have hla := few_bytes a hfa hva
          have hlb := few_bytes b hfb hvb
          have hvab : (a ++ b).all validR = true := by rw [List.all_append, hva, hvb]; rfl
          have hfm : (a ++ b).flatMap encB = a.flatMap encB ++ b.flatMap encB := List.flatMap_append
          have hff : ∀ x ∈ a ++ b, x.Fit := fun x hx => (List.mem_append.1 hx).elim (fa x) (fb x)
          have hlen : (a ++ b).length = a.length + b.length := List.length_append
          obtain ⟨ys, hr, hn⟩ := readF_enc (a ++ b) ((a ++ b).flatMap encB).length (bytes_many _) hvab
          rw [hfm] at hr
          have hll : (a.flatMap encB ++ b.flatMap encB).length = (a.flatMap encB).length + (b.flatMap encB).length := List.length_append
          have hR := fun m => up (run_redo_Read false (a.flatMap encB ++ b.flatMap encB) (by rw [hll]; omega) m)
          rw [hr, hll] at hR
          simp only [recsR] at hR
          have hyl := (nm_all hn).1
          have hyf : ∀ x ∈ ys, x.row.vals.length < 4611686018427387904 := fun x hx => by
            have h := (readF_small (a.flatMap encB ++ b.flatMap encB).length (a.flatMap encB ++ b.flatMap encB)).2
            rw [hr] at h
            have := (h x hx).row; omega
          have hS := fun m => up (run_ref20_SameAll (decide (ys.length = 0)) false 9 9 ys (a ++ b) (.inl rfl) (.inl rfl) (by omega) hyf m)
          rw [nm_same hn] at hS
          have hB := fun m => run_redo_Write false 9 (a ++ b) (.inl rfl) (by omega) hff m
          rw [writeAll_valid _ [] hvab] at hB
          simp only [gatherR, List.nil_append] at hB
          rw [hfm] at hB
          rw [List.map_append] at hS hB
          have c1 : (a.flatMap encB).length ≤ 140737488355328 := by omega
          have c2 : (a.flatMap encB).length + (b.flatMap encB).length ≤ 140737488355328 := by omega
          have c3 : a.length * 112 ≤ 140737488355328 := by omega
          have c4 : (a.length + b.length) * 112 ≤ 140737488355328 := by omega
          have c5 : a.length ≤ 140737488355328 := by omega
          have c6 : a.length + b.length ≤ 140737488355328 := by omega
          have w1 : IntKind.i64.wrap (((a.flatMap encB).length : Int) + ((b.flatMap encB).length : Int)) = ((a.flatMap encB).length : Int) + ((b.flatMap encB).length : Int) := wrap64_id (by omega) (by omega)
          have la : (a.map Rec.toV).length = a.length := by simp
          have lb : (b.map Rec.toV).length = b.length := by simp
          have b1 : (bytesV (a.flatMap encB)).length = (a.flatMap encB).length := bytesV_len _
          have b2 : (bytesV (b.flatMap encB)).length = (b.flatMap encB).length := bytesV_len _
          have b3 := strOf_bytes (a.flatMap encB)
          have b4 := strOf_bytes (b.flatMap encB)
          have b5 := strOf_bytes (a.flatMap encB ++ b.flatMap encB)
          have b6 := bytesV_append (a.flatMap encB) (b.flatMap encB)
          have tk : List.take ((a.flatMap encB).length + (b.flatMap encB).length) (bytesV (a.flatMap encB ++ b.flatMap encB)) = bytesV (a.flatMap encB ++ b.flatMap encB) := List.take_of_length_le (by rw [bytesV_len, hll]; omega)
          have tk2 : List.take (a.length + b.length) (a.map Rec.toV ++ b.map Rec.toV) = a.map Rec.toV ++ b.map Rec.toV := List.take_of_length_le (by simp)
          have hi64 : ¬ ((9223372036854775807 : Int) < ((a.flatMap encB).length : Int) + ((b.flatMap encB).length : Int)) := by omega
          clear hr hn hyl hyf hvab hff hlen hfm hva hvb fa fb hfa hfb
          generalize a.map Rec.toV = LA at *
          generalize b.map Rec.toV = LB at *
          generalize a.flatMap encB = BA at *
          generalize b.flatMap encB = BB at *
          generalize decide ((BA ++ BB).length = 0) = dab at *
          generalize decide (BA.length = 0) = da at *
          generalize decide (BB.length = 0) = db at *
          generalize decide (ys.length = 0) = dn at *
          generalize ys.map Rec.toV = YL at *
          rw [b6] at hR hB b5 tk
          simp [vf_law20_RedoParts, hF, hG, hA, hX, hY, hR, hS, hB, c1, c2, c3, c4, c5, c6, w1, la, lb, b1, b2, b3, b4, b5, tk, tk2, binStr, hi64]
end Go.Vm.Redo
