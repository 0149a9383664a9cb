/- Part 13 of the ground under the rows: Walks: values. -/
import Derived.Test.YtcifkahbdimkbaaGreatDoorM12
import Derived.Laws.RangeAny
set_option linter.unusedSimpArgs false
set_option linter.unusedVariables false
-- RS2: Walks: values.
set_option maxRecDepth 100000
namespace Go.Vm.Redo
open Go Go.Vm

theorem run_value_isInt (n : Int) (m : Mem) : callL MM F.value_isInt [.int .i64 n] m = some (.ret [.bool (intOK n)] m) := by
  rw [call_value_isInt _ _ rfl]
  by_cases h : (-1099511627776 : Int) ≤ n
  · simp [vf_value_isInt, h, intOK, big]; rfl
  · simp [vf_value_isInt, h, intOK, big]
theorem run_value_isString_1 (n : Int) (m : Mem) : callL MM F.value_isString_1 [.int .i32 n] m = some (.ret [.bool (decide (n < 32) || decide (126 < n))] m) := by
  rw [call_value_isString_1 _ _ rfl]
  by_cases h : n < 32 <;> simp [vf_value_isString_1, h] <;> rfl

theorem decode_low (s : List UInt8) (i : Nat) (c : UInt8) (hc : s[i]? = some c) (h : c.toNat < 128) : Utf8.decode ⟨s.toArray⟩ i = (c.toNat, 1) := by
  obtain ⟨hi, rfl⟩ := List.getElem?_eq_some_iff.1 hc
  exact decode_ascii ⟨s.toArray⟩ i (by simpa [ByteArray.size] using hi) h
theorem decode_hi (s : List UInt8) (i : Nat) (c : UInt8) (hc : s[i]? = some c) (h : 128 ≤ c.toNat) : 128 ≤ (Utf8.decode ⟨s.toArray⟩ i).1 := by
  obtain ⟨hi, rfl⟩ := List.getElem?_eq_some_iff.1 hc
  exact (decode_high ⟨s.toArray⟩ i (by simpa [ByteArray.size] using hi) h).1

/-- strings.indexFunc, of a function that is true of every rune from 128 on. -/
theorem run_strings_indexFunc (p : Int → Bool) (hp : ∀ n : Int, 128 ≤ n → p n = true) (f : FuncId) (hf : ∀ (n : Int) (m : Mem), callL MM f [.int .i32 n] m = some (.ret [.bool (p n)] m)) (s : List UInt8) (m : Mem) :
    callL MM F.strings_indexFunc [.str s, .fn f [] [], .bool true] m = some (.ret [.int .i64 (idxP (fun c : UInt8 => p c.toNat) s 0)] m) := by
  rw [call_strings_indexFunc _ _ rfl]
  have hq := loop_each (cf := callL MM) (b := m.length) (L := m.length + 1) (kill := [0, 3, 4, 5, 7, 8, 9]) (c := l_strings_indexFunc_0) s
    (fun i (_ : Unit) => [.undef, .fn f [] [], .bool true, .undef, .undef, .undef, .ptr m.length 0, .undef, .undef, .undef])
    (fun i _ => .iter s i :: m) (fun i _ => True)
    (fun rest i _ => if rest.any (fun c : UInt8 => p c.toNat) then (ex (callL MM) m.length l_strings_indexFunc_0 [.undef, .fn f [] [], .bool true, .undef, .undef, .undef, .ptr m.length 0, .undef, .undef, .undef] (.iter s (idxP (fun c : UInt8 => p c.toNat) rest i).toNat :: m)).getD (.ret [] [])
      else .exit 0 [.undef, .fn f [] [], .bool true, .undef, .undef, .undef, .ptr m.length 0, .tup [.bool false], .bool false, .undef] (.iter s s.length :: m))
    (fun u _ => ⟨by simp [l_strings_indexFunc_0], rfl⟩)
    (fun i c rest u hc hd hi _ => by
      have w1 : ∀ k : Nat, (i : Int).toNat = i := fun k => by omega
      cases hpc : p c.toNat with
      | true =>
        refine .inl ?_
        have e0 : idxP (fun c : UInt8 => p c.toNat) (c :: rest) i = i := by simp [idxP, hpc]
        have hd' : p ((Utf8.decode ⟨s.toArray⟩ i).1 : Nat) = true := by
          by_cases h : c.toNat < 128
          · rw [decode_low s i c hc h]; exact hpc
          · exact hp _ (by have := decode_hi s i c hc (by omega); omega)
        rw [e0]
        simp [hpc, l_strings_indexFunc_0, hi, hf, hd', eqv, Rs.ends]
      | false =>
        refine .inr ⟨(), ?_, trivial, by simp [hpc, idxP]⟩
        have h : c.toNat < 128 := by
          rcases Nat.lt_or_ge c.toNat 128 with h | h
          · exact h
          · rw [hp c.toNat (by omega)] at hpc; cases hpc
        simp [l_strings_indexFunc_0, hi, hf, decode_low s i c hc h, hpc, eqv])
    () [.str s, .fn f [] [], .bool true, .int .i64 0, .undef, .undef, .ptr m.length 0, .undef, .undef, .undef] (.iter s 0 :: m) trivial (by simp)
  cases hany : s.any (fun c : UInt8 => p c.toNat) with
  | false =>
    have e := idxP_none (fun c : UInt8 => p c.toNat) s 0 hany
    simp [vf_strings_indexFunc, hq, hany, e]
  | true =>
    have key : ∀ (rest : List UInt8) (i : Nat), s.drop i = rest → rest.any (fun c : UInt8 => p c.toNat) = true → ∃ j : Nat, idxP (fun c : UInt8 => p c.toNat) rest i = j ∧ ∃ c, s[j]? = some c ∧ p c.toNat = true := by
      intro rest
      induction rest with
      | nil => intro i _ h; simp at h
      | cons c rest ih =>
        intro i hd h
        have hc : s[i]? = some c := by
          have : (s.drop i)[0]? = some c := by rw [hd]; rfl
          simpa using this
        cases hpc : p c.toNat with
        | true => exact ⟨i, by simp [idxP, hpc], c, hc, hpc⟩
        | false =>
          obtain ⟨j, h1, h2⟩ := ih (i + 1) (by rw [← List.drop_drop, hd]; rfl) (by simpa [hpc] using h)
          exact ⟨j, by simpa [idxP, hpc] using h1, h2⟩
    obtain ⟨j, hj, c, hc, hpc⟩ := key s 0 rfl hany
    have hi := (List.getElem?_eq_some_iff.1 hc).1
    have hd' : p ((Utf8.decode ⟨s.toArray⟩ j).1 : Nat) = true := by
      by_cases h : c.toNat < 128
      · rw [decode_low s j c hc h]; exact hpc
      · exact hp _ (by have := decode_hi s j c hc (by omega); omega)
    have hj' : idxP (fun c : UInt8 => p c.toNat) s 0 = j := hj
    simp [hany, hj', l_strings_indexFunc_0, hi, hf, hd', eqv] at hq
    simp [vf_strings_indexFunc, hq, hj', l_strings_indexFunc_0, hi, hf, hd', eqv]
theorem run_strings_ContainsFunc (p : Int → Bool) (hp : ∀ n : Int, 128 ≤ n → p n = true) (f : FuncId) (hf : ∀ (n : Int) (m : Mem), callL MM f [.int .i32 n] m = some (.ret [.bool (p n)] m)) (s : List UInt8) (m : Mem) :
    callL MM F.strings_ContainsFunc [.str s, .fn f [] []] m = some (.ret [.bool (s.any fun c => p c.toNat)] m) := by
  rw [call_strings_ContainsFunc _ _ rfl, ← idxP_any _ s 0 (by omega)]
  have h1 : callL MM F.strings_IndexFunc [.str s, .fn f [] []] m = some (.ret [.int .i64 (idxP (fun c : UInt8 => p c.toNat) s 0)] m) := by
    rw [call_strings_IndexFunc _ _ rfl]
    simp [vf_strings_IndexFunc, run_strings_indexFunc p hp f hf]
  simp [vf_strings_ContainsFunc, h1]
theorem run_value_isString (s : List UInt8) (m : Mem) : callL MM F.value_isString [.str s] m = some (.ret [.bool (strOK s)] m) := by
  rw [call_value_isString _ _ rfl]
  have h := run_strings_ContainsFunc (fun n => decide (n < 32) || decide (126 < n)) (fun n h => by simp; omega) F.value_isString_1 run_value_isString_1 s m
  have e : (s.any fun c => (decide ((c.toNat : Int) < 32) || decide (126 < (c.toNat : Int)))) = !(s.all fun c => 32 ≤ c.toNat && c.toNat ≤ 126) := by
    rw [List.any_eq_not_all_not]
    congr 2
    funext c
    by_cases h1 : 32 ≤ c.toNat <;> by_cases h2 : c.toNat ≤ 126 <;> simp [h1, h2] <;> omega
  rw [e] at h
  unfold strOK
  by_cases hl : s.length ≤ 200
  · have hl' : (s.length : Int) ≤ 200 := by omega
    simp [vf_value_isString, hl, hl', h]
  · have hl' : ¬ (s.length : Int) ≤ 200 := by omega
    simp [vf_value_isString, hl, hl']



abbrev valT : ETy := .st [(0, none, .int), (1, none, .int), (2, none, .str)]
theorem val_eqv (v w : Val) : eqv valT v.toV w.toV = some (decide (v = w)) := by
  obtain ⟨a, b, c⟩ := v
  obtain ⟨a', b', c'⟩ := w
  have e : eqv valT (Val.toV ⟨a, b, c⟩) (Val.toV ⟨a', b', c'⟩) = some ((a == a') && ((b == b') && ((c == c') && true))) := rfl
  rw [e]
  congr 1
  by_cases h1 : a = a' <;> by_cases h2 : b = b' <;> by_cases h3 : c = c' <;> simp [h1, h2, h3]
theorem val_eqv0 (v : Val) : eqv valT v.toV (.agg [.int .i64 0, .int .i64 0, .str []]) = some (decide (v = ⟨0, 0, []⟩)) := val_eqv v ⟨0, 0, []⟩

theorem run_value_Valid (v : Val) (m : Mem) : callL MM F.value_Valid [v.toV] m = some (.ret [.bool (valOK v)] m) := by
  rw [call_value_Valid _ _ rfl]
  obtain ⟨kd, n, t⟩ := v
  have h1 := run_value_isInt n (.cells [.int .i64 kd, .int .i64 n, .str t] :: m)
  have h2 := run_value_isString t (.cells [.int .i64 kd, .int .i64 n, .str t] :: m)
  have bb : ∀ a b : Int, a ≠ b → (a == b) = false := fun a b h => by simpa using h
  have d : ∀ b : Bool, dropTo m.length (.cells [.int .i64 kd, .int .i64 n, .str t] :: m) = m := fun _ => dropTo_one rfl
  have ht : (t == []) = decide (t = []) := by cases t <;> rfl
  by_cases k0 : kd = 0
  · subst k0
    have he := val_eqv0 ⟨0, n, t⟩
    have hd : decide ((⟨0, n, t⟩ : Val) = ⟨0, 0, []⟩) = (decide (n = 0) && decide (t = [])) := by
      by_cases h1 : n = 0 <;> by_cases h2 : t = [] <;> simp [h1, h2]
    rw [hd] at he
    simp only [Val.toV] at he
    simp [vf_value_Valid, Val.toV, valOK, he]
  by_cases k1 : kd = 1
  · subst k1
    cases t <;> simp [vf_value_Valid, Val.toV, valOK, binStr, h1]
  by_cases k2 : kd = 2
  · subst k2
    by_cases hn : n = 0
    · subst hn; simp [vf_value_Valid, Val.toV, valOK, h2]
    · simp [vf_value_Valid, Val.toV, valOK, hn, bb n 0]
  by_cases k3 : kd = 3
  · subst k3
    cases t
    · by_cases hn : n = 0
      · subst hn; simp [vf_value_Valid, Val.toV, valOK, binStr]
      · by_cases hn1 : n = 1
        · subst hn1; simp [vf_value_Valid, Val.toV, valOK, binStr]
        · simp [vf_value_Valid, Val.toV, valOK, binStr, hn, hn1, bb n 0 , bb n 1]
    · simp [vf_value_Valid, Val.toV, valOK, binStr]
  simp [vf_value_Valid, Val.toV, valOK, k0, k1, k2, k3, bb kd 0 k0, bb kd 1 k1, bb kd 2 k2, bb kd 3 k3]
end Go.Vm.Redo
-- RS3: Walks: rows and values, the program's and the reference's.
set_option maxRecDepth 100000
namespace Go.Vm.Redo
open Go Go.Vm

theorem run_value_valid_1 (v : Val) (m : Mem) : callL MM F.value_valid_1 [v.toV] m = some (.ret [.bool (!valOK v)] m) := by
  rw [call_value_valid_1 _ _ rfl]
  have h := run_value_Valid v (.cells v.toV.cells :: m)
  simp only [Val.toV, cells_agg] at h ⊢
  simp [vf_value_valid_1, h]
theorem any_not {α : Type} (p : α → Bool) (l : List α) : (!l.any fun a => !p a) = l.all p := by rw [List.any_eq_not_all_not]; simp
theorem run_value_valid (nl : Bool) (sz : Nat) (l : List Val) (hs : sz = 3 ∨ l = []) (hl : l.length < 4611686018427387904) (m : Mem) : callL MM F.value_valid [.sl nl sz (l.map Val.toV)] m = some (.ret [.bool (l.all valOK)] m) := by
  rw [call_value_valid _ _ rfl, ← any_not]
  simp [vf_value_valid, run_ContainsFunc_Value (fun v => !valOK v) F.value_valid_1 run_value_valid_1 nl sz l hs hl]
theorem run_value_IsRow (x : RowR) (hl : x.vals.length < 4611686018427387904) (m : Mem) : callL MM F.value_IsRow [x.toV] m = some (.ret [.bool (rowOK x.vals)] m) := by
  obtain ⟨nl, sz, hx, hsz⟩ := x.shape
  rw [call_value_IsRow _ _ rfl, hx]
  have h := run_value_valid nl sz x.vals hsz hl m
  unfold rowOK
  by_cases h20 : x.vals.length ≤ 20
  · have h20' : (x.vals.length : Int) ≤ 20 := by omega
    simp [vf_value_IsRow, h20, h20', h]
  · have h20' : ¬ (x.vals.length : Int) ≤ 20 := by omega
    simp [vf_value_IsRow, h20, h20']

/-! ### two rows -/
theorem zip_eq : ∀ (a b : List Val), a.length = b.length → ((List.zip a b).all (fun p => decide (p.1 = p.2))) = decide (a = b)
  | [], [], _ => rfl
  | x :: a, y :: b, h => by
    have ih := zip_eq a b (by simpa using h)
    rw [List.zip_cons_cons, List.all_cons, ih]
    by_cases h1 : x = y <;> by_cases h2 : a = b <;> simp [h1, h2]
  | [], _ :: _, h => by simp at h
  | _ :: _, [], h => by simp at h

theorem run_slices_Equal (x y : RowR) (hl : x.vals.length < 4611686018427387904) (m : Mem) : callL MM F.slices_Equal_api_Row_api_Value [x.toV, y.toV] m = some (.ret [.bool (decide (x.vals = y.vals))] m) := by
  obtain ⟨nl, sz, hx, hsz⟩ := x.shape
  obtain ⟨nl', sz', hy, hsz'⟩ := y.shape
  rw [call_slices_Equal_api_Row_api_Value _ _ rfl, hx, hy]
  generalize x.vals = a at *
  generalize y.vals = b at *
  by_cases hab : a.length = b.length
  · have hz := zip_eq a b hab
    have hzl : (List.zip a b).length = a.length := by simp [hab]
    have hq := loop_scan (cf := callL MM) (b := m.length) (L := m.length) (kill := [2, 3, 4, 7, 8]) (c := l_slices_Equal_api_Row_api_Value_0) (List.zip a b) (fun p => decide (p.1 = p.2))
      (fun i => [.sl nl sz (a.map Val.toV), .sl nl' sz' (b.map Val.toV), .undef, .undef, .undef, .int .i64 a.length, .int .i64 i, .undef, .undef]) (fun _ => m)
      (.exit 0 [.sl nl sz (a.map Val.toV), .sl nl' sz' (b.map Val.toV), .undef, .undef, .undef, .int .i64 a.length, .int .i64 a.length, .bool false, .undef] m)
      (fun i _ => .ret [.sl nl sz (a.map Val.toV), .sl nl' sz' (b.map Val.toV), .bool false, .int .i64 i, .undef, .int .i64 a.length, .int .i64 i, .bool true, .bool true] m)
      ⟨by rw [hzl]; simp [l_slices_Equal_api_Row_api_Value_0], rfl⟩
      (fun i p hp hi hpp => by
        obtain ⟨v, w⟩ := p
        rw [hzl] at hi
        obtain ⟨h1, h2⟩ := List.getElem?_zip_eq_some.1 hp
        obtain rfl : sz = 3 := by
          rcases hsz with h | h
          · exact h
          · rw [h] at h1; simp at h1
        obtain rfl : sz' = 3 := by
          rcases hsz' with h | h
          · exact h
          · rw [h] at h2; simp at h2
        have he := val_eqv v w
        simp only [decide_eq_true_eq] at hpp
        subst hpp
        simp only [Val.toV] at he
        simp [l_slices_Equal_api_Row_api_Value_0, int_lt hi, h1, h2, Val.toV, he, wrap_succ (show i < 4611686018427387904 by omega), drawEnd_nil])
      (fun i p hp hi hpp => by
        obtain ⟨v, w⟩ := p
        rw [hzl] at hi
        obtain ⟨h1, h2⟩ := List.getElem?_zip_eq_some.1 hp
        obtain rfl : sz = 3 := by
          rcases hsz with h | h
          · exact h
          · rw [h] at h1; simp at h1
        obtain rfl : sz' = 3 := by
          rcases hsz' with h | h
          · exact h
          · rw [h] at h2; simp at h2
        have he := val_eqv v w
        rw [hpp] at he
        simp only [Val.toV] at he
        exact ⟨by simp [l_slices_Equal_api_Row_api_Value_0, int_lt hi, h1, h2, Val.toV, he, drawEnd_nil], rfl⟩)
      (vars := [.sl nl sz (a.map Val.toV), .sl nl' sz' (b.map Val.toV), .bool false, .undef, .bool false, .int .i64 a.length, .int .i64 0, .undef, .undef]) (m := m) (by simp)
    have hab' : ¬ ((a.length : Int) ≠ b.length) := by omega
    rcases hq with ⟨h1, h2⟩ | ⟨h1, i, p, _, _, _, h2⟩
    · rw [← hz, h1]
      simp [vf_slices_Equal_api_Row_api_Value, hab] at h2 ⊢
      simp [h2]
    · rw [← hz, h1]
      simp [vf_slices_Equal_api_Row_api_Value, hab] at h2 ⊢
      simp [h2]
  · have hne : a ≠ b := fun h => hab (by rw [h])
    have hb : ((a.length : Int) != b.length) = true := ibne (by omega)
    simp [vf_slices_Equal_api_Row_api_Value, hne, hb]
theorem run_ref01_SameRow (x y : RowR) (hl : x.vals.length < 4611686018427387904) (m : Mem) : callL MM F.ref01_SameRow [x.toV, y.toV] m = some (.ret [.bool (decide (x.vals = y.vals))] m) := by
  obtain ⟨nl, sz, hx, hsz⟩ := x.shape
  obtain ⟨nl', sz', hy, hsz'⟩ := y.shape
  rw [call_ref01_SameRow _ _ rfl, hx, hy]
  generalize x.vals = a at *
  generalize y.vals = b at *
  by_cases hab : a.length = b.length
  · have hz := zip_eq a b hab
    have hzl : (List.zip a b).length = a.length := by simp [hab]
    have hq := loop_scan (cf := callL MM) (b := m.length) (L := m.length) (kill := [2, 3, 4, 7, 8]) (c := l_ref01_SameRow_0) (List.zip a b) (fun p => decide (p.1 = p.2))
      (fun i => [.sl nl sz (a.map Val.toV), .sl nl' sz' (b.map Val.toV), .undef, .undef, .undef, .int .i64 a.length, .int .i64 i, .undef, .undef]) (fun _ => m)
      (.exit 0 [.sl nl sz (a.map Val.toV), .sl nl' sz' (b.map Val.toV), .undef, .undef, .undef, .int .i64 a.length, .int .i64 a.length, .bool false, .undef] m)
      (fun i _ => .ret [.sl nl sz (a.map Val.toV), .sl nl' sz' (b.map Val.toV), .bool false, .int .i64 i, .undef, .int .i64 a.length, .int .i64 i, .bool true, .bool true] m)
      ⟨by rw [hzl]; simp [l_ref01_SameRow_0], rfl⟩
      (fun i p hp hi hpp => by
        obtain ⟨v, w⟩ := p
        rw [hzl] at hi
        obtain ⟨h1, h2⟩ := List.getElem?_zip_eq_some.1 hp
        obtain rfl : sz = 3 := by
          rcases hsz with h | h
          · exact h
          · rw [h] at h1; simp at h1
        obtain rfl : sz' = 3 := by
          rcases hsz' with h | h
          · exact h
          · rw [h] at h2; simp at h2
        have he := val_eqv v w
        simp only [decide_eq_true_eq] at hpp
        subst hpp
        simp only [Val.toV] at he
        simp [l_ref01_SameRow_0, int_lt hi, h1, h2, Val.toV, he, wrap_succ (show i < 4611686018427387904 by omega), drawEnd_nil])
      (fun i p hp hi hpp => by
        obtain ⟨v, w⟩ := p
        rw [hzl] at hi
        obtain ⟨h1, h2⟩ := List.getElem?_zip_eq_some.1 hp
        obtain rfl : sz = 3 := by
          rcases hsz with h | h
          · exact h
          · rw [h] at h1; simp at h1
        obtain rfl : sz' = 3 := by
          rcases hsz' with h | h
          · exact h
          · rw [h] at h2; simp at h2
        have he := val_eqv v w
        rw [hpp] at he
        simp only [Val.toV] at he
        exact ⟨by simp [l_ref01_SameRow_0, int_lt hi, h1, h2, Val.toV, he, drawEnd_nil], rfl⟩)
      (vars := [.sl nl sz (a.map Val.toV), .sl nl' sz' (b.map Val.toV), .bool false, .undef, .bool false, .int .i64 a.length, .int .i64 0, .undef, .undef]) (m := m) (by simp)
    have hab' : ¬ ((a.length : Int) ≠ b.length) := by omega
    rcases hq with ⟨h1, h2⟩ | ⟨h1, i, p, _, _, _, h2⟩
    · rw [← hz, h1]
      simp [vf_ref01_SameRow, hab] at h2 ⊢
      simp [h2]
    · rw [← hz, h1]
      simp [vf_ref01_SameRow, hab] at h2 ⊢
      simp [h2]
  · have hne : a ≠ b := fun h => hab (by rw [h])
    have hb : ((a.length : Int) != b.length) = true := ibne (by omega)
    simp [vf_ref01_SameRow, hne, hb]
theorem run_value_SameRow (x y : RowR) (hl : x.vals.length < 4611686018427387904) (m : Mem) : callL MM F.value_SameRow [x.toV, y.toV] m = some (.ret [.bool (decide (x.vals = y.vals))] m) := by
  rw [call_value_SameRow _ _ rfl]
  simp [vf_value_SameRow, run_slices_Equal x y hl]

/-! ### the reference -/
theorem run_ref01_IsInt (n : Int) (m : Mem) : callL MM F.ref01_IsInt [.int .i64 n] m = some (.ret [.bool (intOK n)] m) := by
  rw [call_ref01_IsInt _ _ rfl]
  by_cases h : (-1099511627776 : Int) ≤ n
  · simp [vf_ref01_IsInt, h, intOK, big]; rfl
  · simp [vf_ref01_IsInt, h, intOK, big]
theorem run_ref01_IsString (s : List UInt8) (hs : s.length < 4611686018427387904) (m : Mem) : callL MM F.ref01_IsString [.str s] m = some (.ret [.bool (strOK s)] m) := by
  rw [call_ref01_IsString _ _ rfl]
  have hq := loop_scan (cf := callL MM) (b := m.length) (L := m.length) (kill := [1, 3, 4]) (c := l_ref01_IsString_0) s (fun c => 32 ≤ c.toNat && c.toNat ≤ 126)
    (fun i => [.str s, .undef, .int .i64 i, .undef, .undef]) (fun _ => m)
    (.exit 0 [.str s, .undef, .int .i64 s.length, .bool false, .undef] m)
    (fun i _ => .ret [.str s, .bool false, .int .i64 i, .bool true, .bool true] m)
    ⟨by simp [l_ref01_IsString_0], rfl⟩
    (fun i c hc hi hp => by
      simp only [Bool.and_eq_true, decide_eq_true_eq] at hp
      have h1 : ¬ (c.toNat : Int) < 32 := by omega
      have h2 : ¬ 126 < (c.toNat : Int) := by omega
      simp [l_ref01_IsString_0, int_lt hi, hc, h1, h2, wrap_succ (show i < 4611686018427387904 by omega), drawEnd_nil])
    (fun i c hc hi hp => by
      refine ⟨?_, rfl⟩
      by_cases h1 : (c.toNat : Int) < 32
      · simp [l_ref01_IsString_0, int_lt hi, hc, h1, drawEnd_nil]
      · have h2 : 126 < (c.toNat : Int) := by
          have h3 : 32 ≤ c.toNat := by omega
          simp [h3] at hp
          omega
        simp [l_ref01_IsString_0, int_lt hi, hc, h1, h2, drawEnd_nil])
    (vars := [.str s, .bool false, .int .i64 0, .undef, .undef]) (m := m) (by simp)
  unfold strOK
  have hd : decide ((s.length : Int) ≤ 200) = decide (s.length ≤ 200) := by
    by_cases h : s.length ≤ 200
    · simp [h]; omega
    · simp [h]; omega
  rcases hq with ⟨h1, h2⟩ | ⟨h1, i, p, _, _, _, h2⟩
  · rw [h1]; simp [vf_ref01_IsString, h2, hd]
  · rw [h1]; simp [vf_ref01_IsString, h2]
theorem run_ref01_Valid (v : Val) (hv : v.t.length < 4611686018427387904) (m : Mem) : callL MM F.ref01_Valid [v.toV] m = some (.ret [.bool (valOK v)] m) := by
  rw [call_ref01_Valid _ _ rfl]
  obtain ⟨kd, n, t⟩ := v
  have h1 := run_ref01_IsInt n (.cells [.int .i64 kd, .int .i64 n, .str t] :: m)
  have h2 := run_ref01_IsString t hv (.cells [.int .i64 kd, .int .i64 n, .str t] :: m)
  by_cases k0 : kd = 0
  · subst k0
    by_cases hn : n = 0
    · subst hn; cases t <;> simp [vf_ref01_Valid, Val.toV, valOK, binStr]
    · simp [vf_ref01_Valid, Val.toV, valOK, hn, ibeq hn]
  by_cases k1 : kd = 1
  · subst k1
    cases hi : intOK n <;> rw [hi] at h1 <;> cases t <;> simp [vf_ref01_Valid, Val.toV, valOK, binStr, h1, hi]
  by_cases k2 : kd = 2
  · subst k2
    by_cases hn : n = 0
    · subst hn; simp [vf_ref01_Valid, Val.toV, valOK, h2]
    · simp [vf_ref01_Valid, Val.toV, valOK, hn, ibeq hn]
  by_cases k3 : kd = 3
  · subst k3
    by_cases hn : n = 0
    · subst hn; cases t <;> simp [vf_ref01_Valid, Val.toV, valOK, binStr]
    · by_cases hn1 : n = 1
      · subst hn1; cases t <;> simp [vf_ref01_Valid, Val.toV, valOK, binStr]
      · simp [vf_ref01_Valid, Val.toV, valOK, binStr, hn, hn1, ibeq hn, ibeq hn1]
  simp [vf_ref01_Valid, Val.toV, valOK, k0, k1, k2, k3, ibeq k0, ibeq k1, ibeq k2, ibeq k3]
theorem run_ref01_All (nl : Bool) (sz : Nat) (l : List Val) (hs : sz = 3 ∨ l = []) (hl : l.length < 4611686018427387904) (hv : ∀ v ∈ l, v.t.length < 4611686018427387904) (m : Mem) : callL MM F.ref01_All [.sl nl sz (l.map Val.toV)] m = some (.ret [.bool (l.all valOK)] m) := by
  rw [call_ref01_All _ _ rfl]
  have hq := loop_scan (cf := callL MM) (b := m.length) (L := m.length) (kill := [0, 1, 2, 6, 7]) (c := l_ref01_All_0) l valOK
    (fun i => [.undef, .undef, .undef, .sl nl sz (l.map Val.toV), .int .i64 l.length, .int .i64 i, .undef, .undef]) (fun _ => m)
    (.exit 0 [.undef, .undef, .undef, .sl nl sz (l.map Val.toV), .int .i64 l.length, .int .i64 l.length, .bool false, .undef] m)
    (fun i v => .ret [.undef, .bool false, .ptr m.length 0, .sl nl sz (l.map Val.toV), .int .i64 l.length, .int .i64 i, .bool true, .bool true] (.cells v.toV.cells :: m))
    ⟨by simp [l_ref01_All_0], rfl⟩
    (fun i v hc hi hp => by
      have h3 : sz = 3 := by
        rcases hs with h | h
        · exact h
        · rw [h] at hc; simp at hc
      subst h3
      have h := run_ref01_Valid v (hv v (List.mem_of_getElem? hc)) (.cells v.toV.cells :: m)
      rw [hp] at h
      simp only [Val.toV, cells_agg] at h ⊢
      simp [l_ref01_All_0, int_lt hi, hc, Val.toV, h, wrap_succ (show i < 4611686018427387904 by omega)])
    (fun i v hc hi hp => by
      have h3 : sz = 3 := by
        rcases hs with h | h
        · exact h
        · rw [h] at hc; simp at hc
      subst h3
      have h := run_ref01_Valid v (hv v (List.mem_of_getElem? hc)) (.cells v.toV.cells :: m)
      rw [hp] at h
      simp only [Val.toV, cells_agg] at h ⊢
      exact ⟨by simp [l_ref01_All_0, int_lt hi, hc, Val.toV, h], rfl⟩)
    (vars := [.sl nl sz (l.map Val.toV), .bool false, .undef, .sl nl sz (l.map Val.toV), .int .i64 l.length, .int .i64 0, .undef, .undef]) (m := m) (by simp)
  rcases hq with ⟨h1, h2⟩ | ⟨h1, i, p, _, _, _, h2⟩
  · rw [h1]; simp [vf_ref01_All, h2]
  · rw [h1]; simp [vf_ref01_All, h2]
theorem run_ref01_IsRow (x : RowR) (hl : x.vals.length < 4611686018427387904) (hv : ∀ v ∈ x.vals, v.t.length < 4611686018427387904) (m : Mem) : callL MM F.ref01_IsRow [x.toV] m = some (.ret [.bool (rowOK x.vals)] m) := by
  obtain ⟨nl, sz, hx, hsz⟩ := x.shape
  rw [call_ref01_IsRow _ _ rfl, hx]
  have h := run_ref01_All nl sz x.vals hsz hl hv m
  unfold rowOK
  by_cases h20 : x.vals.length ≤ 20
  · have h20' : (x.vals.length : Int) ≤ 20 := by omega
    simp [vf_ref01_IsRow, h20, h20', h]
  · have h20' : ¬ (x.vals.length : Int) ≤ 20 := by omega
    simp [vf_ref01_IsRow, h20, h20']
end Go.Vm.Redo
-- RS4: Walks: names in the reference.
set_option maxRecDepth 100000
namespace Go.Vm.Redo
open Go Go.Vm

theorem run_ref02_shaped (s : List UInt8) (hs : s.length < 4611686018427387904) (m : Mem) : callL MM F.ref02_shaped [.str s] m = some (.ret [.bool (shaped s)] m) := by
  rw [call_ref02_shaped _ _ rfl]
  have hq := loop_scan (cf := callL MM) (b := m.length) (L := m.length) (kill := [1, 3, 4]) (c := l_ref02_shaped_0) s namedB
    (fun i => [.str s, .undef, .int .i64 i, .undef, .undef]) (fun _ => m)
    (.exit 0 [.str s, .undef, .int .i64 s.length, .bool false, .undef] m)
    (fun i _ => .ret [.str s, .bool false, .int .i64 i, .bool true, .bool true] m)
    ⟨by simp [l_ref02_shaped_0], rfl⟩
    (fun i c hc hi hp => by
      have h := run_ref02_named c m
      rw [hp] at h
      simp [l_ref02_shaped_0, int_lt hi, hc, h, wrap_succ (show i < 4611686018427387904 by omega)])
    (fun i c hc hi hp => by
      have h := run_ref02_named c m
      rw [hp] at h
      exact ⟨by simp [l_ref02_shaped_0, int_lt hi, hc, h], rfl⟩)
    (vars := [.str s, .bool false, .int .i64 0, .undef, .undef]) (m := m) (by simp)
  unfold shaped
  rcases hq with ⟨h1, h2⟩ | ⟨h1, i, p, _, _, _, h2⟩
  · rw [h1]
    cases s with
    | nil => simp [vf_ref02_shaped, h2, binStr]
    | cons a l =>
      have h := run_ref02_small a m
      simp [vf_ref02_shaped, h2, binStr, h]
  · rw [h1]; simp [vf_ref02_shaped, h2]

/-- All words, blanks between. -/
def wordsW : List UInt8 := [32, 97, 100, 100, 32, 97, 102, 116, 101, 114, 32, 97, 108, 108, 32, 97, 108, 116, 101, 114, 32, 97, 110, 100, 32, 97, 114, 114, 97, 121, 32, 97, 115, 32, 97, 117, 116, 111, 110, 111, 109, 111, 117, 115, 32, 98, 101, 102, 111, 114, 101, 32, 98, 101, 103, 105, 110, 32, 98, 101, 116, 119, 101, 101, 110, 32, 98, 111, 111, 108, 32, 98, 117, 108, 107, 32, 98, 121, 32, 99, 97, 99, 104, 101, 32, 99, 97, 115, 101, 32, 99, 104, 101, 99, 107, 32, 99, 108, 111, 115, 101, 32, 99, 111, 108, 108, 101, 99, 116, 32, 99, 111, 109, 109, 105, 116, 32, 99, 111, 110, 115, 116, 114, 97, 105, 110, 116, 32, 99, 111, 117, 110, 116, 32, 99, 114, 101, 97, 116, 101, 32, 99, 117, 114, 115, 111, 114, 32, 100, 101, 99, 108, 97, 114, 101, 32, 100, 101, 102, 97, 117, 108, 116, 32, 100, 101, 102, 101, 114, 114, 101, 100, 32, 100, 101, 108, 101, 116, 101, 32, 100, 101, 115, 99, 32, 100, 105, 115, 116, 105, 110, 99, 116, 32, 100, 114, 111, 112, 32, 101, 97, 99, 104, 32, 101, 108, 115, 101, 32, 101, 108, 115, 105, 102, 32, 101, 110, 100, 32, 101, 120, 99, 101, 112, 116, 105, 111, 110, 32, 101, 120, 101, 99, 117, 116, 101, 32, 101, 120, 105, 115, 116, 115, 32, 101, 120, 105, 116, 32, 102, 97, 108, 115, 101, 32, 102, 101, 116, 99, 104, 32, 102, 111, 114, 32, 102, 111, 114, 97, 108, 108, 32, 102, 111, 114, 101, 105, 103, 110, 32, 102, 111, 117, 110, 100, 32, 102, 114, 111, 109, 32, 102, 117, 110, 99, 116, 105, 111, 110, 32, 103, 114, 97, 110, 116, 32, 103, 114, 111, 117, 112, 32, 104, 97, 118, 105, 110, 103, 32, 105, 102, 32, 105, 110, 32, 105, 110, 100, 101, 120, 32, 105, 110, 115, 101, 114, 116, 32, 105, 110, 116, 32, 105, 110, 116, 111, 32, 105, 110, 118, 111, 107, 101, 114, 32, 105, 115, 32, 105, 115, 111, 112, 101, 110, 32, 107, 101, 121, 32, 108, 105, 107, 101, 32, 108, 105, 109, 105, 116, 32, 108, 111, 111, 112, 32, 109, 111, 100, 32, 110, 101, 119, 32, 110, 111, 116, 32, 110, 111, 116, 102, 111, 117, 110, 100, 32, 110, 117, 108, 108, 32, 111, 102, 32, 111, 108, 100, 32, 111, 110, 32, 111, 112, 101, 110, 32, 111, 114, 32, 111, 114, 100, 101, 114, 32, 111, 117, 116, 32, 112, 97, 99, 107, 97, 103, 101, 32, 112, 114, 105, 109, 97, 114, 121, 32, 112, 114, 105, 118, 97, 116, 101, 32, 112, 114, 111, 99, 101, 100, 117, 114, 101, 32, 114, 97, 105, 115, 101, 32, 114, 101, 102, 101, 114, 101, 110, 99, 101, 115, 32, 114, 101, 112, 108, 97, 99, 101, 32, 114, 101, 116, 117, 114, 110, 32, 114, 101, 118, 101, 114, 115, 101, 32, 114, 101, 118, 111, 107, 101, 32, 114, 111, 108, 108, 98, 97, 99, 107, 32, 114, 111, 119, 32, 114, 111, 119, 99, 111, 117, 110, 116, 32, 115, 97, 118, 101, 112, 111, 105, 110, 116, 32, 115, 101, 108, 101, 99, 116, 32, 115, 101, 113, 117, 101, 110, 99, 101, 32, 115, 101, 116, 32, 115, 113, 108, 32, 115, 116, 97, 114, 116, 32, 116, 97, 98, 108, 101, 32, 116, 101, 120, 116, 32, 116, 104, 101, 110, 32, 116, 111, 32, 116, 114, 105, 103, 103, 101, 114, 32, 116, 114, 117, 101, 32, 117, 110, 105, 113, 117, 101, 32, 117, 112, 100, 97, 116, 101, 32, 117, 115, 101, 114, 32, 118, 97, 108, 117, 101, 115, 32, 118, 105, 101, 119, 32, 119, 104, 101, 110, 32, 119, 104, 101, 114, 101, 32, 119, 104, 105, 108, 101, 32]
/-- The search, over any string. -/
def findW (W : List UInt8) : VC := .seq
 (.seq
 (.reg [⟨none, .mov (.v 3), none⟩,
  ⟨none, .mov (.v 0), none⟩,
  ⟨none, .len true (.l 0), none⟩,
  ⟨none, .bin .add (.l 2) (.l 0), none⟩,
  ⟨(some 7), .bin .leq (.l 0) (.c (.int .i64 (662))), none⟩])
 (.cond (.v 7)
 (.skip)
 (.exit 2)))
 (.seq
 (.block 3 (.seq
 (.reg [⟨none, .mov (.v 3), none⟩,
  ⟨none, .mov (.v 3), none⟩,
  ⟨none, .mov (.v 0), none⟩,
  ⟨none, .len true (.l 0), none⟩,
  ⟨none, .bin .add (.l 2) (.l 0), none⟩,
  ⟨none, .slice none (.c (.str W)) (some (.l 4)) (some (.l 0)) none, none⟩,
  ⟨none, .mov (.v 0), none⟩,
  ⟨(some 8), .bin .eql (.l 1) (.l 0), none⟩])
 (.cond (.v 8)
 (.seq
 (.reg [⟨(some 1), .mov (.c (.bool true)), none⟩])
 (.ret))
 (.skip))))
 (.reg [⟨none, .mov (.v 3), none⟩,
  ⟨none, .bin .add (.l 0) (.c (.int .i64 (1))), none⟩,
  ⟨(some 3), .mov (.l 0), none⟩]))
theorem findW_eq : l_ref02_Word_1 = findW wordsW := rfl
theorem wordsW_len : wordsW.length = 662 := by decide +kernel
/-- What stands at a place. -/
def winW (W : List UInt8) (i n : Nat) : List UInt8 := (W.take (i + n)).drop i

theorem findW_loop (W : List UInt8) (hW : W.length = 662) (t : List UInt8) (ht : t.length < 4000000000000000000) (m : Mem) (u1 u2 u5 : V) :
    ((List.range (663 - t.length)).all (fun i => decide (winW W i t.length ≠ t)) = true ∧ loopL (callL MM) m.length m.length [1, 2, 4, 5, 6, 7, 8] (findW W) [.str t, u1, u2, .int .i64 0, .undef, u5, .undef, .undef, .undef] m = some (.exit 2 [.str t, .undef, .undef, .int .i64 (663 - t.length : Nat), .undef, .undef, .undef, .bool false, .undef] m)) ∨
    ((List.range (663 - t.length)).all (fun i => decide (winW W i t.length ≠ t)) = false ∧ ∃ i : Nat, loopL (callL MM) m.length m.length [1, 2, 4, 5, 6, 7, 8] (findW W) [.str t, u1, u2, .int .i64 0, .undef, u5, .undef, .undef, .undef] m = some (.ret [.str t, .bool true, .undef, .int .i64 i, .undef, .undef, .undef, .bool true, .bool true] m)) := by
  have hq := loop_scan (cf := callL MM) (b := m.length) (L := m.length) (kill := [1, 2, 4, 5, 6, 7, 8]) (c := findW W) (List.range (663 - t.length)) (fun i => decide (winW W i t.length ≠ t))
    (fun i => [.str t, .undef, .undef, .int .i64 i, .undef, .undef, .undef, .undef, .undef]) (fun _ => m)
    (.exit 2 [.str t, .undef, .undef, .int .i64 (663 - t.length : Nat), .undef, .undef, .undef, .bool false, .undef] m)
    (fun i _ => .ret [.str t, .bool true, .undef, .int .i64 i, .undef, .undef, .undef, .bool true, .bool true] m)
    ⟨by
      have w1 : IntKind.i64.wrap ((663 - t.length : Nat) + t.length : Int) = ((663 - t.length : Nat) + t.length : Int) := wrap64_id (by omega) (by omega)
      have w2 : ¬ ((663 - t.length : Nat) + t.length : Int) ≤ 662 := by omega
      rw [List.length_range]
      simp only [findW]
      generalize ((663 - t.length : Nat) : Int) = z at *
      simp [w1, w2], rfl⟩
    (fun i j hj hi hp => by
      rw [List.length_range] at hi
      obtain rfl : j = i := by simpa [hi] using hj.symm
      have w1 : IntKind.i64.wrap ((j : Int) + t.length) = ((j + t.length : Nat) : Int) := by rw [wrap64_id (by omega) (by omega)]; omega
      have w2 : ((j + t.length : Nat) : Int) ≤ 662 := by omega
      have w3 : ((j + t.length : Nat) : Int) ≤ (W.length : Int) := by omega
      have w4 : (j : Int) ≤ ((j + t.length : Nat) : Int) := by omega
      have w5 : ((j + t.length : Nat) : Int).toNat = j + t.length := by omega
      have w6 := wrap_succ (show j < 4611686018427387904 by omega)
      have w7 : (0 : Int) ≤ ((j + t.length : Nat) : Int) := by omega
      have hne : ((W.take (j + t.length)).drop j == t) = false := beq_eq_false_iff_ne.2 (of_decide_eq_true hp)
      generalize hz : ((j + t.length : Nat) : Int) = z at *
      simp [findW, w1, w2, w3, w4, w5, w6, w7, binStr, hne])
    (fun i j hj hi hp => by
      rw [List.length_range] at hi
      obtain rfl : j = i := by simpa [hi] using hj.symm
      have w1 : IntKind.i64.wrap ((j : Int) + t.length) = ((j + t.length : Nat) : Int) := by rw [wrap64_id (by omega) (by omega)]; omega
      have w2 : ((j + t.length : Nat) : Int) ≤ 662 := by omega
      have w3 : ((j + t.length : Nat) : Int) ≤ (W.length : Int) := by omega
      have w4 : (j : Int) ≤ ((j + t.length : Nat) : Int) := by omega
      have w5 : ((j + t.length : Nat) : Int).toNat = j + t.length := by omega
      have w7 : (0 : Int) ≤ ((j + t.length : Nat) : Int) := by omega
      have he : ((W.take (j + t.length)).drop j == t) = true := beq_iff_eq.2 (Decidable.of_not_not (of_decide_eq_false hp))
      generalize hz : ((j + t.length : Nat) : Int) = z at *
      exact ⟨by simp [findW, w1, w2, w3, w4, w5, w7, binStr, he], rfl⟩)
    (vars := [.str t, u1, u2, .int .i64 0, .undef, u5, .undef, .undef, .undef]) (m := m) (by simp)
  rcases hq with h | ⟨h1, i, _, _, _, _, h2⟩
  · exact .inl h
  · exact .inr ⟨h1, i, h2⟩

/-! ### the words -/
def wordIdx : List Nat := [425, 20, 392, 354, 405, 321, 57, 368, 384, 608, 248, 388, 413, 571, 279, 396, 357, 532, 127, 236, 84, 644, 592, 203, 214, 551, 184, 285, 649, 305, 75, 311, 428, 179, 260, 620, 30, 410, 330, 341, 632, 567, 172, 337, 587, 65, 24, 140, 218, 147, 51, 243, 497, 472, 318, 208, 655, 379, 504, 420, 95, 254, 70, 101, 373, 264, 109, 519, 597, 541, 434, 462, 290, 33, 133, 489, 193, 14, 581, 0, 299, 417, 512, 10, 627, 324, 558, 575, 78, 639, 346, 438, 454, 600, 44, 4, 198, 528, 155, 116, 613, 446, 364, 89, 271, 478, 163, 228]
theorem words_there : (List.zip wordL wordIdx).all (fun p => decide (p.2 < 663 - (p.1.length + 2)) && decide (winW wordsW p.2 (p.1.length + 2) = 32 :: p.1 ++ [32])) = true := by decide +kernel
theorem words_only : (List.range 662).all (fun i => !((wordsW.drop i).headD 0 == 32) || (decide (i = 661)) || wordL.contains ((wordsW.drop (i + 1)).takeWhile (fun c => c != 32))) = true := by decide +kernel
theorem word_found (s : List UInt8) (hs : s.all smallB = true) (hne : s ≠ []) : (List.range (663 - (s.length + 2))).all (fun i => decide (winW wordsW i (s.length + 2) ≠ 32 :: s ++ [32])) = !isWord s := by
  cases hw : isWord s with
  | true =>
    unfold isWord at hw
    rw [List.contains_iff_mem] at hw
    obtain ⟨k, hk⟩ := List.mem_iff_getElem?.1 hw
    have hlt := (List.getElem?_eq_some_iff.1 hk).1
    have hlen : wordIdx.length = wordL.length := by decide +kernel
    obtain ⟨j, hj⟩ : ∃ j, wordIdx[k]? = some j := ⟨_, List.getElem?_eq_getElem (by rw [hlen]; exact hlt)⟩
    have hz : (List.zip wordL wordIdx)[k]? = some (s, j) := List.getElem?_zip_eq_some.2 ⟨hk, hj⟩
    have := List.all_eq_true.1 words_there _ (List.mem_of_getElem? hz)
    simp only [Bool.and_eq_true, decide_eq_true_eq] at this
    rw [Bool.not_true, List.all_eq_false]
    exact ⟨j, List.mem_range.2 this.1, by simpa using this.2⟩
  | false =>
    rw [Bool.not_false, List.all_eq_true]
    intro i hi
    have hi := List.mem_range.1 hi
    rw [decide_eq_true_eq]
    intro hwin
    have h1 := List.all_eq_true.1 words_only i (List.mem_range.2 (by omega))
    have hL := wordsW_len
    have hd : wordsW.drop i = (32 :: s ++ [32]) ++ wordsW.drop (i + (s.length + 2)) := by
      unfold winW at hwin
      rw [← hwin, List.drop_take, Nat.add_sub_cancel_left, ← List.drop_drop, List.take_append_drop]
    have hd1 : wordsW.drop (i + 1) = s ++ (32 :: wordsW.drop (i + (s.length + 2))) := by
      rw [← List.drop_drop, hd]; simp
    have htw : (wordsW.drop (i + 1)).takeWhile (fun c => c != 32) = s := by
      rw [hd1, List.takeWhile_append_of_pos]
      · simp
      · intro c hc
        have := List.all_eq_true.1 hs c hc
        simp only [smallB, Bool.and_eq_true, decide_eq_true_eq] at this
        have hne : c ≠ 32 := by rintro rfl; exact absurd this.1 (by decide)
        simpa using hne
    rw [htw, hd] at h1
    have h661 : ¬ i = 661 := by
      have := List.length_pos_iff.2 hne
      omega
    unfold isWord at hw
    simp [h661] at h1
    rw [List.contains_iff_mem.2 h1] at hw
    cases hw
theorem word_small (s : List UInt8) (h : isWord s = true) : s.all smallB = true ∧ s ≠ [] := by
  have hall : wordL.all (fun w => w.all smallB && decide (w ≠ [])) = true := by decide +kernel
  unfold isWord at h
  have := List.all_eq_true.1 hall s (List.contains_iff_mem.1 h)
  simpa using this

theorem run_ref02_Word (s : List UInt8) (hs : s.length < 1000000000000000000) (m : Mem) : callL MM F.ref02_Word [.str s] m = some (.ret [.bool (isWord s)] m) := by
  rw [call_ref02_Word _ _ rfl]
  by_cases hne : s = []
  · subst hne
    have : isWord [] = false := by decide +kernel
    rw [this]
    simp [vf_ref02_Word, binStr]
  have hne' : (s == []) = false := by simpa using hne
  have hq := loop_scan (cf := callL MM) (b := m.length) (L := m.length) (kill := [1, 3, 4, 5, 6, 7, 8]) (c := l_ref02_Word_0) s smallB
    (fun i => [.str s, .undef, .int .i64 i, .undef, .undef, .undef, .undef, .undef, .undef]) (fun _ => m)
    (.exit 0 [.str s, .undef, .int .i64 s.length, .undef, .undef, .bool false, .undef, .undef, .undef] m)
    (fun i _ => .ret [.str s, .bool false, .int .i64 i, .undef, .undef, .bool true, .bool true, .undef, .undef] m)
    ⟨by simp [l_ref02_Word_0], rfl⟩
    (fun i c hc hi hp => by
      have h := run_ref02_small c m
      rw [hp] at h
      simp [l_ref02_Word_0, int_lt hi, hc, h, wrap_succ (show i < 4611686018427387904 by omega)])
    (fun i c hc hi hp => by
      have h := run_ref02_small c m
      rw [hp] at h
      exact ⟨by simp [l_ref02_Word_0, int_lt hi, hc, h], rfl⟩)
    (vars := [.str s, .bool false, .int .i64 0, .undef, .bool false, .undef, .undef, .undef, .undef]) (m := m) (by simp)
  rcases hq with ⟨h1, h2⟩ | ⟨h1, i, p, _, _, _, h2⟩
  · have w1' : ¬ (9223372036854775807 : Int) < 1 + (s.length : Int) := by omega
    have w2' : ¬ (9223372036854775807 : Int) < (s.length : Int) + 1 + 1 := by omega
    have hl := findW_loop wordsW wordsW_len ([32] ++ s ++ [32]) (by simp; omega) m .undef (.int .i64 s.length) (.bool false)
    have hlen : ([32] ++ s ++ [32]).length = s.length + 2 := by simp
    have hwf := word_found s h1 hne
    have e : [32] ++ s ++ [32] = 32 :: s ++ [32] := rfl
    rw [hlen, e, hwf] at hl
    have e2 : l_ref02_Word_1 = findW wordsW := findW_eq
    generalize findW wordsW = C at hl e2
    simp only [e, List.cons_append] at hl
    rcases hl with ⟨h3, h4⟩ | ⟨h3, i, h4⟩
    · have hb : isWord s = false := by simpa using h3
      rw [hb]
      simp [vf_ref02_Word, binStr, hne', h2, e2, w1', w2', h4]
    · have hb : isWord s = true := by simpa using h3
      rw [hb]
      simp [vf_ref02_Word, binStr, hne', h2, e2, w1', w2', h4]
  · have hb : isWord s = false := by
      cases hw : isWord s with
      | false => rfl
      | true => rw [(word_small s hw).1] at h1; cases h1
    rw [hb]
    simp [vf_ref02_Word, binStr, hne', h2]
theorem run_ref02_IsName (s : List UInt8) (hs : s.length < 1000000000000000000) (m : Mem) : callL MM F.ref02_IsName [.str s] m = some (.ret [.bool (isName s)] m) := by
  rw [call_ref02_IsName _ _ rfl]
  have h1 := run_ref02_shaped s (by omega) m
  have h2 := run_ref02_Word s hs m
  unfold isName
  by_cases h30 : s.length ≤ 30
  · have h30' : (s.length : Int) ≤ 30 := by omega
    cases h : shaped s <;> rw [h] at h1 <;> simp [vf_ref02_IsName, h1, h2, h30, h30']
  · have h30' : ¬ (s.length : Int) ≤ 30 := by omega
    cases h : shaped s <;> rw [h] at h1 <;> simp [vf_ref02_IsName, h1, h30, h30']
end Go.Vm.Redo
-- RN0: Walks: the reference's bytes.
set_option maxRecDepth 100000
namespace Go.Vm.Redo
open Go Go.Vm

/-- A row of bytes that grows. -/
def IsG (m : Mem) (k : Nat) (born : Bool) (bs : List UInt8) : Prop := look m k = some (.buf 1 born (bytesV bs))
def putG (m : Mem) (k : Nat) (born : Bool) (bs : List UInt8) : Mem := upd m k (.buf 1 born (bytesV bs))
section
variable {m : Mem} {k : Nat} {born : Bool} {bs : List UInt8}
theorem IsG.put (h : IsG m k born bs) (ys : List UInt8) : IsG (putG m k born ys) k born ys := look_upd (look_lt h)
@[simp] theorem putG_put (xs ys : List UInt8) : putG (putG m k born xs) k born ys = putG m k born ys := by unfold putG; rw [upd_upd]
theorem putG_self (h : IsG m k born bs) : putG m k born bs = m := upd_self h
@[simp] theorem putG_len {xs : List UInt8} : (putG m k born xs).length = m.length := by simp [putG]
theorem IsG.cons (h : IsG m k born bs) (o : O) : IsG (o :: m) k born bs := by unfold IsG; rw [look_cons_old (look_lt h)]; exact h
theorem putG_cons {ys : List UInt8} (h : k < m.length) (o : O) : putG (o :: m) k born ys = o :: putG m k born ys := by unfold putG; rw [upd_cons_old h]
end

theorem run_ref20_Number (m : Mem) (k : Nat) (born : Bool) (bs : List UInt8) (h : IsG m k born bs) (x : Int) (j : Nat) (hb : bs.length + j < 100000000) (hj : j ≤ 8) :
    callL MM F.ref20_Number [.gs k bs.length, .int .i64 x, .int .i64 j] m = some (.ret [.gs k (bs ++ beB x j).length] (putG m k born (bs ++ beB x j))) := by
  rw [call_ref20_Number _ _ rfl]
  have hlt := look_lt h
  have loop : ∀ (j : Nat) (m : Mem) (bs : List UInt8) (v2 v3 v5 : V), IsG m k born bs → bs.length + j < 100000000 → j ≤ 8 →
      loopL (callL MM) m.length m.length [2, 3, 5] l_ref20_Number_0 [.gs k bs.length, .int .i64 x, v2, v3, .int .i64 ((j : Int) - 1), v5] m = some (.exit 0 [.gs k (bs ++ beB x j).length, .int .i64 x, .undef, .undef, .int .i64 (-1), .bool false] (putG m k born (bs ++ beB x j))) := by
    intro j
    induction j with
    | zero =>
      intro m bs v2 v3 v5 h hb hj
      have hlt := look_lt h
      refine loop_end (fresh_flat rfl (by simp [hlt])) ?_ rfl
      rw [beB, List.append_nil, putG_self h]
      simp [l_ref20_Number_0]
    | succ j ih =>
      intro m bs v2 v3 v5 h hb hj
      have hlt := look_lt h
      have e : ((j + 1 : Nat) : Int) - 1 = (j : Int) := by omega
      have w1 : IntKind.i64.wrap (8 * (j : Int)) = 8 * (j : Int) := wrap64_id (by omega) (by omega)
      have w1' : IntKind.u64.wrap (8 * (j : Int)) = 8 * (j : Int) := by rw [IntKind.wrap_u64]; omega
      have w2 : ¬ (8 * (j : Int) < 0) := by omega
      have w3 : (8 * (j : Int)).toNat = 8 * j := by omega
      have w4 : IntKind.i64.wrap ((j : Int) - 1) = (j : Int) - 1 := wrap64_id (by omega) (by omega)
      have w5 : IntKind.i64.bits = 64 := rfl
      have w6 : bs.length + 1 ≤ 140737488355328 := by omega
      have hr : rnd (callL MM) m.length m.length [2, 3, 5] l_ref20_Number_0 [.gs k bs.length, .int .i64 x, .undef, .undef, .int .i64 j, .undef] m = some ([.gs k (bs ++ [UInt8.ofNat (x.fdiv (2 ^ (Nat.min (8 * j) 64)) % 256).toNat]).length, .int .i64 x, .undef, .undef, .int .i64 ((j : Int) - 1), .undef], putG m k born (bs ++ [UInt8.ofNat (x.fdiv (2 ^ (Nat.min (8 * j) 64)) % 256).toNat])) := by
        have hg := h
        unfold IsG at hg
        simp [l_ref20_Number_0, hg, hlt, w1, w1', w2, w3, w4, w5, w6, bytesV_len, putG, bytesV_append]
        rw [u8_wrap]; rfl
      obtain ⟨v', m', h1, h2⟩ := rnd_some hr
      rw [e, loop_next (fresh_flat rfl (by simp [hlt])) h1]
      have := ih (putG m k born (bs ++ [UInt8.ofNat (x.fdiv (2 ^ (Nat.min (8 * j) 64)) % 256).toNat])) _ .undef .undef .undef (h.put _) (by simp; omega) (by omega)
      rw [putG_len, putG_put, List.append_assoc] at this
      rw [loop_eq] at this ⊢
      rw [h2]
      rw [fresh_flat (by simp) (by simp [hlt])] at this
      exact this
  have hl := loop j m bs (.int .i64 j) (.sl true 0 []) .undef h hb hj
  have w1 : IntKind.i64.wrap ((j : Int) - 1) = (j : Int) - 1 := wrap64_id (by omega) (by omega)
  simp [vf_ref20_Number, w1, hl, hlt]
end Go.Vm.Redo
-- RS5: Walks: records the same; which fields they have.
set_option maxRecDepth 100000
namespace Go.Vm.Redo
open Go Go.Vm

/-- What any record that can be handed in is. -/
structure Rec.Fit (x : Rec) : Prop where
  owner : x.owner.length ≤ 140737488355328
  name : x.name.length ≤ 140737488355328
  text : x.text.length ≤ 140737488355328
  row : x.row.vals.length ≤ 140737488355328
  vals : ∀ v ∈ x.row.vals, v.t.length ≤ 140737488355328

theorem run_redo_Same (x y : Rec) (hl : x.row.vals.length < 4611686018427387904) (m : Mem) : callL MM F.redo_Same [x.toV, y.toV] m = some (.ret [.bool (sameR x y)] m) := by
  rw [call_redo_Same _ _ rfl]
  have h := run_value_SameRow x.row y.row hl (.cells y.cells :: .cells x.cells :: m)
  obtain ⟨op, txn, owner, name, id, row, time, text, n⟩ := x
  obtain ⟨op', txn', owner', name', id', row', time', text', n'⟩ := y
  simp only [Rec.cells, Rec.toV, sameR] at *
  by_cases h1 : op = op'
  rotate_left
  · simp [vf_redo_Same, h1, ibeq h1]
  subst h1
  by_cases h1 : txn = txn'
  rotate_left
  · simp [vf_redo_Same, h1, ibeq h1]
  subst h1
  by_cases h1 : owner = owner'
  rotate_left
  · simp [vf_redo_Same, binStr, bytes_beq, h1]
  subst h1
  by_cases h1 : name = name'
  rotate_left
  · simp [vf_redo_Same, binStr, bytes_beq, h1]
  subst h1
  by_cases h1 : id = id'
  rotate_left
  · simp [vf_redo_Same, binStr, bytes_beq, h1, ibeq h1]
  subst h1
  by_cases h1 : time = time'
  rotate_left
  · simp [vf_redo_Same, binStr, bytes_beq, h1, ibeq h1]
  subst h1
  by_cases h1 : text = text'
  rotate_left
  · simp [vf_redo_Same, binStr, bytes_beq, h1]
  subst h1
  by_cases h1 : n = n'
  rotate_left
  · simp [vf_redo_Same, binStr, bytes_beq, h1, ibeq h1]
  subst h1
  simp [vf_redo_Same, binStr, bytes_beq, h]

theorem run_ref20_Same (x y : Rec) (hl : x.row.vals.length < 4611686018427387904) (m : Mem) : callL MM F.ref20_Same [x.toV, y.toV] m = some (.ret [.bool (sameR x y)] m) := by
  rw [call_ref20_Same _ _ rfl]
  have h := run_ref01_SameRow x.row y.row hl (.cells y.cells :: .cells x.cells :: m)
  obtain ⟨op, txn, owner, name, id, row, time, text, n⟩ := x
  obtain ⟨op', txn', owner', name', id', row', time', text', n'⟩ := y
  simp only [Rec.cells, Rec.toV, sameR] at *
  by_cases h1 : op = op'
  rotate_left
  · simp [vf_ref20_Same, h1, ibeq h1]
  subst h1
  by_cases h1 : txn = txn'
  rotate_left
  · simp [vf_ref20_Same, h1, ibeq h1]
  subst h1
  by_cases h1 : owner = owner'
  rotate_left
  · simp [vf_ref20_Same, binStr, bytes_beq, h1]
  subst h1
  by_cases h1 : name = name'
  rotate_left
  · simp [vf_ref20_Same, binStr, bytes_beq, h1]
  subst h1
  by_cases h1 : id = id'
  rotate_left
  · simp [vf_ref20_Same, binStr, bytes_beq, h1, ibeq h1]
  subst h1
  by_cases h2 : row.vals = row'.vals
  rotate_left
  · simp only [h2, decide_false] at h
    simp [vf_ref20_Same, binStr, bytes_beq, h2, h]
  simp only [h2, decide_true] at h
  by_cases h1 : time = time'
  rotate_left
  · simp [vf_ref20_Same, binStr, bytes_beq, h, h1, ibeq h1]
  subst h1
  by_cases h1 : text = text'
  rotate_left
  · simp [vf_ref20_Same, binStr, bytes_beq, h, h1]
  subst h1
  by_cases h1 : n = n'
  rotate_left
  · simp [vf_ref20_Same, binStr, bytes_beq, h, h1, ibeq h1]
  subst h1
  simp [vf_ref20_Same, binStr, bytes_beq, h, h2]

/-! ### fields -/
def fieldsV (op : Int) : V := match fieldsOf op with
  | some l => .sl false 1 (l.map (.int .i64))
  | none => .sl true 0 []
/-- The reference's letters for fields. -/
def lettersOf (op : Int) : Option (List UInt8) :=
  if op = 1 ∨ op = 2 then some [84, 79, 78, 73, 82] else if op = 3 then some [84, 79, 78, 73] else if op = 4 then some [84, 66] else if op = 5 then some [84, 67] else if op = 6 then some [84]
  else if op = 7 then some [84, 80] else if op = 8 then some [79, 68] else if op = 9 then some [79, 78] else if op = 10 then some [79, 78, 77] else if op = 11 then some [] else none
theorem op_cases (op : Int) : (op = 1 ∨ op = 2 ∨ op = 3 ∨ op = 4 ∨ op = 5 ∨ op = 6 ∨ op = 7 ∨ op = 8 ∨ op = 9 ∨ op = 10 ∨ op = 11) ∨ (op ≠ 1 ∧ op ≠ 2 ∧ op ≠ 3 ∧ op ≠ 4 ∧ op ≠ 5 ∧ op ≠ 6 ∧ op ≠ 7 ∧ op ≠ 8 ∧ op ≠ 9 ∧ op ≠ 10 ∧ op ≠ 11) := by omega
theorem run_redo_fields (op : Int) (m : Mem) : callL MM F.redo_fields [.int .i64 op] m = some (.ret [fieldsV op] m) := by
  rw [call_redo_fields _ _ rfl]
  rcases op_cases op with h | ⟨h1, h2, h3, h4, h5, h6, h7, h8, h9, h10, h11⟩
  · rcases h with rfl | rfl | rfl | rfl | rfl | rfl | rfl | rfl | rfl | rfl | rfl <;> simp [vf_redo_fields, fieldsV, fieldsOf]
  · simp [vf_redo_fields, fieldsV, fieldsOf, h1, h2, h3, h4, h5, h6, h7, h8, h9, h10, h11, ibeq h1, ibeq h2, ibeq h3, ibeq h4, ibeq h5, ibeq h6, ibeq h7, ibeq h8, ibeq h9, ibeq h10, ibeq h11]
theorem run_ref20_Fields (op : Int) (m : Mem) : callL MM F.ref20_Fields [.int .i64 op] m = some (.ret [.str ((lettersOf op).getD []), .bool (lettersOf op).isSome] m) := by
  rw [call_ref20_Fields _ _ rfl]
  rcases op_cases op with h | ⟨h1, h2, h3, h4, h5, h6, h7, h8, h9, h10, h11⟩
  · rcases h with rfl | rfl | rfl | rfl | rfl | rfl | rfl | rfl | rfl | rfl | rfl <;> simp [vf_ref20_Fields, lettersOf]
  · simp [vf_ref20_Fields, lettersOf, h1, h2, h3, h4, h5, h6, h7, h8, h9, h10, h11, ibeq h1, ibeq h2, ibeq h3, ibeq h4, ibeq h5, ibeq h6, ibeq h7, ibeq h8, ibeq h9, ibeq h10, ibeq h11]
end Go.Vm.Redo
-- RS6: Walks: valid records, the program's.
set_option maxRecDepth 100000
namespace Go.Vm.Redo
open Go Go.Vm

theorem joint_loop_p (c : UInt8) : (33 ≤ c.toNat && c.toNat ≤ 126) = (!decide ((c.toNat : Int) < 33) && !decide (126 < (c.toNat : Int))) := by
  by_cases h1 : 33 ≤ c.toNat <;> by_cases h2 : c.toNat ≤ 126 <;> simp [h1, h2] <;> omega
theorem run_redo_isJoint (s : List UInt8) (hs : s.length < 4611686018427387904) (m : Mem) : callL MM F.redo_isJoint [.str s] m = some (.ret [.bool (joint s)] m) := by
  rw [call_redo_isJoint _ _ rfl]
  have hq := loop_scan (cf := callL MM) (b := m.length) (L := m.length) (kill := [1, 2, 5, 6]) (c := l_redo_isJoint_0) s (fun c => 33 ≤ c.toNat && c.toNat ≤ 126)
    (fun i => [.str s, .undef, .undef, .int .i64 s.length, .int .i64 i, .undef, .undef]) (fun _ => m)
    (.exit 0 [.str s, .undef, .undef, .int .i64 s.length, .int .i64 s.length, .bool false, .undef] m)
    (fun i _ => .ret [.str s, .bool false, .int .i64 i, .int .i64 s.length, .int .i64 i, .bool true, .bool true] m)
    ⟨by simp [l_redo_isJoint_0], rfl⟩
    (fun i c hc hi hp => by
      simp only [Bool.and_eq_true, decide_eq_true_eq] at hp
      have h1 : ¬ (c.toNat : Int) < 33 := by omega
      have h2 : ¬ 126 < (c.toNat : Int) := by omega
      simp [l_redo_isJoint_0, int_lt hi, hc, h1, h2, wrap_succ (show i < 4611686018427387904 by omega)])
    (fun i c hc hi hp => by
      refine ⟨?_, rfl⟩
      by_cases h1 : (c.toNat : Int) < 33
      · simp [l_redo_isJoint_0, int_lt hi, hc, h1]
      · have h2 : 126 < (c.toNat : Int) := by
          have h3 : 33 ≤ c.toNat := by omega
          simp [h3] at hp
          omega
        simp [l_redo_isJoint_0, int_lt hi, hc, h1, h2])
    (vars := [.str s, .bool false, .undef, .int .i64 s.length, .int .i64 0, .undef, .undef]) (m := m) (by simp)
  unfold joint
  rcases hq with ⟨h1, h2⟩ | ⟨h1, i, p, _, _, _, h2⟩
  · rw [h1]
    have d40 : decide ((s.length : Int) ≤ 40) = decide (s.length ≤ 40) := decide_eq_decide.2 (by omega)
    by_cases h0 : s.length = 0
    · have hb : (s == []) = true := beq_iff_eq.2 (List.length_eq_zero_iff.1 h0)
      have g1 : ¬ (1 ≤ s.length) := by omega
      have g2 : ¬ ((1 : Int) ≤ (s.length : Int)) := by omega
      simp [vf_redo_isJoint, h2, binStr, hb, g1, g2]
    · have hb : (s == []) = false := beq_eq_false_iff_ne.2 fun e => h0 (by rw [e]; rfl)
      have g1 : 1 ≤ s.length := by omega
      have g2 : (1 : Int) ≤ (s.length : Int) := by omega
      simp [vf_redo_isJoint, h2, binStr, hb, g1, g2, d40]
  · rw [h1]; simp [vf_redo_isJoint, h2]
theorem run_ref20_Joint (s : List UInt8) (hs : s.length < 4611686018427387904) (m : Mem) : callL MM F.ref20_Joint [.str s] m = some (.ret [.bool (joint s)] m) := by
  rw [call_ref20_Joint _ _ rfl]
  have hq := loop_scan (cf := callL MM) (b := m.length) (L := m.length) (kill := [1, 2, 5, 6]) (c := l_ref20_Joint_0) s (fun c => 33 ≤ c.toNat && c.toNat ≤ 126)
    (fun i => [.str s, .undef, .undef, .int .i64 s.length, .int .i64 i, .undef, .undef]) (fun _ => m)
    (.exit 0 [.str s, .undef, .undef, .int .i64 s.length, .int .i64 s.length, .bool false, .undef] m)
    (fun i _ => .ret [.str s, .bool false, .int .i64 i, .int .i64 s.length, .int .i64 i, .bool true, .bool true] m)
    ⟨by simp [l_ref20_Joint_0], rfl⟩
    (fun i c hc hi hp => by
      simp only [Bool.and_eq_true, decide_eq_true_eq] at hp
      have h1 : ¬ (c.toNat : Int) < 33 := by omega
      have h2 : ¬ 126 < (c.toNat : Int) := by omega
      simp [l_ref20_Joint_0, int_lt hi, hc, h1, h2, wrap_succ (show i < 4611686018427387904 by omega)])
    (fun i c hc hi hp => by
      refine ⟨?_, rfl⟩
      by_cases h1 : (c.toNat : Int) < 33
      · simp [l_ref20_Joint_0, int_lt hi, hc, h1]
      · have h2 : 126 < (c.toNat : Int) := by
          have h3 : 33 ≤ c.toNat := by omega
          simp [h3] at hp
          omega
        simp [l_ref20_Joint_0, int_lt hi, hc, h1, h2])
    (vars := [.str s, .bool false, .undef, .int .i64 s.length, .int .i64 0, .undef, .undef]) (m := m) (by simp)
  unfold joint
  rcases hq with ⟨h1, h2⟩ | ⟨h1, i, p, _, _, _, h2⟩
  · rw [h1]
    have d40 : decide ((s.length : Int) ≤ 40) = decide (s.length ≤ 40) := decide_eq_decide.2 (by omega)
    by_cases h0 : s.length = 0
    · have hb : (s == []) = true := beq_iff_eq.2 (List.length_eq_zero_iff.1 h0)
      have g1 : ¬ (1 ≤ s.length) := by omega
      have g2 : ¬ ((1 : Int) ≤ (s.length : Int)) := by omega
      simp [vf_ref20_Joint, h2, binStr, hb, g1, g2]
    · have hb : (s == []) = false := beq_eq_false_iff_ne.2 fun e => h0 (by rw [e]; rfl)
      have g1 : 1 ≤ s.length := by omega
      have g2 : (1 : Int) ≤ (s.length : Int) := by omega
      simp [vf_ref20_Joint, h2, binStr, hb, g1, g2, d40]
  · rw [h1]; simp [vf_ref20_Joint, h2]
theorem run_ref20_between (n k : Int) (m : Mem) : callL MM F.ref20_between [.int .i64 n, .int .i64 k] m = some (.ret [.bool (between n k)] m) := by
  rw [call_ref20_between _ _ rfl]
  by_cases h : k ≤ n <;> simp [vf_ref20_between, h, between, big] <;> rfl

theorem run_redo_isField (x : Rec) (hx : x.Fit) (f : Int) (m : Mem) : callL MM F.redo_isField [x.toV, .int .i64 f] m = some (.ret [.bool (fieldOK x f)] m) := by
  rw [call_redo_isField _ _ rfl]
  have h1 := fun n => run_valid_IsNumber n (.cells x.cells :: m)
  have h4 := run_value_IsRow x.row (by have := hx.row; omega) (.cells x.cells :: m)
  have h6 := run_redo_isJoint x.text (by have := hx.text; omega) (.cells x.cells :: m)
  have hN1 := run_valid_IsName x.owner hx.owner (.cells x.cells :: m)
  have hN2 := run_valid_IsName x.name hx.name (.cells x.cells :: m)
  have d20 : decide ((x.text.length : Int) ≤ 20000) = decide (x.text.length ≤ 20000) := decide_eq_decide.2 (by omega)
  clear hx
  simp only [Rec.cells, Rec.toV] at *
  by_cases f0 : f = 0
  · subst f0; simp [vf_redo_isField, h1, fieldOK]
  by_cases f1 : f = 1
  · subst f1; simp [vf_redo_isField, hN1, fieldOK]
  by_cases f2 : f = 2
  · subst f2; simp [vf_redo_isField, hN2, fieldOK]
  by_cases f3 : f = 3
  · subst f3; simp [vf_redo_isField, h1, fieldOK]
  by_cases f4 : f = 4
  · subst f4; simp [vf_redo_isField, h4, fieldOK]
  by_cases f5 : f = 5
  · subst f5
    by_cases ht : 0 ≤ x.time
    · simp [vf_redo_isField, fieldOK, between, big, ht]; rfl
    · simp [vf_redo_isField, fieldOK, between, big, ht]
  by_cases f6 : f = 6
  · subst f6
    by_cases o7 : x.op = 7
    · simp only [o7] at h6
      cases hj : joint x.text <;> rw [hj] at h6 <;> simp [vf_redo_isField, fieldOK, o7, h6, hj]
    · by_cases o8 : x.op = 8
      · simp [vf_redo_isField, fieldOK, o8, d20]
      · simp [vf_redo_isField, fieldOK, o7, o8, ibeq o7, ibeq o8]
  have e : fieldOK x f = between x.n (if x.op = 4 then 0 else -big) := by simp [fieldOK, f0, f1, f2, f3, f4, f5, f6]
  rw [e]
  by_cases o4 : x.op = 4
  · by_cases hl : 0 ≤ x.n
    · simp [vf_redo_isField, ibeq f0, ibeq f1, ibeq f2, ibeq f3, ibeq f4, ibeq f5, ibeq f6, o4, between, big, hl]; rfl
    · simp [vf_redo_isField, ibeq f0, ibeq f1, ibeq f2, ibeq f3, ibeq f4, ibeq f5, ibeq f6, o4, between, big, hl]
  · by_cases hl : (-1099511627776 : Int) ≤ x.n
    · simp [vf_redo_isField, ibeq f0, ibeq f1, ibeq f2, ibeq f3, ibeq f4, ibeq f5, ibeq f6, o4, ibeq o4, between, big, hl]; rfl
    · simp [vf_redo_isField, ibeq f0, ibeq f1, ibeq f2, ibeq f3, ibeq f4, ibeq f5, ibeq f6, o4, ibeq o4, between, big, hl]

theorem run_redo_Valid_1 (x : Rec) (hx : x.Fit) (f : Int) (r : Nat) (m : Mem) (hr : look m r = some (.cells x.cells)) : callL MM F.redo_Valid_1 [.int .i64 f, .ptr r 0] m = some (.ret [.bool (!fieldOK x f)] m) := by
  rw [call_redo_Valid_1 _ _ rfl]
  have h := run_redo_isField x hx f m
  simp only [Rec.cells, Rec.toV] at *
  simp [vf_redo_Valid_1, hr, h]

theorem run_redo_clear (x : Rec) (l : List Int) (nl : Bool) (hl : l.length < 1000) (m : Mem) : callL MM F.redo_clear [x.toV, .sl nl 1 (l.map (.int .i64))] m = some (.ret [(clear x l).toV] m) := by
  rw [call_redo_clear _ _ rfl]
  have hq := loop_each (cf := callL MM) (b := m.length) (L := m.length + 1 + 1 + 1) (kill := [0, 1, 5, 9, 10, 11, 12, 13, 14, 15, 16, 17, 18]) (c := l_redo_clear_0) l
    (fun i (_ : Rec) => [.undef, .undef, .ptr m.length 0, .ptr (m.length + 1) 0, .ptr (m.length + 1 + 1) 0, .undef, .sl nl 1 (l.map (.int .i64)), .int .i64 l.length, .int .i64 i, .undef, .undef, .undef, .undef, .undef, .undef, .undef, .undef, .undef, .undef])
    (fun _ s => .cells s.cells :: .cells (Rec.cells { op := 0 }) :: .cells x.cells :: m) (fun _ _ => True)
    (fun rest i s => .exit 0 [.undef, .undef, .ptr m.length 0, .ptr (m.length + 1) 0, .ptr (m.length + 1 + 1) 0, .undef, .sl nl 1 (l.map (.int .i64)), .int .i64 l.length, .int .i64 l.length, .bool false, .undef, .undef, .undef, .undef, .undef, .undef, .undef, .undef, .undef] (.cells (rest.foldl (fun out f => setField out x f) s).cells :: .cells (Rec.cells { op := 0 }) :: .cells x.cells :: m))
    (fun s _ => ⟨by simp [l_redo_clear_0], rfl⟩)
    (fun i f rest s hf hd hi _ => .inr ⟨setField s x f, by
      have hw := wrap_succ (show i < 4611686018427387904 by omega)
      simp only [Rec.cells]
      by_cases f0 : f = 0
      · subst f0; simp [l_redo_clear_0, int_lt hi, hf, hw, setField]
      by_cases f1 : f = 1
      · subst f1; simp [l_redo_clear_0, int_lt hi, hf, hw, setField]
      by_cases f2 : f = 2
      · subst f2; simp [l_redo_clear_0, int_lt hi, hf, hw, setField]
      by_cases f3 : f = 3
      · subst f3; simp [l_redo_clear_0, int_lt hi, hf, hw, setField]
      by_cases f4 : f = 4
      · subst f4; simp [l_redo_clear_0, int_lt hi, hf, hw, setField]
      by_cases f5 : f = 5
      · subst f5; simp [l_redo_clear_0, int_lt hi, hf, hw, setField]
      by_cases f6 : f = 6
      · subst f6; simp [l_redo_clear_0, int_lt hi, hf, hw, setField]
      by_cases f7 : f = 7
      · subst f7; simp [l_redo_clear_0, int_lt hi, hf, hw, setField]
      simp [l_redo_clear_0, int_lt hi, hf, hw, setField, f0, f1, f2, f3, f4, f5, f6, f7, ibeq f0, ibeq f1, ibeq f2, ibeq f3, ibeq f4, ibeq f5, ibeq f6, ibeq f7], trivial, rfl⟩)
    { op := x.op } [x.toV, .sl nl 1 (l.map (.int .i64)), .ptr m.length 0, .ptr (m.length + 1) 0, .ptr (m.length + 1 + 1) 0, .undef, .sl nl 1 (l.map (.int .i64)), .int .i64 l.length, .int .i64 0, .undef, .undef, .undef, .undef, .undef, .undef, .undef, .undef, .undef, .undef]
    (.cells (Rec.cells { op := x.op }) :: .cells (Rec.cells { op := 0 }) :: .cells x.cells :: m) trivial (by simp [Rec.cells])
  have e : clear x l = l.foldl (fun out f => setField out x f) { op := x.op } := rfl
  rw [e]
  generalize l.foldl (fun out f => setField out x f) { op := x.op } = z at *
  simp only [Rec.cells, Rec.toV, rowV_nil] at *
  simp [vf_redo_clear, fill, hq]
end Go.Vm.Redo
-- RS7: Walks: valid records, the reference's.
set_option maxRecDepth 100000
namespace Go.Vm.Redo
open Go Go.Vm

@[simp] theorem fieldsV_seal (m : Mem) (op : Int) : V.shut m (fieldsV op) = some (fieldsV op) := by unfold fieldsV; split <;> rfl
theorem Rec.Fit.clear {x : Rec} (hx : x.Fit) (l : List Int) : (clear x l).Fit := by
  have h0 : (Rec.Fit { op := x.op }) := ⟨by simp, by simp, by simp, by simp [RowR.vals], by simp [RowR.vals]⟩
  have step : ∀ (s : Rec) (f : Int), s.Fit → (setField s x f).Fit := fun s f hs => by
    unfold setField
    repeat' split
    all_goals first
      | exact hs
      | exact ⟨hs.owner, hs.name, hs.text, hs.row, hs.vals⟩
      | exact ⟨hx.owner, hs.name, hs.text, hs.row, hs.vals⟩
      | exact ⟨hs.owner, hx.name, hs.text, hs.row, hs.vals⟩
      | exact ⟨hs.owner, hs.name, hx.text, hs.row, hs.vals⟩
      | exact ⟨hs.owner, hs.name, hs.text, hx.row, hx.vals⟩
  have : ∀ (l : List Int) (s : Rec), s.Fit → (l.foldl (fun out f => setField out x f) s).Fit := by
    intro l
    induction l with
    | nil => intro s hs; exact hs
    | cons f l ih => intro s hs; exact ih _ (step s f hs)
  exact this l _ h0
theorem fields_short (op : Int) (l : List Int) (h : fieldsOf op = some l) : l.length < 1000 := by
  unfold fieldsOf at h
  repeat' split at h
  all_goals first
    | (cases h; decide)
    | cases h

/-- redo.Valid. -/
theorem run_redo_Valid (x : Rec) (hx : x.Fit) (m : Mem) : callL MM F.redo_Valid [x.toV] m = some (.ret [.bool (validR x)] m) := by
  rw [call_redo_Valid _ _ rfl]
  have hf := fun m => run_redo_fields x.op m
  unfold validR
  unfold fieldsV at hf
  cases hl : fieldsOf x.op with
  | none =>
    rw [hl] at hf
    simp only [Rec.cells, Rec.toV] at *
    simp [vf_redo_Valid, hf]
  | some l =>
    rw [hl] at hf
    have hs := fields_short _ _ hl
    have hc := fun m => run_redo_clear x l false hs m
    have hsame := fun m => run_redo_Same x (clear x l) (by have := hx.row; omega) m
    have hcf := run_ContainsFunc_field (fun f => !fieldOK x f) F.redo_Valid_1 m.length (.cells x.cells :: m) (by simp) (fun f => run_redo_Valid_1 x hx f m.length _ look_cons_new) false l hs
    have e : l.any (fun f => !fieldOK x f) = !l.all (fieldOK x) := by rw [← any_not (fieldOK x) l]; simp
    rw [e] at hcf
    have he : ∀ s : DS, s.pan = none → s.reads = [(0, [])] ∨ s.reads = [] → True := fun _ _ _ => trivial
    simp only []
    generalize hz : clear x l = z at *
    have hzs : V.shut m z.toV = some z.toV := by simp [Rec.toV, Rec.cells]
    cases hb : sameR x z with
    | false =>
      simp only [hb] at hsame
      simp only [Rec.cells, Rec.toV] at *
      simp [vf_redo_Valid, hf, hc, hsame]
    | true =>
      simp only [hb] at hsame
      simp only [Rec.cells, Rec.toV] at *
      simp [vf_redo_Valid, hf, hc, hsame, hcf]
end Go.Vm.Redo
-- RS8: Walks: valid records, the reference's.
set_option maxRecDepth 100000
namespace Go.Vm.Redo
open Go Go.Vm

/-- A letter's field. -/
def letterF (c : UInt8) : Int := if c = 84 then 0 else if c = 79 then 1 else if c = 78 then 2 else if c = 73 then 3 else if c = 82 then 4 else if c = 66 then 7 else if c = 77 then 7 else if c = 67 then 5 else 6
def letterOK (x : Rec) (c : UInt8) : Bool :=
  if c = 84 then between x.txn 1 else if c = 79 then isName x.owner else if c = 78 then isName x.name else if c = 73 then between x.id 1 else if c = 82 then rowOK x.row.vals
  else if c = 66 then between x.n 0 else if c = 77 then between x.n (-big) else if c = 67 then between x.time 0 else if c = 80 then joint x.text else decide (x.text.length ≤ 20000)
def blankF (x : Rec) (f : Int) : Rec :=
  if f = 0 then { x with txn := 0 } else if f = 1 then { x with owner := [] } else if f = 2 then { x with name := [] } else if f = 3 then { x with id := 0 } else if f = 4 then { x with row := .nil 0 }
  else if f = 7 then { x with n := 0 } else if f = 5 then { x with time := 0 } else { x with text := [] }
theorem u8_beq (c : UInt8) (k : Nat) (hk : k < 256) : ((c.toNat : Int) == (k : Int)) = decide (c = UInt8.ofNat k) := by
  rw [natcast_beq]
  by_cases h : c = UInt8.ofNat k
  · subst h
    simp [UInt8.toNat_ofNat', Nat.mod_eq_of_lt hk]
  · have : c.toNat ≠ k := fun e => h (by rw [← e]; simp)
    simp [h, this]

theorem run_ref20_field (x : Rec) (hx : x.Fit) (c : UInt8) (m : Mem) : callL MM F.ref20_field [x.toV, .int .u8 c.toNat] m = some (.ret [.bool (letterOK x c)] m) := by
  rw [call_ref20_field _ _ rfl]
  have h1 := fun n k => run_ref20_between n k (.cells x.cells :: m)
  have h4 := run_ref01_IsRow x.row (by have := hx.row; omega) (fun v hv => by have := hx.vals v hv; omega) (.cells x.cells :: m)
  have h6 := run_ref20_Joint x.text (by have := hx.text; omega) (.cells x.cells :: m)
  have hN1 := run_ref02_IsName x.owner (by have := hx.owner; omega) (.cells x.cells :: m)
  have hN2 := run_ref02_IsName x.name (by have := hx.name; omega) (.cells x.cells :: m)
  have d20 : decide ((x.text.length : Int) ≤ 20000) = decide (x.text.length ≤ 20000) := decide_eq_decide.2 (by omega)
  have b84 : ((c.toNat : Int) == 84) = decide (c = 84) := u8_beq c 84 (by omega)
  have b79 : ((c.toNat : Int) == 79) = decide (c = 79) := u8_beq c 79 (by omega)
  have b78 : ((c.toNat : Int) == 78) = decide (c = 78) := u8_beq c 78 (by omega)
  have b73 : ((c.toNat : Int) == 73) = decide (c = 73) := u8_beq c 73 (by omega)
  have b82 : ((c.toNat : Int) == 82) = decide (c = 82) := u8_beq c 82 (by omega)
  have b66 : ((c.toNat : Int) == 66) = decide (c = 66) := u8_beq c 66 (by omega)
  have b77 : ((c.toNat : Int) == 77) = decide (c = 77) := u8_beq c 77 (by omega)
  have b67 : ((c.toNat : Int) == 67) = decide (c = 67) := u8_beq c 67 (by omega)
  have b80 : ((c.toNat : Int) == 80) = decide (c = 80) := u8_beq c 80 (by omega)
  clear hx
  simp only [Rec.cells, Rec.toV] at *
  unfold letterOK
  by_cases c84 : c = 84
  · simp [vf_ref20_field, b84, c84, h1]
  by_cases c79 : c = 79
  · simp [vf_ref20_field, b84, b79, c79, hN1]
  by_cases c78 : c = 78
  · simp [vf_ref20_field, b84, b79, b78, c78, hN2]
  by_cases c73 : c = 73
  · simp [vf_ref20_field, b84, b79, b78, b73, c73, h1]
  by_cases c82 : c = 82
  · simp [vf_ref20_field, b84, b79, b78, b73, b82, c82, h4]
  by_cases c66 : c = 66
  · simp [vf_ref20_field, b84, b79, b78, b73, b82, b66, c66, h1]
  by_cases c77 : c = 77
  · simp [vf_ref20_field, b84, b79, b78, b73, b82, b66, b77, c77, h1, big]
  by_cases c67 : c = 67
  · simp [vf_ref20_field, b84, b79, b78, b73, b82, b66, b77, b67, c67, h1]
  by_cases c80 : c = 80
  · simp [vf_ref20_field, b84, b79, b78, b73, b82, b66, b77, b67, b80, c80, h6]
  simp [vf_ref20_field, b84, b79, b78, b73, b82, b66, b77, b67, b80, c84, c79, c78, c73, c82, c66, c77, c67, c80, d20]

theorem run_ref20_blank (x : Rec) (c : UInt8) (m : Mem) : callL MM F.ref20_blank [x.toV, .int .u8 c.toNat] m = some (.ret [(blankF x (letterF c)).toV] m) := by
  rw [call_ref20_blank _ _ rfl]
  have b84 : ((c.toNat : Int) == 84) = decide (c = 84) := u8_beq c 84 (by omega)
  have b79 : ((c.toNat : Int) == 79) = decide (c = 79) := u8_beq c 79 (by omega)
  have b78 : ((c.toNat : Int) == 78) = decide (c = 78) := u8_beq c 78 (by omega)
  have b73 : ((c.toNat : Int) == 73) = decide (c = 73) := u8_beq c 73 (by omega)
  have b82 : ((c.toNat : Int) == 82) = decide (c = 82) := u8_beq c 82 (by omega)
  have b66 : ((c.toNat : Int) == 66) = decide (c = 66) := u8_beq c 66 (by omega)
  have b77 : ((c.toNat : Int) == 77) = decide (c = 77) := u8_beq c 77 (by omega)
  have b67 : ((c.toNat : Int) == 67) = decide (c = 67) := u8_beq c 67 (by omega)
  simp only [Rec.cells, Rec.toV] at *
  unfold letterF
  by_cases c84 : c = 84
  · simp [vf_ref20_blank, b84, c84, blankF]
  by_cases c79 : c = 79
  · simp [vf_ref20_blank, b84, b79, c79, blankF]
  by_cases c78 : c = 78
  · simp [vf_ref20_blank, b84, b79, b78, c78, blankF]
  by_cases c73 : c = 73
  · simp [vf_ref20_blank, b84, b79, b78, b73, c73, blankF]
  by_cases c82 : c = 82
  · simp [vf_ref20_blank, b84, b79, b78, b73, b82, c82, blankF]
  by_cases c66 : c = 66
  · simp [vf_ref20_blank, b84, b79, b78, b73, b82, b66, c66, blankF]
  by_cases c77 : c = 77
  · simp [vf_ref20_blank, b84, b79, b78, b73, b82, b66, b77, c77, blankF]
  by_cases c67 : c = 67
  · simp [vf_ref20_blank, b84, b79, b78, b73, b82, b66, b77, b67, c67, blankF]
  simp [vf_ref20_blank, b84, b79, b78, b73, b82, b66, b77, b67, c84, c79, c78, c73, c82, c66, c77, c67, blankF]

/-! ### what the reference's way of it comes to -/
def refStep (x : Rec) (p : Bool × Rec) (c : UInt8) : Bool × Rec := (p.1 && letterOK x c, blankF p.2 (letterF c))
def refValid (x : Rec) : Bool :=
  let p := ((lettersOf x.op).getD []).foldl (refStep x) ((lettersOf x.op).isSome, x)
  p.1 && sameR p.2 { op := x.op }
theorem refStep_fold (x : Rec) : ∀ (l : List UInt8) (b : Bool) (y : Rec), l.foldl (refStep x) (b, y) = (b && l.all (letterOK x), l.foldl (fun y c => blankF y (letterF c)) y)
  | [], b, y => by simp
  | c :: l, b, y => by
    rw [List.foldl_cons, refStep, refStep_fold x l]
    simp [Bool.and_assoc]
theorem same_blank (x : Rec) (ls : List UInt8) (fs : List Int) (h1 : lettersOf x.op = some ls) (h2 : fieldsOf x.op = some fs) :
    sameR (ls.foldl (fun y c => blankF y (letterF c)) x) { op := x.op } = sameR x (clear x fs) := by
  obtain ⟨op, txn, owner, name, id, row, time, text, n⟩ := x
  simp only at *
  rcases op_cases op with h | ⟨k1, k2, k3, k4, k5, k6, k7, k8, k9, k10, k11⟩
  · rcases h with rfl | rfl | rfl | rfl | rfl | rfl | rfl | rfl | rfl | rfl | rfl <;> cases h1 <;> cases h2 <;>
      simp [clear, setField, blankF, letterF, sameR, RowR.vals]
  · simp [fieldsOf, k1, k2, k3, k4, k5, k6, k7, k8, k9, k10, k11] at h2
theorem letters_ok (x : Rec) (ls : List UInt8) (fs : List Int) (h1 : lettersOf x.op = some ls) (h2 : fieldsOf x.op = some fs) : ls.all (letterOK x) = fs.all (fieldOK x) := by
  obtain ⟨op, txn, owner, name, id, row, time, text, n⟩ := x
  simp only at *
  rcases op_cases op with h | ⟨k1, k2, k3, k4, k5, k6, k7, k8, k9, k10, k11⟩
  · rcases h with rfl | rfl | rfl | rfl | rfl | rfl | rfl | rfl | rfl | rfl | rfl <;> cases h1 <;> cases h2 <;> simp [letterOK, fieldOK]
  · simp [fieldsOf, k1, k2, k3, k4, k5, k6, k7, k8, k9, k10, k11] at h2
theorem letters_fields (op : Int) : (lettersOf op).map (fun l => l.map letterF) = fieldsOf op := by
  rcases op_cases op with h | ⟨k1, k2, k3, k4, k5, k6, k7, k8, k9, k10, k11⟩
  · rcases h with rfl | rfl | rfl | rfl | rfl | rfl | rfl | rfl | rfl | rfl | rfl <;> rfl
  · simp [lettersOf, fieldsOf, k1, k2, k3, k4, k5, k6, k7, k8, k9, k10, k11]
theorem refValid_eq (x : Rec) : refValid x = validR x := by
  unfold refValid validR
  have hm := letters_fields x.op
  cases hl : lettersOf x.op with
  | none =>
    rw [hl] at hm
    simp only [Option.map_none] at hm
    rw [← hm]
    simp
  | some ls =>
    rw [hl] at hm
    simp only [Option.map_some] at hm
    rw [← hm]
    simp only [Option.getD_some, Option.isSome_some, refStep_fold, Bool.true_and]
    rw [same_blank x ls _ hl hm.symm, letters_ok x ls _ hl hm.symm, Bool.and_comm]

theorem Rec.Fit.blank {x : Rec} (hx : x.Fit) (f : Int) : (blankF x f).Fit := by
  unfold blankF
  repeat' split
  all_goals first
    | exact ⟨hx.owner, hx.name, hx.text, hx.row, hx.vals⟩
    | exact ⟨by simp, hx.name, hx.text, hx.row, hx.vals⟩
    | exact ⟨hx.owner, by simp, hx.text, hx.row, hx.vals⟩
    | exact ⟨hx.owner, hx.name, by simp, hx.row, hx.vals⟩
    | exact ⟨hx.owner, hx.name, hx.text, by simp [RowR.vals], by simp [RowR.vals]⟩
theorem letters_short (op : Int) : ((lettersOf op).getD []).length < 1000 := by
  unfold lettersOf
  repeat' split
  all_goals decide

/-- justiciarref20.Valid. -/
theorem run_ref20_Valid (x : Rec) (hx : x.Fit) (m : Mem) : callL MM F.ref20_Valid [x.toV] m = some (.ret [.bool (validR x)] m) := by
  rw [call_ref20_Valid _ _ rfl, ← refValid_eq]
  have hF := fun m => run_ref20_Fields x.op m
  have hshort := letters_short x.op
  unfold refValid
  generalize (lettersOf x.op).getD [] = ls at *
  generalize (lettersOf x.op).isSome = ok at *
  have hfo := fun c m => run_ref20_field x hx c m
  have hq := loop_each (cf := callL MM) (b := m.length) (L := m.length + 1 + 1) (kill := [0, 2, 6, 9]) (c := l_ref20_Valid_0) ls
    (fun i (p : Bool × Rec) => [.undef, .ptr m.length 0, .undef, .str ls, .bool p.1, .ptr (m.length + 1) 0, .undef, .int .i64 ls.length, .int .i64 i, .undef])
    (fun _ p => .cells p.2.cells :: .cells x.cells :: m) (fun _ p => p.2.Fit)
    (fun rest i p => .exit 0 [.undef, .ptr m.length 0, .undef, .str ls, .bool (rest.foldl (refStep x) p).1, .ptr (m.length + 1) 0, .undef, .int .i64 ls.length, .int .i64 ls.length, .bool false] (.cells (rest.foldl (refStep x) p).2.cells :: .cells x.cells :: m))
    (fun p _ => ⟨by simp [l_ref20_Valid_0], rfl⟩)
    (fun i c rest p hc hd hi hp => .inr ⟨refStep x p c, by
      have hw := wrap_succ (show i < 4611686018427387904 by omega)
      have hbl := fun m => run_ref20_blank p.2 c m
      obtain ⟨b, y⟩ := p
      simp only [refStep] at *
      generalize blankF y (letterF c) = z at *
      simp only [Rec.cells, Rec.toV] at *
      cases b <;> simp [l_ref20_Valid_0, int_lt hi, hc, hw, hfo, hbl], hp.blank _, rfl⟩)
    (ok, x) [x.toV, .ptr m.length 0, .bool false, .str ls, .bool ok, .ptr (m.length + 1) 0, .undef, .int .i64 ls.length, .int .i64 0, .undef] (.cells x.cells :: .cells x.cells :: m) hx (by simp [Rec.cells])
  have hfit : (ls.foldl (refStep x) (ok, x)).2.Fit := by
    have : ∀ (l : List UInt8) (p : Bool × Rec), p.2.Fit → (l.foldl (refStep x) p).2.Fit := by
      intro l
      induction l with
      | nil => intro p h; exact h
      | cons c l ih => intro p h; exact ih _ (h.blank _)
    exact this ls _ hx
  generalize ls.foldl (refStep x) (ok, x) = z at *
  obtain ⟨b, y⟩ := z
  have hsame := fun m => run_ref20_Same y { op := x.op } (by have := hfit.row; simp only at this; omega) m
  simp only [Rec.cells, Rec.toV, rowV_nil] at *
  cases b <;> simp [vf_ref20_Valid, hF, hq, fill, hsame]
end Go.Vm.Redo
-- RN1: Walks: the reference's bytes of strings, rows, records.
set_option maxRecDepth 100000
namespace Go.Vm.Redo
open Go Go.Vm

theorem beB_one (x : Int) : beB x 1 = [UInt8.ofNat (x % 256).toNat] := by simp [beB]
theorem u8_one (x : Int) : V.int .u8 (IntKind.u8.wrap x) = .int .u8 ((UInt8.ofNat (x % 256).toNat).toNat : Int) := u8_wrap x

theorem run_ref20_String (m : Mem) (k : Nat) (born : Bool) (bs : List UInt8) (h : IsG m k born bs) (s : List UInt8) (hb : bs.length + s.length < 10000000) :
    callL MM F.ref20_String [.gs k bs.length, .str s] m = some (.ret [.gs k (bs ++ textB s).length] (putG m k born (bs ++ textB s))) := by
  rw [call_ref20_String _ _ rfl]
  have hlt := look_lt h
  have h1 : callL MM F.ref20_Number [.gs k bs.length, .int .i64 s.length, .int .i64 2] m = _ := run_ref20_Number m k born bs h s.length 2 (by omega) (by omega)
  have h2 := h.put (bs ++ beB s.length 2)
  have hl : (bs ++ beB s.length 2).length = bs.length + 2 := by simp [beB_len]
  have w1 : bs.length + 2 + s.length ≤ 140737488355328 := by omega
  have e : bs ++ textB s = bs ++ beB s.length 2 ++ s := by simp [textB]
  have e2 : upd (putG m k born (bs ++ beB s.length 2)) k (.buf 1 born (bytesV (bs ++ beB s.length 2) ++ bytesV s)) = putG m k born (bs ++ beB s.length 2 ++ s) := by
    rw [← bytesV_append]; exact putG_put _ _
  unfold IsG at h2
  have hl3 : (bs ++ beB s.length 2 ++ s).length = bs.length + 2 + s.length := by rw [List.length_append, hl]
  rw [e, hl3]
  rw [hl] at h1
  simp [vf_ref20_String, callgOp, h1, h2, bytesV_len, w1, e2, hlt, hl, -List.append_assoc]

theorem rrow_round' (m : Mem) (k : Nat) (born : Bool) (bs : List UInt8) (h : IsG m k born bs) (nl : Bool) (vals : List V) (i : Nat) (v : Val) (hv : vals[i]? = some v.toV) (hi : i < vals.length) (hb : bs.length + v.t.length < 1000000) (hl : vals.length < 1000000) :
    rnd (callL MM) m.length m.length [1, 2, 3, 7, 8, 9, 10, 11] l_ref20_Row_0 [.gs k bs.length, .undef, .undef, .undef, .sl nl 3 vals, .int .i64 vals.length, .int .i64 i, .undef, .undef, .undef, .undef, .undef] m =
      some ([.gs k (bs ++ valB v).length, .undef, .undef, .undef, .sl nl 3 vals, .int .i64 vals.length, .int .i64 ((i + 1 : Nat) : Int), .undef, .undef, .undef, .undef, .undef], putG m k born (bs ++ valB v)) := by
  obtain ⟨kd, n, t⟩ := v
  have hb : bs.length + t.length < 1000000 := hb
  have hv : vals[i]? = some (.agg [.int .i64 kd, .int .i64 n, .str t]) := hv
  have hlt := look_lt h
  have hw := wrap_succ (show i < 4611686018427387904 by omega)
  have hg := h
  unfold IsG at hg
  have c1 : bs.length + 1 ≤ 140737488355328 := by omega
  have hp := h.put (bs ++ beB kd 1)
  have hl1 : (bs ++ beB kd 1).length = bs.length + 1 := by simp [beB_len]
  have e1 : upd m k (.buf 1 born (bytesV bs ++ [.int .u8 (IntKind.u8.wrap kd)])) = putG m k born (bs ++ beB kd 1) := by
    rw [u8_one, beB_one, putG, bytesV_append]; rfl
  have hpw := hp.cons (.cells [.int .i64 kd, .int .i64 n, .str t])
  have h8 : callL MM F.ref20_Number [.gs k (bs.length + 1), .int .i64 n, .int .i64 8] (.cells [.int .i64 kd, .int .i64 n, .str t] :: putG m k born (bs ++ beB kd 1)) = some (.ret [.gs k (bs ++ beB kd 1 ++ beB n 8).length] (.cells [.int .i64 kd, .int .i64 n, .str t] :: putG m k born (bs ++ beB kd 1 ++ beB n 8))) := by
    have := run_ref20_Number _ k born _ hpw n 8 (by omega) (by omega)
    rw [putG_cons (by simpa using hlt), putG_put, hl1] at this
    exact this
  have ht : callL MM F.ref20_String [.gs k (bs.length + 1), .str t] (.cells [.int .i64 kd, .int .i64 n, .str t] :: putG m k born (bs ++ beB kd 1)) = some (.ret [.gs k (bs ++ beB kd 1 ++ textB t).length] (.cells [.int .i64 kd, .int .i64 n, .str t] :: putG m k born (bs ++ beB kd 1 ++ textB t))) := by
    have := run_ref20_String _ k born _ hpw t (by omega)
    rw [putG_cons (by simpa using hlt), putG_put, hl1] at this
    exact this
  have hp1 : look (putG m k born (bs ++ beB kd 1)) k = some (.buf 1 born (bytesV (bs ++ beB kd 1))) := hp
  have c2 : bs.length + 1 + 1 ≤ 140737488355328 := by omega
  have e3 : upd (putG m k born (bs ++ beB kd 1)) k (.buf 1 born (bytesV (bs ++ beB kd 1) ++ [.int .u8 (IntKind.u8.wrap n)])) = putG m k born (bs ++ beB kd 1 ++ beB n 1) := by
    rw [u8_one, beB_one n]
    unfold putG
    rw [upd_upd, bytesV_append (bs ++ beB kd 1)]; rfl
  have hln : ∀ j, (beB n j).length = j := beB_len n
  have hlk : (beB kd 1).length = 1 := beB_len kd 1
  unfold valB
  by_cases k1 : kd = 1
  · subst k1
    simp [l_ref20_Row_0, int_lt hi, hv, hlt, hg, c1, bytesV_len, e1, callgOp, h8, hw, ← List.append_assoc]
  by_cases k2 : kd = 2
  · subst k2
    simp [l_ref20_Row_0, int_lt hi, hv, hlt, hg, c1, bytesV_len, e1, callgOp, ht, hw, ← List.append_assoc]
  by_cases k3 : kd = 3
  · subst k3
    simp [l_ref20_Row_0, int_lt hi, hv, hlt, hg, c1, bytesV_len, e1, hp1, hl1, c2, e3, hw, ← List.append_assoc, hln, hlk]
  simp [l_ref20_Row_0, int_lt hi, hv, hlt, hg, c1, bytesV_len, e1, hw, k1, k2, k3, ibeq k1, ibeq k2, ibeq k3, hlk]

theorem run_ref20_Row (m : Mem) (k : Nat) (born : Bool) (bs : List UInt8) (h : IsG m k born bs) (x : RowR) (hb : bs.length + weights x.vals < 900000) :
    callL MM F.ref20_Row [.gs k bs.length, x.toV] m = some (.ret [.gs k (bs ++ rowB x.vals).length] (putG m k born (bs ++ rowB x.vals))) := by
  obtain ⟨nl, sz, hx, hsz⟩ := x.shape
  rw [hx, call_ref20_Row _ _ rfl]
  generalize x.vals = l at *
  have hlw := len_weights l
  have hlt := look_lt h
  have hg := h
  unfold IsG at hg
  have c1 : bs.length + 1 ≤ 140737488355328 := by omega
  have e1 : upd m k (.buf 1 born (bytesV bs ++ [.int .u8 (IntKind.u8.wrap l.length)])) = putG m k born (bs ++ beB l.length 1) := by
    rw [u8_one, beB_one, putG, bytesV_append]; rfl
  have hln : (beB (l.length : Int) 1).length = 1 := beB_len _ 1
  have hq := loop_each (cf := callL MM) (b := m.length) (L := m.length) (kill := [1, 2, 3, 7, 8, 9, 10, 11]) (c := l_ref20_Row_0) l
    (fun i (ys : List UInt8) => [.gs k ys.length, .undef, .undef, .undef, .sl nl sz (l.map Val.toV), .int .i64 l.length, .int .i64 i, .undef, .undef, .undef, .undef, .undef])
    (fun _ ys => putG m k born ys) (fun i ys => ys.length + weights (l.drop i) < 900100)
    (fun rest _ ys => .exit 0 [.gs k (ys ++ rest.flatMap valB).length, .undef, .undef, .undef, .sl nl sz (l.map Val.toV), .int .i64 l.length, .int .i64 l.length, .bool false, .undef, .undef, .undef, .undef] (putG m k born (ys ++ rest.flatMap valB)))
    (fun ys hI => ⟨by simp [l_ref20_Row_0], rfl⟩)
    (fun i v rest ys hv hd hi hI => by
      have hs : sz = 3 := by
        rcases hsz with h | h
        · exact h
        · rw [h] at hv; simp at hv
      subst hs
      rw [hd, weights_cons] at hI
      have hvw : v.t.length ≤ v.weight := by unfold Val.weight; omega
      have hr := rrow_round' (putG m k born ys) k born ys (h.put ys) nl (l.map Val.toV) i v (by rw [List.getElem?_map, hv]; rfl) (by simpa using hi) (by omega) (by rw [List.length_map]; omega)
      rw [putG_len, putG_put, List.length_map] at hr
      refine .inr ⟨ys ++ valB v, hr, ?_, by simp [List.append_assoc]⟩
      have := valB_len v
      have hnext : l.drop (i + 1) = rest := by rw [← List.drop_drop, hd]; rfl
      rw [hnext, List.length_append]; omega)
    (bs ++ beB l.length 1) [.gs k (bs.length + 1), .sl nl sz (l.map Val.toV), .sl true 0 [], .undef, .sl nl sz (l.map Val.toV), .int .i64 l.length, .int .i64 0, .undef, .undef, .undef, .undef, .undef] (putG m k born (bs ++ beB l.length 1))
    (by simp [hln]; omega) (by simp [hlt, hln])
  have e : bs ++ rowB l = bs ++ beB l.length 1 ++ l.flatMap valB := by simp [rowB]
  rw [e]
  simp [vf_ref20_Row, hg, c1, bytesV_len, hlt, e1, hq, -List.append_assoc, -List.length_append]
end Go.Vm.Redo
-- RN2: Walks: the reference's bytes of a record.
set_option maxRecDepth 100000
namespace Go.Vm.Redo
open Go Go.Vm

theorem fieldB_len (x : Rec) (f : Int) : (fieldB x f).length ≤ x.weight + 8 := by
  have hr : (rowB x.row.vals).length ≤ weights x.row.vals + 1 := by
    unfold rowB
    rw [List.length_append, beB_len]
    have : ∀ l : List Val, (l.flatMap valB).length ≤ weights l := by
      intro l
      induction l with
      | nil => simp
      | cons v l ih =>
        have := valB_len v
        rw [List.flatMap_cons, List.length_append, weights_cons]; omega
    have := this x.row.vals
    omega
  unfold Rec.weight
  unfold fieldB textB
  repeat' split
  all_goals first
    | (rw [beB_len]; omega)
    | (rw [List.length_append, beB_len]; omega)
    | omega
    | simp
theorem sum_lt : ∀ (l : List UInt8) (i out : Nat), out < 4294967296 → sumFrom l i out < 4294967296
  | [], _, _, h => h
  | c :: l, i, out, _ => sum_lt l (i + 1) _ (Nat.mod_lt _ (by omega))

def lettersB (x : Rec) (ls : List UInt8) : List UInt8 := ls.flatMap fun c => fieldB x (letterF c)
theorem letters_body (x : Rec) : lettersB x ((lettersOf x.op).getD []) = ((fieldsOf x.op).getD []).flatMap (fieldB x) := by
  rw [← letters_fields]
  cases lettersOf x.op with
  | none => rfl
  | some ls => simp [lettersB, List.flatMap_map]

theorem bytes_round (x : Rec) (hx : x.weight < 800000) (m : Mem) (ls : List UInt8) (i : Nat) (c : UInt8) (hc : ls[i]? = some c) (hi : i < ls.length) (hl : ls.length < 1000) (bs : List UInt8) (hb : bs.length < 10 * 800100) (hb2 : bs.length + x.weight < 890000) :
    rnd (callL MM) m.length (m.length + 1 + 1) [0, 2, 5, 6, 7, 8, 11, 12, 13, 14, 15, 16, 17, 18, 19, 20, 21, 22, 23] l_ref20_Bytes_0
      [.undef, .ptr m.length 0, .undef, .gs (m.length + 1) bs.length, .str ls, .undef, .undef, .undef, .undef, .int .i64 ls.length, .int .i64 i, .undef, .undef, .undef, .undef, .undef, .undef, .undef, .undef, .undef, .undef, .undef, .undef, .undef] (.buf 1 false (bytesV bs) :: .cells x.cells :: m) =
      some ([.undef, .ptr m.length 0, .undef, .gs (m.length + 1) (bs ++ fieldB x (letterF c)).length, .str ls, .undef, .undef, .undef, .undef, .int .i64 ls.length, .int .i64 ((i + 1 : Nat) : Int), .undef, .undef, .undef, .undef, .undef, .undef, .undef, .undef, .undef, .undef, .undef, .undef, .undef], .buf 1 false (bytesV (bs ++ fieldB x (letterF c))) :: .cells x.cells :: m) := by
  have hw := wrap_succ (show i < 4611686018427387904 by omega)
  have hg : IsG (.buf 1 false (bytesV bs) :: .cells x.cells :: m) (m.length + 1) false bs := by unfold IsG; exact look_new (by simp)
  have hput : ∀ ys, putG (.buf 1 false (bytesV bs) :: .cells x.cells :: m) (m.length + 1) false ys = .buf 1 false (bytesV ys) :: .cells x.cells :: m := fun ys => by unfold putG; exact upd_new (by simp)
  have hwt : x.owner.length + x.name.length + x.text.length + weights x.row.vals < 800000 := hx
  have hn : ∀ z : Int, callL MM F.ref20_Number [.gs (m.length + 1) bs.length, .int .i64 z, .int .i64 8] (.buf 1 false (bytesV bs) :: .cells x.cells :: m) = some (.ret [.gs (m.length + 1) (bs ++ beB z 8).length] (.buf 1 false (bytesV (bs ++ beB z 8)) :: .cells x.cells :: m)) := fun z => by
    have h := run_ref20_Number _ _ _ bs hg z 8 (by omega) (by omega); rw [hput] at h; exact h
  have ht : ∀ s : List UInt8, s.length < 800000 → callL MM F.ref20_String [.gs (m.length + 1) bs.length, .str s] (.buf 1 false (bytesV bs) :: .cells x.cells :: m) = some (.ret [.gs (m.length + 1) (bs ++ textB s).length] (.buf 1 false (bytesV (bs ++ textB s)) :: .cells x.cells :: m)) := fun s hs => by
    have h := run_ref20_String _ _ _ bs hg s (by omega); rw [hput] at h; exact h
  have hr : callL MM F.ref20_Row [.gs (m.length + 1) bs.length, x.row.toV] (.buf 1 false (bytesV bs) :: .cells x.cells :: m) = some (.ret [.gs (m.length + 1) (bs ++ rowB x.row.vals).length] (.buf 1 false (bytesV (bs ++ rowB x.row.vals)) :: .cells x.cells :: m)) := by
    have h := run_ref20_Row _ _ _ bs hg x.row (by unfold Rec.weight at hb2; omega); rw [hput] at h; exact h
  have h1 := ht x.owner (by omega)
  have h2 := ht x.name (by omega)
  have h3 := ht x.text (by omega)
  have b84 : ((c.toNat : Int) == 84) = decide (c = 84) := u8_beq c 84 (by omega)
  have b79 : ((c.toNat : Int) == 79) = decide (c = 79) := u8_beq c 79 (by omega)
  have b78 : ((c.toNat : Int) == 78) = decide (c = 78) := u8_beq c 78 (by omega)
  have b73 : ((c.toNat : Int) == 73) = decide (c = 73) := u8_beq c 73 (by omega)
  have b82 : ((c.toNat : Int) == 82) = decide (c = 82) := u8_beq c 82 (by omega)
  have b66 : ((c.toNat : Int) == 66) = decide (c = 66) := u8_beq c 66 (by omega)
  have b77 : ((c.toNat : Int) == 77) = decide (c = 77) := u8_beq c 77 (by omega)
  have b67 : ((c.toNat : Int) == 67) = decide (c = 67) := u8_beq c 67 (by omega)
  clear ht hput hg
  simp only [Rec.cells] at *
  have hi' := int_lt hi
  by_cases c84 : c = 84
  · subst c84; simp [l_ref20_Bytes_0, hi', hc, hw, callgOp, hn, fieldB, letterF]
  by_cases c79 : c = 79
  · subst c79; simp [l_ref20_Bytes_0, hi', hc, hw, callgOp, h1, fieldB, letterF]
  by_cases c78 : c = 78
  · subst c78; simp [l_ref20_Bytes_0, hi', hc, hw, callgOp, h2, fieldB, letterF]
  by_cases c73 : c = 73
  · subst c73; simp [l_ref20_Bytes_0, hi', hc, hw, callgOp, hn, fieldB, letterF]
  by_cases c82 : c = 82
  · subst c82; simp [l_ref20_Bytes_0, hi', hc, hw, callgOp, hr, fieldB, letterF]
  by_cases c66 : c = 66
  · subst c66; simp [l_ref20_Bytes_0, hi', hc, hw, callgOp, hn, fieldB, letterF]
  by_cases c77 : c = 77
  · subst c77; simp [l_ref20_Bytes_0, hi', hc, hw, callgOp, hn, fieldB, letterF]
  by_cases c67 : c = 67
  · subst c67; simp [l_ref20_Bytes_0, hi', hc, hw, callgOp, hn, fieldB, letterF]
  simp [l_ref20_Bytes_0, hi', hc, hw, callgOp, h3, fieldB, letterF, b84, b79, b78, b73, b82, b66, b77, b67, c84, c79, c78, c73, c82, c66, c77, c67]

theorem sum_loop' (m : Mem) (b k : Nat) (hb : b ≤ m.length) (hk : k < m.length) (cs : List UInt8) (hg : look m k = some (.buf 1 true (bytesV cs))) (hlen : cs.length < 10000000) (hobj : objsOK b m.length m = true) (u0 u2 u7 u8 u23 : V) (ls : List UInt8) (v1 v4 v5 v9 v10 v11 v12 v13 v14 v15 v16 v17 v18 v19 : V) :
    loopL (callL MM) b m.length [0, 1, 2, 4, 5, 7, 8, 9, 10, 11, 12, 13, 14, 15, 16, 17, 18, 19, 23] l_ref20_Bytes_1
      [u0, v1, u2, .gs k cs.length, v4, v5, .int .i64 0, u7, u8, v9, v10, v11, v12, v13, v14, v15, v16, v17, v18, v19, .gs k cs.length, .int .i64 cs.length, .int .i64 0, u23] m =
      some (.exit 3 [.undef, .undef, .undef, .gs k cs.length, .undef, .undef, .int .i64 (sumB cs), .undef, .undef, .undef, .undef, .undef, .undef, .undef, .undef, .undef, .undef, .undef, .undef, .undef, .gs k cs.length, .int .i64 cs.length, .int .i64 cs.length, .bool false] m) := by
  refine loop_each cs (fun i (s : Nat) => [.undef, .undef, .undef, .gs k cs.length, .undef, .undef, .int .i64 s, .undef, .undef, .undef, .undef, .undef, .undef, .undef, .undef, .undef, .undef, .undef, .undef, .undef, .gs k cs.length, .int .i64 cs.length, .int .i64 i, .undef])
    (fun _ _ => m) (fun _ s => s < 4294967296)
    (fun rest i s => .exit 3 [.undef, .undef, .undef, .gs k cs.length, .undef, .undef, .int .i64 (sumFrom rest i s), .undef, .undef, .undef, .undef, .undef, .undef, .undef, .undef, .undef, .undef, .undef, .undef, .undef, .gs k cs.length, .int .i64 cs.length, .int .i64 cs.length, .bool false] m)
    (fun s _ => ⟨?_, rfl⟩) (fun i c rest s hc hd hi hs => .inr ⟨(s + (i + 1) * c.toNat) % 4294967296, ?_, Nat.mod_lt _ (by omega), rfl⟩) 0 _ m (by omega) (by simp [hk, hobj])
  · simp [l_ref20_Bytes_1, sumFrom]
  · have hc2 : c.toNat < 256 := c.toNat_lt
    have hw := wrap_succ (show i < 4611686018427387904 by omega)
    have hbv : (bytesV cs)[i]? = some (.int .u8 c.toNat) := by simp [bytesV, hc]
    have w2 : IntKind.i64.wrap (c.toNat : Int) = (c.toNat : Int) := wrap64_id (by omega) (by omega)
    have hmul : (i + 1) * c.toNat ≤ 10000000 * 256 := Nat.mul_le_mul (by omega) (by omega)
    have w3 : IntKind.i64.wrap (((i : Int) + 1) * (c.toNat : Int)) = (((i + 1) * c.toNat : Nat) : Int) := by
      rw [show ((i : Int) + 1) * (c.toNat : Int) = (((i + 1) * c.toNat : Nat) : Int) by simp]
      exact wrap64_id (by omega) (by omega)
    generalize (i + 1) * c.toNat = q at *
    have w4 : IntKind.i64.wrap ((s : Int) + (q : Int)) = ((s + q : Nat) : Int) := by rw [wrap64_id (by omega) (by omega)]; omega
    have w5 : ((s + q : Nat) : Int).tmod 4294967296 = (((s + q) % 4294967296 : Nat) : Int) := by
      rw [Int.tmod_eq_emod_of_nonneg (by omega)]; omega
    generalize hz : ((s + q : Nat) : Int) = z at *
    simp [l_ref20_Bytes_1, int_lt hi, hg, hbv, hw, w2, w3, w4, w5, hk, hobj]
end Go.Vm.Redo
-- RN3: Walks: the reference's bytes of a record, and its encoding.
set_option maxRecDepth 100000
namespace Go.Vm.Redo
open Go Go.Vm

theorem lettersB_len (x : Rec) : ∀ ls : List UInt8, (lettersB x ls).length ≤ ls.length * (x.weight + 8)
  | [] => by simp [lettersB]
  | c :: ls => by
    have h := lettersB_len x ls
    have h2 := fieldB_len x (letterF c)
    simp only [lettersB, List.flatMap_cons, List.length_append, List.length_cons] at h ⊢
    rw [Nat.succ_mul]; omega

theorem run_ref20_Bytes (x : Rec) (hx : x.weight < 100000) (m : Mem) : callL MM F.ref20_Bytes [x.toV] m = some (.ret [.sl false 1 (bytesV (encB x))] m) := by
  rw [call_ref20_Bytes _ _ rfl]
  have hF := fun m => run_ref20_Fields x.op m
  have hshort : ((lettersOf x.op).getD []).length ≤ 5 := by
    unfold lettersOf
    repeat' split
    all_goals decide
  have hbody : bodyB x = beB x.op 1 ++ lettersB x ((lettersOf x.op).getD []) := by rw [letters_body]; rfl
  generalize (lettersOf x.op).getD [] = ls at *
  generalize (lettersOf x.op).isSome = ok at *
  have hq := loop_each (cf := callL MM) (b := m.length) (L := m.length + 1 + 1) (kill := [0, 2, 5, 6, 7, 8, 11, 12, 13, 14, 15, 16, 17, 18, 19, 20, 21, 22, 23]) (c := l_ref20_Bytes_0) ls
    (fun i (bs : List UInt8) => [.undef, .ptr m.length 0, .undef, .gs (m.length + 1) bs.length, .str ls, .undef, .undef, .undef, .undef, .int .i64 ls.length, .int .i64 i, .undef, .undef, .undef, .undef, .undef, .undef, .undef, .undef, .undef, .undef, .undef, .undef, .undef])
    (fun _ bs => .buf 1 false (bytesV bs) :: .cells x.cells :: m) (fun i bs => bs.length ≤ 1 + i * (x.weight + 8))
    (fun rest i bs => .exit 0 [.undef, .ptr m.length 0, .undef, .gs (m.length + 1) (bs ++ lettersB x rest).length, .str ls, .undef, .undef, .undef, .undef, .int .i64 ls.length, .int .i64 ls.length, .bool false, .undef, .undef, .undef, .undef, .undef, .undef, .undef, .undef, .undef, .undef, .undef, .undef] (.buf 1 false (bytesV (bs ++ lettersB x rest)) :: .cells x.cells :: m))
    (fun bs _ => ⟨by simp [l_ref20_Bytes_0, lettersB], rfl⟩)
    (fun i c rest bs hc hd hi hI => .inr ⟨bs ++ fieldB x (letterF c), by
      have hle : i * (x.weight + 8) ≤ 5 * 100008 := Nat.mul_le_mul (by omega) (by omega)
      exact bytes_round x (by omega) m ls i c hc hi (by omega) bs (by omega) (by omega), by
      have h2 := fieldB_len x (letterF c)
      rw [List.length_append, Nat.succ_mul]; omega, by simp [lettersB, List.append_assoc]⟩)
    (beB x.op 1) [x.toV, .ptr m.length 0, .sl true 0 [], .gs (m.length + 1) 1, .str ls, .undef, .undef, .undef, .undef, .int .i64 ls.length, .int .i64 0, .undef, .undef, .undef, .undef, .undef, .undef, .undef, .undef, .undef, .undef, .undef, .undef, .undef] (.buf 1 false (bytesV (beB x.op 1)) :: .cells x.cells :: m)
    (by simp [beB_len]) (by simp [beB_len, Rec.cells])
  rw [← hbody] at hq
  have hlb : (bodyB x).length ≤ 1 + 5 * 100008 := by
    have h1 := lettersB_len x ls
    have h2 : ls.length * (x.weight + 8) ≤ 5 * 100008 := Nat.mul_le_mul (by omega) (by omega)
    rw [hbody, List.length_append, beB_len]; omega
  -- the head
  have hg : IsG (.buf 1 true (bytesV []) :: .buf 1 false (bytesV (bodyB x)) :: .cells x.cells :: m) (m.length + 1 + 1) true [] := by unfold IsG; exact look_new (by simp)
  have hn := run_ref20_Number _ _ _ [] hg ((bodyB x).length + 4 : Nat) 2 (by simp) (by omega)
  have hput : ∀ ys, putG (.buf 1 true (bytesV []) :: .buf 1 false (bytesV (bodyB x)) :: .cells x.cells :: m) (m.length + 1 + 1) true ys = .buf 1 true (bytesV ys) :: .buf 1 false (bytesV (bodyB x)) :: .cells x.cells :: m := fun ys => by unfold putG; exact upd_new (by simp)
  rw [hput, List.nil_append, beB_len] at hn
  have hw4 : IntKind.i64.wrap (((bodyB x).length : Int) + 4) = (((bodyB x).length + 4 : Nat) : Int) := by rw [wrap64_id (by omega) (by omega)]; omega
  have hop : V.int .u8 (IntKind.u8.wrap x.op) = .int .u8 ((UInt8.ofNat (x.op % 256).toNat).toNat : Int) := u8_one x.op
  have hop2 : [V.int .u8 (IntKind.u8.wrap x.op)] = bytesV (beB x.op 1) := by rw [hop, beB_one]; rfl
  have hcap : 2 + (bodyB x).length ≤ 140737488355328 := by omega
  have hhead : (headB x) = beB ((bodyB x).length + 4 : Nat) 2 ++ bodyB x := rfl
  have hhl : (headB x).length = 2 + (bodyB x).length := by rw [hhead, List.length_append, beB_len]
  have hs := sum_loop' (.buf 1 true (bytesV (headB x)) :: .buf 1 false (bytesV (bodyB x)) :: .cells x.cells :: m) m.length (m.length + 1 + 1) (by simp) (by simp) (headB x) (look_new (by simp)) (by omega) (by simp [Rec.cells])
    .undef .undef .undef .undef .undef ls (.ptr m.length 0) (.str ls) .undef (.int .i64 ls.length) (.int .i64 ls.length) (.bool false) .undef .undef .undef .undef .undef .undef .undef .undef
  have hg2 : IsG (.buf 1 true (bytesV (headB x)) :: .buf 1 false (bytesV (bodyB x)) :: .cells x.cells :: m) (m.length + 1 + 1) true (headB x) := by unfold IsG; exact look_new (by simp)
  have hn2 := run_ref20_Number _ _ _ (headB x) hg2 (sumB (headB x)) 4 (by omega) (by omega)
  have hput2 : ∀ ys, putG (.buf 1 true (bytesV (headB x)) :: .buf 1 false (bytesV (bodyB x)) :: .cells x.cells :: m) (m.length + 1 + 1) true ys = .buf 1 true (bytesV ys) :: .buf 1 false (bytesV (bodyB x)) :: .cells x.cells :: m := fun ys => by unfold putG; exact upd_new (by simp)
  rw [hput2] at hn2
  have henc : encB x = headB x ++ beB (sumB (headB x)) 4 := rfl
  have hel : (encB x).length = 2 + (bodyB x).length + 4 := by rw [henc, List.length_append, beB_len, hhl]
  rw [← henc, hel] at hn2
  rw [hhl] at hn2 hs
  have e1 : bytesV (beB ((bodyB x).length + 4 : Nat) 2) ++ bytesV (bodyB x) = bytesV (headB x) := by rw [hhead, bytesV_append]
  have hw4' : IntKind.i64.wrap (((bodyB x).length : Int) + 4) = ((bodyB x).length : Int) + 4 := by rw [hw4]; omega
  have c1 : ([] : List V).length + 1 ≤ 140737488355328 := by simp
  generalize hB : bodyB x = B at *
  generalize hH : headB x = H at *
  generalize hE : encB x = E at *
  generalize hS : sumB H = S at *
  have hElen : (bytesV E).length = 2 + B.length + 4 := by rw [bytesV_len, hel]
  simp only [Rec.cells, Rec.toV, bytesV_nil, List.length_nil] at *
  simp only [Int.natCast_add, Int.cast_ofNat_Int, List.length_cons] at hn hs hn2 hq e1
  have tk : ∀ l : List UInt8, (bytesV l).take l.length = bytesV l := fun l => List.take_of_length_le (by rw [bytesV_len]; omega)
  have tkE : (bytesV E).take (2 + B.length + 4) = bytesV E := List.take_of_length_le (by rw [hElen]; omega)
  simp [vf_ref20_Bytes, hF, hop2, hq, callgOp, hw4', hn, tk, hcap, e1, hs, hn2, tkE, bytesV_len, beB_len, hhl, -List.append_assoc]
end Go.Vm.Redo
-- RL0: Laws of records in plain Lean: a valid record is small.
namespace Go.Vm.Redo
open Go Go.Vm

theorem valOK_weight (v : Val) (h : valOK v = true) : v.t.length ≤ 200 := by
  unfold valOK at h
  split at h
  · simp only [Bool.and_eq_true, decide_eq_true_eq] at h; rw [h.2]; simp
  · split at h
    · simp only [Bool.and_eq_true, decide_eq_true_eq] at h; rw [h.1]; simp
    · split at h
      · unfold strOK at h; simp only [Bool.and_eq_true, decide_eq_true_eq] at h; exact h.2.1
      · split at h
        · simp only [Bool.and_eq_true, decide_eq_true_eq] at h; rw [h.1]; simp
        · cases h
theorem rowOK_weight (l : List Val) (h : rowOK l = true) : weights l ≤ 20 * 216 := by
  unfold rowOK at h
  simp only [Bool.and_eq_true, decide_eq_true_eq] at h
  have : ∀ l : List Val, l.all valOK = true → weights l ≤ l.length * 216 := by
    intro l
    induction l with
    | nil => intro _; simp [weights]
    | cons v l ih =>
      intro h
      simp only [List.all_cons, Bool.and_eq_true] at h
      have h1 := valOK_weight v h.1
      have h2 := ih h.2
      rw [weights_cons, List.length_cons, Nat.succ_mul]
      unfold Val.weight; omega
  have h1 := this l h.2
  have h2 : l.length * 216 ≤ 20 * 216 := Nat.mul_le_mul h.1 (Nat.le_refl _)
  omega
theorem isName_len (s : List UInt8) (h : isName s = true) : s.length ≤ 30 := by
  unfold isName at h
  simp only [Bool.and_eq_true, decide_eq_true_eq] at h
  exact h.1.2
theorem joint_len (s : List UInt8) (h : joint s = true) : s.length ≤ 40 := by
  unfold joint at h
  simp only [Bool.and_eq_true, decide_eq_true_eq] at h
  exact h.2

/-- What a valid record's fields are. -/
structure Parts (x : Rec) : Prop where
  owner : x.owner.length ≤ 30
  name : x.name.length ≤ 30
  text : x.text.length ≤ 20000
  row : rowOK x.row.vals = true
theorem validR_parts (x : Rec) (h : validR x = true) : Parts x := by
  obtain ⟨op, txn, owner, name, id, row, time, text, n⟩ := x
  unfold validR at h
  simp only at h
  have h0 : rowOK [] = true := by decide
  rcases op_cases op with h' | ⟨k1, k2, k3, k4, k5, k6, k7, k8, k9, k10, k11⟩
  · rcases h' with rfl | rfl | rfl | rfl | rfl | rfl | rfl | rfl | rfl | rfl | rfl <;>
      simp [fieldsOf, clear, setField, sameR, fieldOK, RowR.vals] at h <;>
      (constructor <;> simp only [] <;> first
        | (simp [h]; done)
        | (rw [h.1.1.1]; simp; done)
        | (have := isName_len owner (by simp [h]); omega)
        | (have := isName_len name (by simp [h]); omega)
        | (have := joint_len text (by simp [h]); omega)
        | (simp [h, h0, RowR.vals]; done)
        | skip)
  · simp [fieldsOf, k1, k2, k3, k4, k5, k6, k7, k8, k9, k10, k11] at h
end Go.Vm.Redo
-- RA1: The machine of this seat with redo.Encode: what the machine without it answers, it answers.
namespace Go.Vm
open Go
theorem callF_le {M M' : Machine'} (hfun : M.funs = M'.funs) (hp : ∀ f p, M.prims f = some p → M'.prims f = some p) (hn : ∀ f p, M'.prims f = some p → M.prims f = none → M.funs f = none) : ∀ n, CFle (callF M n) (callF M' n)
  | 0 => fun _ _ _ _ h => by simp [callF] at h
  | n + 1 => fun f a m out h => by
    have ih := callF_le hfun hp hn n
    rw [callF_succ] at h ⊢
    cases hq : M.prims f with
    | some p => rw [hq] at h; rw [hp f p hq]; exact h
    | none =>
      rw [hq] at h
      cases hq' : M'.prims f with
      | some p => rw [hn f p hq' hq] at h; cases h
      | none =>
        rw [← hfun]
        simp only at h ⊢
        cases hF : M.funs f with
        | none => rw [hF] at h; cases h
        | some F =>
          rw [hF] at h
          simp only at h ⊢
          split at h
          · rename_i hl
            rw [if_pos hl]
            obtain ⟨rs, h1, h2⟩ := obind h
            rw [(exec_cont m.length n F.body (enter F a) m).mono _ _ ih rs h1]
            exact h2
          · cases h
theorem callL_le {M M' : Machine'} (hfun : M.funs = M'.funs) (hp : ∀ f p, M.prims f = some p → M'.prims f = some p) (hn : ∀ f p, M'.prims f = some p → M.prims f = none → M.funs f = none) : CFle (callL M) (callL M') := fun f a m out h => by
  obtain ⟨n, h⟩ := (callL_iff M f a m out).1 h
  exact (callL_iff M' f a m out).2 ⟨n, callF_le hfun hp hn n f a m out h⟩
end Go.Vm
set_option maxRecDepth 100000
namespace Go.Vm.Redo
open Go Go.Vm
open Classical in
/-- redo.Encode. -/
noncomputable def pEnc (args : List V) (m : Mem) : Option Out := if h : ∃ x : Rec, args = [x.toV] ∧ x.Fit then some (.ret [bytesR (encode h.choose).1, .int .i64 (encode h.choose).2] m) else none
noncomputable def primR1 (f : FuncId) : Option (List V → Mem → Option Out) := if f = F.redo_Encode then some pEnc else primR f
noncomputable def MM1 : Machine' := ⟨funOf Go.Proofs.Tryz.prog ann, primR1⟩
theorem encode_unread : funOf Go.Proofs.Tryz.prog ann F.redo_Encode = none := by kernel_rfl
theorem primR_encode : primR F.redo_Encode = none := rfl
theorem up {f : FuncId} {a : List V} {m : Mem} {out : Out} (h : callL MM f a m = some out) : callL MM1 f a m = some out := by
  refine callL_le (M := MM) (M' := MM1) rfl (fun f p h => ?_) (fun f p h hn => ?_) f a m out h
  · change primR f = some p at h
    show primR1 f = some p
    unfold primR1
    split
    · rename_i e; rw [e, primR_encode] at h; exact absurd h (by simp)
    · exact h
  · change primR1 f = some p at h
    change primR f = none at hn
    unfold primR1 at h
    split at h
    · rename_i e; rw [e]; exact encode_unread
    · rw [hn] at h; cases h
theorem call1 {f : FuncId} {F : VFun} (hF : funOf Go.Proofs.Tryz.prog ann f = some F) (hp : primR1 f = none) (args : List V) (m : Mem) (hl : args.length = F.params) :
    callL MM1 f args m = (ex (callL MM1) m.length F.body (enter F args) m).bind (leave m.length F.res) := by
  rw [call_eq (M := MM1) (F := F) (hp := hp) (hF := hF) (hl := hl)]
end Go.Vm.Redo
-- RE0: Walks: encoding and writing.
set_option maxRecDepth 100000
namespace Go.Vm.Redo
open Go Go.Vm

theorem Val.toV_inj {v w : Val} (h : v.toV = w.toV) : v = w := by
  obtain ⟨a, b, c⟩ := v; obtain ⟨a', b', c'⟩ := w
  simp only [Val.toV, V.agg.injEq, List.cons.injEq, V.int.injEq, V.str.injEq, true_and, and_true] at h
  obtain ⟨h1, h2, h3⟩ := h
  subst h1 h2 h3; rfl
theorem vals_inj : ∀ {l k : List Val}, l.map Val.toV = k.map Val.toV → l = k
  | [], [], _ => rfl
  | v :: l, w :: k, h => by
    simp only [List.map_cons, List.cons.injEq] at h
    rw [Val.toV_inj h.1, vals_inj h.2]
  | [], _ :: _, h => by simp at h
  | _ :: _, [], h => by simp at h
theorem RowR.toV_inj {x y : RowR} (h : x.toV = y.toV) : x = y := by
  cases x <;> cases y <;> simp only [RowR.toV, V.sl.injEq, Bool.false_eq_true, Bool.true_eq_false, false_and, true_and, and_true, reduceCtorEq] at h
  · subst h; rfl
  · rw [vals_inj h]
theorem Rec.toV_inj {x y : Rec} (h : x.toV = y.toV) : x = y := by
  obtain ⟨a, b, c, d, e, f, g, i, j⟩ := x; obtain ⟨a', b', c', d', e', f', g', i', j'⟩ := y
  simp only [Rec.toV, Rec.cells, V.agg.injEq, List.cons.injEq, V.int.injEq, V.str.injEq, true_and, and_true] at h
  obtain ⟨h1, h2, h3, h4, h5, h6, h7, h8, h9⟩ := h
  have := RowR.toV_inj h6
  subst h1 h2 h3 h4 h5 this h7 h8 h9; rfl

theorem run_redo_Encode (x : Rec) (hx : x.Fit) (m : Mem) : callL MM1 F.redo_Encode [x.toV] m = some (.ret [bytesR (encode x).1, .int .i64 (encode x).2] m) := by
  rw [call_prim (p := pEnc) (hp := rfl)]
  unfold pEnc
  have h : ∃ y : Rec, [x.toV] = [y.toV] ∧ y.Fit := ⟨x, rfl, hx⟩
  rw [dif_pos h]
  have e : h.choose = x := by
    exact (Rec.toV_inj (List.cons.inj h.choose_spec.1).1).symm
  rw [e]

theorem valid_weight (x : Rec) (h : validR x = true) : x.weight < 100000 := by
  have hp := validR_parts x h
  have h1 := hp.owner
  have h2 := hp.name
  have h3 := hp.text
  have h4 := rowOK_weight _ hp.row
  unfold Rec.weight; omega
theorem valid_fit (x : Rec) (h : validR x = true) : x.Fit := by
  have hp := validR_parts x h
  have h1 := hp.owner
  have h2 := hp.name
  have h3 := hp.text
  have h4 := rowOK_weight _ hp.row
  have h5 := len_weights x.row.vals
  refine ⟨by omega, by omega, by omega, by omega, fun v hv => ?_⟩
  have hr := hp.row
  unfold rowOK at hr
  simp only [Bool.and_eq_true] at hr
  have := valOK_weight v (List.all_eq_true.1 hr.2 v hv)
  omega

theorem run_ref20_Encode (x : Rec) (hx : x.Fit) (m : Mem) : callL MM F.ref20_Encode [x.toV] m = some (.ret [bytesR (encode x).1, .int .i64 (encode x).2] m) := by
  rw [call_ref20_Encode _ _ rfl]
  have hv := run_ref20_Valid x hx (.cells x.cells :: m)
  unfold encode
  cases h : validR x with
  | false =>
    rw [h] at hv
    simp only [Rec.cells, Rec.toV] at *
    simp [vf_ref20_Encode, hv, bytesR]
  | true =>
    rw [h] at hv
    have hb := run_ref20_Bytes x (valid_weight x h) (.cells x.cells :: m)
    generalize encB x = E at *
    simp only [Rec.cells, Rec.toV] at *
    by_cases hl : E.length > 65537
    · have hl' : (65537 : Int) < (E.length : Int) := by omega
      simp [vf_ref20_Encode, hv, hb, hl, hl', bytesR, bytesV_len]
    · have hl' : ¬ (65537 : Int) < (E.length : Int) := by omega
      simp [vf_ref20_Encode, hv, hb, hl, hl', bytesR, bytesV_len]

/-- Write: the bytes of all, or the first error. -/
def writeAll : List Rec → List UInt8 → Option (List UInt8) × Int
  | [], out => (some out, 0)
  | x :: l, out => match (encode x).1 with
    | none => (none, (encode x).2)
    | some b => writeAll l (out ++ b)
/-- What is returned for bytes that were gathered. -/
def gatherR : Option (List UInt8) → V
  | none => .sl true 0 []
  | some b => .sl (decide (b.length = 0)) 1 (bytesV b)
theorem encode_err (x : Rec) : (encode x).1 = none ↔ (encode x).2 ≠ 0 := by
  unfold encode
  split
  · split <;> simp
  · simp
theorem encode_len (x : Rec) (b : List UInt8) (h : (encode x).1 = some b) : b.length ≤ 65537 := by
  unfold encode at h
  split at h
  · split at h
    · cases h
    · cases h; omega
  · cases h
/-- The first record with an error: its place, its error, the bytes before it, its cells. -/
def failAt : List Rec → List UInt8 → Nat × Int × List UInt8 × List V
  | [], out => (0, 0, out, [])
  | x :: l, out => match (encode x).1 with
    | none => (0, (encode x).2, out, x.cells)
    | some b => ((failAt l (out ++ b)).1 + 1, (failAt l (out ++ b)).2)
theorem failAt_err : ∀ (l : List Rec) (bs : List UInt8), (writeAll l bs).1 = none → (writeAll l bs).2 = (failAt l bs).2.1
  | [], _, h => by cases h
  | x :: l, bs, h => by
    unfold writeAll failAt at *
    cases hb : (encode x).1 with
    | none => rfl
    | some b => rw [hb] at h; exact failAt_err l _ h
theorem writeAll_ok : ∀ (l : List Rec) (bs : List UInt8), (writeAll l bs).1 ≠ none → (writeAll l bs).2 = 0
  | [], _, _ => rfl
  | x :: l, bs, h => by
    unfold writeAll at *
    cases hb : (encode x).1 with
    | none => rw [hb] at h; exact absurd rfl h
    | some b => rw [hb] at h; exact writeAll_ok l _ h

/-- redo.Write. -/
theorem run_redo_Write (nl : Bool) (sz : Nat) (l : List Rec) (hsz : sz = 9 ∨ l = []) (hl : l.length < 30000) (hf : ∀ x ∈ l, x.Fit) (m : Mem) :
    callL MM1 F.redo_Write [.sl nl sz (l.map Rec.toV)] m = some (.ret [gatherR (writeAll l []).1, .int .i64 (writeAll l []).2] m) := by
  rw [call1 vfun_redo_Write rfl _ _ rfl]
  have hq := loop_each (cf := callL MM1) (b := m.length) (L := m.length + 1) (kill := [0, 1, 2, 4, 5, 6, 10, 11]) (c := l_redo_Write_0) l
    (fun i (bs : List UInt8) => [.undef, .undef, .undef, .gs m.length bs.length, .undef, .undef, .undef, .sl nl sz (l.map Rec.toV), .int .i64 l.length, .int .i64 i, .undef, .undef])
    (fun _ bs => .buf 1 true (bytesV bs) :: m) (fun i bs => bs.length ≤ i * 65537)
    (fun rest i bs => match writeAll rest bs with
      | (some b, _) => .exit 0 [.undef, .undef, .undef, .gs m.length b.length, .undef, .undef, .undef, .sl nl sz (l.map Rec.toV), .int .i64 l.length, .int .i64 l.length, .bool false, .undef] (.buf 1 true (bytesV b) :: m)
      | (none, _) => .ret [.undef, .sl true 0 [], .int .i64 (failAt rest bs).2.1, .gs m.length (failAt rest bs).2.2.1.length, .ptr (m.length + 1) 0, .sl true 0 [], .int .i64 (failAt rest bs).2.1, .sl nl sz (l.map Rec.toV), .int .i64 l.length, .int .i64 (i + (failAt rest bs).1 : Nat), .bool true, .bool true] (.cells (failAt rest bs).2.2.2 :: .buf 1 true (bytesV (failAt rest bs).2.2.1) :: m))
    (fun bs _ => ⟨by simp [l_redo_Write_0, writeAll], rfl⟩)
    (fun i x rest bs hx hd hi hI => by
      have hs : sz = 9 := by
        rcases hsz with h | h
        · exact h
        · rw [h] at hx; simp at hx
      subst hs
      have he := fun m => run_redo_Encode x (hf x (List.mem_of_getElem? hx)) m
      have hbig : i * 65537 ≤ 30000 * 65537 := Nat.mul_le_mul (by omega) (Nat.le_refl _)
      cases hb : (encode x).1 with
      | none =>
        have herr := (encode_err x).1 hb
        refine .inl ?_
        rw [hb] at he
        simp only [Rec.cells, Rec.toV, bytesR] at he
        have hne := ibne herr
        simp [writeAll, hb, failAt, l_redo_Write_0, int_lt hi, hx, Rec.toV, Rec.cells, he, hne, Rs.ends]
      | some b =>
        have herr : (encode x).2 = 0 := by
          have := (encode_err x).2
          rw [hb] at this
          exact Decidable.of_not_not fun h => by simpa using this h
        have hlen := encode_len x b hb
        have hw := wrap_succ (show i < 4611686018427387904 by omega)
        have hcap : bs.length + b.length ≤ 140737488355328 := by omega
        rw [hb, herr] at he
        simp only [Rec.cells, Rec.toV, bytesR] at he
        refine .inr ⟨bs ++ b, ?_, ?_, ?_⟩
        · simp [l_redo_Write_0, int_lt hi, hx, Rec.toV, Rec.cells, he, hw, hcap, bytesV_len, bytesV_append]
        · rw [List.length_append, Nat.succ_mul]; omega
        · simp only [writeAll, hb, failAt, Nat.add_assoc, Nat.add_comm 1])
    [] [.sl nl sz (l.map Rec.toV), .sl true 0 [], .int .i64 0, .gs m.length 0, .undef, .undef, .undef, .sl nl sz (l.map Rec.toV), .int .i64 l.length, .int .i64 0, .undef, .undef] (.buf 1 true [] :: m) (by simp) (by simp [bytesV_nil])
  have h1 := failAt_err l []
  have h2 := writeAll_ok l []
  generalize writeAll l [] = W at *
  obtain ⟨o, e⟩ := W
  cases o with
  | none =>
    simp only at h1
    rw [h1 trivial]
    simp [vf_redo_Write, hq, gatherR, Rs.ends]
  | some b =>
    simp only at h2
    have := h2 (by simp)
    subst this
    simp [vf_redo_Write, hq, gatherR, List.take_of_length_le, bytesV_len]
    cases b <;> rfl

/-- justiciarref20.Write. -/
theorem run_ref20_Write (nl : Bool) (sz : Nat) (l : List Rec) (hsz : sz = 9 ∨ l = []) (hl : l.length < 3000) (hf : ∀ x ∈ l, x.Fit) (m : Mem) :
    callL MM F.ref20_Write [.sl nl sz (l.map Rec.toV)] m = some (.ret [gatherR (writeAll l []).1, .int .i64 (writeAll l []).2] m) := by
  rw [call_ref20_Write _ _ rfl]
  have hq := loop_each (cf := callL MM) (b := m.length) (L := m.length + 1) (kill := [0, 1, 2, 4, 5, 6, 10, 11]) (c := l_ref20_Write_0) l
    (fun i (bs : List UInt8) => [.undef, .undef, .undef, .gs m.length bs.length, .undef, .undef, .undef, .sl nl sz (l.map Rec.toV), .int .i64 l.length, .int .i64 i, .undef, .undef])
    (fun _ bs => .buf 1 true (bytesV bs) :: m) (fun i bs => bs.length ≤ i * 65537)
    (fun rest i bs => match writeAll rest bs with
      | (some b, _) => .exit 0 [.undef, .undef, .undef, .gs m.length b.length, .undef, .undef, .undef, .sl nl sz (l.map Rec.toV), .int .i64 l.length, .int .i64 l.length, .bool false, .undef] (.buf 1 true (bytesV b) :: m)
      | (none, _) => .ret [.undef, .sl true 0 [], .int .i64 (failAt rest bs).2.1, .gs m.length (failAt rest bs).2.2.1.length, .ptr (m.length + 1) 0, .sl true 0 [], .int .i64 (failAt rest bs).2.1, .sl nl sz (l.map Rec.toV), .int .i64 l.length, .int .i64 (i + (failAt rest bs).1 : Nat), .bool true, .bool true] (.cells (failAt rest bs).2.2.2 :: .buf 1 true (bytesV (failAt rest bs).2.2.1) :: m))
    (fun bs _ => ⟨by simp [l_ref20_Write_0, writeAll], rfl⟩)
    (fun i x rest bs hx hd hi hI => by
      have hs : sz = 9 := by
        rcases hsz with h | h
        · exact h
        · rw [h] at hx; simp at hx
      subst hs
      have he := fun m => run_ref20_Encode x (hf x (List.mem_of_getElem? hx)) m
      have hbig : i * 65537 ≤ 3000 * 65537 := Nat.mul_le_mul (by omega) (Nat.le_refl _)
      cases hb : (encode x).1 with
      | none =>
        have herr := (encode_err x).1 hb
        refine .inl ?_
        rw [hb] at he
        simp only [Rec.cells, Rec.toV, bytesR] at he
        have hne := ibne herr
        simp [writeAll, hb, failAt, l_ref20_Write_0, int_lt hi, hx, Rec.toV, Rec.cells, he, hne, Rs.ends]
      | some b =>
        have herr : (encode x).2 = 0 := by
          have := (encode_err x).2
          rw [hb] at this
          exact Decidable.of_not_not fun h => by simpa using this h
        have hlen := encode_len x b hb
        have hw := wrap_succ (show i < 4611686018427387904 by omega)
        have hcap : bs.length + b.length ≤ 140737488355328 := by omega
        rw [hb, herr] at he
        simp only [Rec.cells, Rec.toV, bytesR] at he
        refine .inr ⟨bs ++ b, ?_, ?_, ?_⟩
        · simp [l_ref20_Write_0, int_lt hi, hx, Rec.toV, Rec.cells, he, hw, hcap, bytesV_len, bytesV_append]
        · rw [List.length_append, Nat.succ_mul]; omega
        · simp only [writeAll, hb, failAt, Nat.add_assoc, Nat.add_comm 1])
    [] [.sl nl sz (l.map Rec.toV), .sl true 0 [], .int .i64 0, .gs m.length 0, .undef, .undef, .undef, .sl nl sz (l.map Rec.toV), .int .i64 l.length, .int .i64 0, .undef, .undef] (.buf 1 true [] :: m) (by simp) (by simp [bytesV_nil])
  have h1 := failAt_err l []
  have h2 := writeAll_ok l []
  generalize writeAll l [] = W at *
  obtain ⟨o, e⟩ := W
  cases o with
  | none =>
    simp only at h1
    rw [h1 trivial]
    simp [vf_ref20_Write, hq, gatherR, Rs.ends]
  | some b =>
    simp only at h2
    have := h2 (by simp)
    subst this
    simp [vf_ref20_Write, hq, gatherR, List.take_of_length_le, bytesV_len]
    cases b <;> rfl
end Go.Vm.Redo
-- RQ0: Walks: the reference's reader.
set_option maxRecDepth 100000
namespace Go.Vm.Redo
open Go Go.Vm

/-- How far the reference has read, and whether there were too few. -/
abbrev QS := Nat × Bool
def qO (nl : Bool) (B : List UInt8) (s : QS) : O := .cells [.sl nl 1 (bytesV B), .int .i64 s.1, .bool s.2]
def qN (B : List UInt8) (n : Nat) (s : QS) : Int × QS := if s.2 = true ∨ B.length < s.1 + n then (0, (s.1, true)) else (rdNum ((B.drop s.1).take n) 0, (s.1 + n, false))
def qT (B : List UInt8) (s : QS) : List UInt8 × QS :=
  let r := qN B 2 s
  if r.2.2 = true ∨ B.length < r.2.1 + r.1.toNat then ([], (r.2.1, true)) else ((B.drop r.2.1).take r.1.toNat, (r.2.1 + r.1.toNat, false))
def qV (B : List UInt8) (s : QS) : Val × QS :=
  let k := qN B 1 s
  if k.1 = 1 then let r := qN B 8 k.2; (⟨1, r.1, []⟩, r.2)
  else if k.1 = 3 then let r := qN B 1 k.2; (⟨3, r.1, []⟩, r.2)
  else if k.1 = 2 then let r := qT B k.2; (⟨2, 0, r.1⟩, r.2)
  else (⟨k.1, 0, []⟩, k.2)
def qVs (B : List UInt8) : Nat → QS → List Val × QS
  | 0, s => ([], s)
  | k + 1, s => if s.2 = true then ([], s) else let v := qV B s; let r := qVs B k v.2; (v.1 :: r.1, r.2)
def qRow (B : List UInt8) (s : QS) : List Val × QS := let k := qN B 1 s; qVs B k.1.toNat k.2
def qF (B : List UInt8) (x : Rec) (f : Int) (s : QS) : Rec × QS :=
  if f = 0 then let r := qN B 8 s; ({ x with txn := r.1 }, r.2)
  else if f = 1 then let r := qT B s; ({ x with owner := r.1 }, r.2)
  else if f = 2 then let r := qT B s; ({ x with name := r.1 }, r.2)
  else if f = 3 then let r := qN B 8 s; ({ x with id := r.1 }, r.2)
  else if f = 4 then let r := qRow B s; ({ x with row := .of r.1 }, r.2)
  else if f = 5 then let r := qN B 8 s; ({ x with time := r.1 }, r.2)
  else if f = 7 then let r := qN B 8 s; ({ x with n := r.1 }, r.2)
  else let r := qT B s; ({ x with text := r.1 }, r.2)
def qFs (B : List UInt8) : List Int → Rec → QS → Rec × QS
  | [], x, s => (x, s)
  | f :: l, x, s => let r := qF B x f s; qFs B l r.1 r.2

theorem qN_le (B : List UInt8) (n : Nat) (s : QS) (h : s.1 ≤ B.length) : (qN B n s).2.1 ≤ B.length := by
  unfold qN; split
  · exact h
  · simp only; omega
theorem qT_le (B : List UInt8) (s : QS) (h : s.1 ≤ B.length) : (qT B s).2.1 ≤ B.length := by
  have := qN_le B 2 s h
  unfold qT
  simp only
  split
  · exact this
  · simp only; omega
theorem qV_le (B : List UInt8) (s : QS) (h : s.1 ≤ B.length) : (qV B s).2.1 ≤ B.length := by
  have h1 := qN_le B 1 s h
  unfold qV
  simp only
  split
  · exact qN_le B 8 _ h1
  · split
    · exact qN_le B 1 _ h1
    · split
      · exact qT_le B _ h1
      · exact h1
theorem qVs_le (B : List UInt8) : ∀ (k : Nat) (s : QS), s.1 ≤ B.length → (qVs B k s).2.1 ≤ B.length
  | 0, s, h => h
  | k + 1, s, h => by
    unfold qVs
    split
    · exact h
    · exact qVs_le B k _ (qV_le B s h)

theorem ustep_eq (n : Int) (c : Nat) (hc : c < 256) : IntKind.u64.wrap ((BitVec.ofInt 64 (IntKind.u64.wrap (n * 2 ^ 8)) ||| BitVec.ofInt 64 (c : Int)).toNat : Int) = (n * 256 + c) % 18446744073709551616 := by
  have e1 : BitVec.ofInt 64 (IntKind.u64.wrap (n * 2 ^ 8)) = BitVec.ofInt 64 n <<< 8 := by
    apply BitVec.eq_of_toInt_eq
    rw [BitVec.shiftLeft_eq_mul_twoPow]
    apply congrArg
    apply BitVec.eq_of_toNat_eq
    rw [IntKind.wrap_u64]
    simp only [BitVec.toNat_ofInt, BitVec.toNat_mul, BitVec.toNat_twoPow]
    omega
  have e2 : BitVec.ofInt 64 (c : Int) = BitVec.ofNat 64 c := by simp
  rw [e1, e2, or_low _ _ hc, BitVec.toNat_add, ← e1, IntKind.wrap_u64, IntKind.wrap_u64]
  simp only [BitVec.toNat_ofInt, BitVec.toNat_ofNat]
  omega
/-- The number as it grows without a sign. -/
def uNum (l : List UInt8) (u : Int) : Int := l.foldl (fun u c => (u * 256 + c.toNat) % 18446744073709551616) u
theorem uNum_num : ∀ (l : List UInt8) (u n : Int), IntKind.i64.wrap u = IntKind.i64.wrap n → IntKind.i64.wrap (uNum l u) = IntKind.i64.wrap (rdNum l n)
  | [], u, n, h => h
  | c :: l, u, n, h => by
    refine uNum_num l _ _ ?_
    show IntKind.i64.wrap ((u * 256 + c.toNat) % 18446744073709551616) = IntKind.i64.wrap (IntKind.i64.wrap (n * 256 + c.toNat))
    rw [IntKind.wrap_i64, IntKind.wrap_i64] at h
    rw [IntKind.wrap_i64, IntKind.wrap_i64, IntKind.wrap_i64]
    omega
theorem rdNum_wrap : ∀ (l : List UInt8) (n : Int), IntKind.i64.wrap n = n → IntKind.i64.wrap (rdNum l n) = rdNum l n
  | [], n, h => h
  | c :: l, n, _ => by
    refine rdNum_wrap l _ ?_
    show IntKind.i64.wrap (IntKind.i64.wrap (n * 256 + c.toNat)) = IntKind.i64.wrap (n * 256 + c.toNat)
    rw [IntKind.wrap_i64, IntKind.wrap_i64]; omega

theorem run_qNumber (m : Mem) (r : Nat) (nl : Bool) (B : List UInt8) (hB : B.length < 1000000) (s : QS) (hs : s.1 ≤ B.length) (h : look m r = some (qO nl B s)) (n : Nat) (hn : n ≤ 8) :
    callL MM F.ref20_Reader_Number [.ptr r 0, .int .i64 n] m = some (.ret [.int .i64 (qN B n s).1] (upd m r (qO nl B (qN B n s).2))) := by
  rw [call_ref20_Reader_Number _ _ rfl]
  obtain ⟨at0, bad⟩ := s
  have hlt := look_lt h
  simp only [qO] at h hs
  unfold qN
  cases bad with
  | true =>
    simp [vf_ref20_Reader_Number, h, qO, hlt]
  | false =>
    have w1 : IntKind.i64.wrap ((B.length : Int) - at0) = (B.length : Int) - at0 := wrap64_id (by omega) (by omega)
    by_cases hlen : B.length < at0 + n
    · have hgt : (B.length : Int) - at0 < n := by omega
      simp [vf_ref20_Reader_Number, h, qO, hlt, bytesV_len, w1, hlen, hgt]
    · have hgt : ¬ ((B.length : Int) - at0 < n) := by omega
      have hcs : ((B.drop at0).take n).length = n := by rw [List.length_take, List.length_drop]; omega
      have hq := loop_each (cf := callL MM) (b := m.length) (L := m.length) (kill := [1, 2, 4, 7]) (c := l_ref20_Reader_Number_0) ((B.drop at0).take n)
        (fun i (u : Int) => [.ptr r 0, .undef, .undef, .int .u64 u, .undef, .int .i64 n, .int .i64 i, .undef])
        (fun i _ => upd m r (qO nl B (at0 + i, false))) (fun _ _ => True)
        (fun rest i u => .exit 0 [.ptr r 0, .undef, .undef, .int .u64 (uNum rest u), .undef, .int .i64 n, .int .i64 n, .bool false] (upd m r (qO nl B (at0 + n, false))))
        (fun u _ => ⟨by rw [hcs]; simp [l_ref20_Reader_Number_0, uNum], rfl⟩)
        (fun i c rest u hc hd hi _ => .inr ⟨(u * 256 + c.toNat) % 18446744073709551616, by
          rw [hcs] at hi
          have hBc : B[at0 + i]? = some c := by
            rw [List.getElem?_take_of_lt hi, List.getElem?_drop] at hc
            exact hc
          have hbv : (bytesV B)[at0 + i]? = some (.int .u8 c.toNat) := by simp [bytesV, hBc]
          have hc2 : c.toNat < 256 := c.toNat_lt
          have hu := ustep_eq u c.toNat hc2
          have w2 : IntKind.u64.wrap (c.toNat : Int) = (c.toNat : Int) := by rw [IntKind.wrap_u64]; omega
          have w3 : (Nat.min 8 IntKind.u64.bits) = 8 := rfl
          have w4 : IntKind.u64.bits = 64 := rfl
          have hw := wrap_succ (show i < 4611686018427387904 by omega)
          have hw2 : IntKind.i64.wrap (((at0 : Int) + i) + 1) = (at0 : Int) + i + 1 := wrap64_id (by omega) (by omega)
          have z1 : (0 : Int) ≤ (at0 : Int) + i := by omega
          have z2 : ((at0 : Int) + i).toNat = at0 + i := by omega
          have e3 : (at0 : Int) + ((i : Int) + 1) = (at0 : Int) + i + 1 := by omega
          rw [← hu]
          simp [l_ref20_Reader_Number_0, int_lt hi, hlt, qO, hbv, w2, w3, w4, hw, hw2, intBits, z1, z2, e3, upd_upd], trivial, rfl⟩)
        0 [.ptr r 0, .int .i64 n, .int .i64 0, .int .u64 0, .bool false, .int .i64 n, .int .i64 0, .undef] m trivial (by simp [hlt]; rw [upd_self (by simpa [qO] using h)])
      have hnum : IntKind.i64.wrap (uNum ((B.drop at0).take n) 0) = rdNum ((B.drop at0).take n) 0 := by
        rw [uNum_num _ 0 0 rfl]; exact rdNum_wrap _ 0 (by rw [IntKind.wrap_i64]; rfl)
      simp [vf_ref20_Reader_Number, h, hlt, bytesV_len, w1, hlen, hgt, hq, hnum]
end Go.Vm.Redo
-- RQ1: Walks: the reference's reader of strings and rows.
set_option maxRecDepth 100000
namespace Go.Vm.Redo
open Go Go.Vm

theorem qN_two (B : List UInt8) (s : QS) : 0 ≤ (qN B 2 s).1 ∧ (qN B 2 s).1 < 65536 := by
  unfold qN
  split
  · simp
  · simp only
    rename_i h
    match hl : (B.drop s.1).take 2 with
    | [a, b] =>
      have ha := a.toNat_lt
      have hb := b.toNat_lt
      rw [num_two]; omega
    | [] => simp [rdNum]
    | [a] => have ha := a.toNat_lt; rw [num_one]; omega
    | _ :: _ :: _ :: _ => have := congrArg List.length hl; simp at this; omega
theorem qN_one (B : List UInt8) (s : QS) : 0 ≤ (qN B 1 s).1 ∧ (qN B 1 s).1 < 256 := by
  unfold qN
  split
  · simp
  · simp only
    match hl : (B.drop s.1).take 1 with
    | [a] => have ha := a.toNat_lt; rw [num_one]; omega
    | [] => simp [rdNum]
    | _ :: _ :: _ => have := congrArg List.length hl; simp at this; omega

theorem run_qString (m : Mem) (r : Nat) (nl : Bool) (B : List UInt8) (hB : B.length < 1000000) (s : QS) (hs : s.1 ≤ B.length) (h : look m r = some (qO nl B s)) :
    callL MM F.ref20_Reader_String [.ptr r 0] m = some (.ret [.str (qT B s).1] (upd m r (qO nl B (qT B s).2))) := by
  rw [call_ref20_Reader_String _ _ rfl]
  have hlt := look_lt h
  have h1 : callL MM F.ref20_Reader_Number [.ptr r 0, .int .i64 2] m = _ := run_qNumber m r nl B hB s hs h 2 (by omega)
  obtain ⟨h0, h2⟩ := qN_two B s
  have hle := qN_le B 2 s hs
  unfold qT
  generalize qN B 2 s = N at *
  obtain ⟨n, at1, bad1⟩ := N
  simp only [qO] at *
  obtain ⟨k, rfl⟩ : ∃ k : Nat, n = k := ⟨n.toNat, by omega⟩
  rw [Int.toNat_natCast]
  cases bad1 with
  | true => simp [vf_ref20_Reader_String, h1, hlt, qO, upd_upd]
  | false =>
    have w1 : IntKind.i64.wrap ((B.length : Int) - at1) = (B.length : Int) - at1 := wrap64_id (by omega) (by omega)
    by_cases hlen : B.length < at1 + k
    · have hgt : (B.length : Int) - at1 < k := by omega
      simp [vf_ref20_Reader_String, h1, hlt, bytesV_len, w1, hlen, hgt, upd_upd]
    · have hgt : ¬ ((B.length : Int) - at1 < k) := by omega
      have w2 : IntKind.i64.wrap ((at1 : Int) + k) = ((at1 + k : Nat) : Int) := by rw [wrap64_id (by omega) (by omega)]; omega
      have w3 : IntKind.i64.wrap (((at1 + k : Nat) : Int) - k) = at1 := by rw [wrap64_id (by omega) (by omega)]; omega
      have w4 : ((at1 + k : Nat) : Int) ≤ (B.length : Int) := by omega
      have w5 : (at1 : Int) ≤ ((at1 + k : Nat) : Int) := by omega
      have w6 : ((at1 + k : Nat) : Int).toNat = at1 + k := by omega
      have w7 : (0 : Int) ≤ ((at1 + k : Nat) : Int) := by omega
      have e1 : strOf (List.drop at1 (List.take (at1 + k) (bytesV B))) = some ((B.drop at1).take k) := by
        rw [bytesV_take, bytesV_drop, strOf_bytes, List.drop_take, Nat.add_sub_cancel_left]
      generalize hz : ((at1 + k : Nat) : Int) = z at *
      simp [vf_ref20_Reader_String, h1, hlt, bytesV_len, w1, hlen, hgt, upd_upd, w2, w3, w4, w5, w6, w7, e1, hz]

theorem qnum_pre (pre m : Mem) (r : Nat) (nl : Bool) (B : List UInt8) (hB : B.length < 1000000) (s : QS) (hs : s.1 ≤ B.length) (h : r < m.length) (n : Nat) (hn : n ≤ 8) :
    callL MM F.ref20_Reader_Number [.ptr r 0, .int .i64 n] (pre ++ upd m r (qO nl B s)) = some (.ret [.int .i64 (qN B n s).1] (pre ++ upd m r (qO nl B (qN B n s).2))) := by
  rw [run_qNumber (pre ++ upd m r (qO nl B s)) r nl B hB s hs (by rw [look_app_old (by simpa using h)]; exact look_upd h) n hn, upd_app_old (by simpa using h), upd_upd]
theorem qstr_pre (pre m : Mem) (r : Nat) (nl : Bool) (B : List UInt8) (hB : B.length < 1000000) (s : QS) (hs : s.1 ≤ B.length) (h : r < m.length) :
    callL MM F.ref20_Reader_String [.ptr r 0] (pre ++ upd m r (qO nl B s)) = some (.ret [.str (qT B s).1] (pre ++ upd m r (qO nl B (qT B s).2))) := by
  rw [run_qString (pre ++ upd m r (qO nl B s)) r nl B hB s hs (by rw [look_app_old (by simpa using h)]; exact look_upd h), upd_app_old (by simpa using h), upd_upd]

theorem qrow_round (m : Mem) (r : Nat) (nl : Bool) (B : List UInt8) (hB : B.length < 1000000) (at0 : Nat) (hs : at0 ≤ B.length) (h : r < m.length) (vs : List Val) (cnt : Nat) (hc : cnt < 256) (hv : vs.length < 1000) :
    rnd (callL MM) m.length (m.length + 1) [1, 4, 5, 6, 7, 8, 9] l_ref20_Reader_Row_0 [.ptr r 0, .undef, .gs m.length vs.length, .int .i64 ((cnt + 1 : Nat) : Int), .undef, .undef, .undef, .undef, .undef, .undef] (.buf 3 true (vs.map Val.toV) :: upd m r (qO nl B (at0, false))) =
      some ([.ptr r 0, .undef, .gs m.length (vs ++ [(qV B (at0, false)).1]).length, .int .i64 cnt, .undef, .undef, .undef, .undef, .undef, .undef], .buf 3 true ((vs ++ [(qV B (at0, false)).1]).map Val.toV) :: upd m r (qO nl B (qV B (at0, false)).2)) := by
  have hlt : r < m.length + 1 := by omega
  have w1 : IntKind.i64.wrap (cnt : Int) = (cnt : Int) := wrap64_id (by omega) (by omega)
  have hpos : (0 : Int) < (cnt : Int) + 1 := by omega
  have hc2 : (vs.length + 1) * 32 ≤ 140737488355328 := by omega
  have hc3 : (vs.length + 1) ≤ 140737488355328 := by omega
  have h1 : callL MM F.ref20_Reader_Number [.ptr r 0, .int .i64 1] (.buf 3 true (vs.map Val.toV) :: upd m r (qO nl B (at0, false))) = _ := qnum_pre [_] m r nl B hB (at0, false) hs h 1 (by omega)
  have hle := qN_le B 1 (at0, false) hs
  generalize hk : qN B 1 (at0, false) = K at h1 hle
  obtain ⟨kd, s1⟩ := K
  simp only at h1 hle
  have h8 : ∀ o : O, callL MM F.ref20_Reader_Number [.ptr r 0, .int .i64 8] (o :: .buf 3 true (vs.map Val.toV) :: upd m r (qO nl B s1)) = _ := fun o => qnum_pre [_, _] m r nl B hB s1 hle h 8 (by omega)
  have h81 : ∀ o : O, callL MM F.ref20_Reader_Number [.ptr r 0, .int .i64 1] (o :: .buf 3 true (vs.map Val.toV) :: upd m r (qO nl B s1)) = _ := fun o => qnum_pre [_, _] m r nl B hB s1 hle h 1 (by omega)
  have ht : ∀ o : O, callL MM F.ref20_Reader_String [.ptr r 0] (o :: .buf 3 true (vs.map Val.toV) :: upd m r (qO nl B s1)) = _ := fun o => qstr_pre [_, _] m r nl B hB s1 hle h
  have hlk : look (.buf 3 true (vs.map Val.toV) :: upd m r (qO nl B (at0, false))) r = some (.cells [.sl nl 1 (bytesV B), .int .i64 at0, .bool false]) := by
    rw [look_cons_old (by simpa using h), look_upd h]; rfl
  simp only [qV, hk]
  by_cases k1 : kd = 1
  · subst k1
    simp [l_ref20_Reader_Row_0, hpos, hlk, h1, h8, w1, fill, hc2, hc3, Val.toV, hlt]
  by_cases k3 : kd = 3
  · subst k3
    simp [l_ref20_Reader_Row_0, hpos, hlk, h1, h81, w1, fill, hc2, hc3, Val.toV, hlt]
  by_cases k2 : kd = 2
  · subst k2
    simp [l_ref20_Reader_Row_0, hpos, hlk, h1, ht, w1, fill, hc2, hc3, Val.toV, hlt]
  simp [l_ref20_Reader_Row_0, hpos, hlk, h1, w1, fill, hc2, hc3, Val.toV, k1, k2, k3, ibeq k1, ibeq k2, ibeq k3, hlt]

theorem qVs_len (B : List UInt8) : ∀ (k : Nat) (s : QS), (qVs B k s).1.length ≤ k
  | 0, s => by simp [qVs]
  | k + 1, s => by
    unfold qVs
    split
    · simp
    · have := qVs_len B k (qV B s).2
      simp only [List.length_cons]; omega

theorem run_qRow (m : Mem) (r : Nat) (nl : Bool) (B : List UInt8) (hB : B.length < 1000000) (s : QS) (hs : s.1 ≤ B.length) (h : look m r = some (qO nl B s)) :
    callL MM F.ref20_Reader_Row [.ptr r 0] m = some (.ret [(RowR.of (qRow B s).1).toV] (upd m r (qO nl B (qRow B s).2))) := by
  rw [call_ref20_Reader_Row _ _ rfl]
  have hlt := look_lt h
  have hlt1 : r < m.length + 1 := by omega
  have h1 : callL MM F.ref20_Reader_Number [.ptr r 0, .int .i64 1] (.buf 3 true [] :: m) = some (.ret [.int .i64 (qN B 1 s).1] (.buf 3 true [] :: upd m r (qO nl B (qN B 1 s).2))) := by
    have := qnum_pre [.buf 3 true []] m r nl B hB s hs hlt 1 (by omega)
    rwa [upd_self h] at this
  obtain ⟨h0, h2⟩ := qN_one B s
  have hle := qN_le B 1 s hs
  simp only [qRow]
  generalize hk : qN B 1 s = K at h1 h0 h2 hle
  obtain ⟨cnt, s1⟩ := K
  simp only at h1 h0 h2 hle ⊢
  obtain ⟨n, rfl⟩ : ∃ n : Nat, cnt = n := ⟨cnt.toNat, by omega⟩
  have loop : ∀ (k : Nat) (vs : List Val) (s : QS) (vars : List V) (m' : Mem), vs.length + k ≤ 256 → k < 256 → s.1 ≤ B.length →
      fresh m.length (m.length + 1) [1, 4, 5, 6, 7, 8, 9] vars m' = some ([.ptr r 0, .undef, .gs m.length vs.length, .int .i64 k, .undef, .undef, .undef, .undef, .undef, .undef], .buf 3 true (vs.map Val.toV) :: upd m r (qO nl B s)) →
      ∃ z, loopL (callL MM) m.length (m.length + 1) [1, 4, 5, 6, 7, 8, 9] l_ref20_Reader_Row_0 vars m' =
        some (.exit 0 [.ptr r 0, .undef, .gs m.length (vs ++ (qVs B k s).1).length, .int .i64 z, .undef, .bool false, .undef, .undef, .undef, .undef] (.buf 3 true ((vs ++ (qVs B k s).1).map Val.toV) :: upd m r (qO nl B (qVs B k s).2))) := by
    intro k
    induction k with
    | zero =>
      intro vs s vars m' hv hk hs hf
      exact ⟨0, loop_end hf (by simp [l_ref20_Reader_Row_0, qVs]) rfl⟩
    | succ k ih =>
      intro vs s vars m' hv hk hs hf
      obtain ⟨at0, bad⟩ := s
      cases bad with
      | true =>
        refine ⟨((k + 1 : Nat) : Int), loop_end hf ?_ rfl⟩
        have hlk : look (.buf 3 true (vs.map Val.toV) :: upd m r (qO nl B (at0, true))) r = some (.cells [.sl nl 1 (bytesV B), .int .i64 at0, .bool true]) := by
          rw [look_cons_old (by simpa using hlt), look_upd hlt]; rfl
        have hpos : (0 : Int) < (k : Int) + 1 := by omega
        simp [l_ref20_Reader_Row_0, qVs, hlk, hpos]
      | false =>
        obtain ⟨v', m2, h3, h4⟩ := rnd_some (qrow_round m r nl B hB at0 hs hlt vs k (by omega) (by omega))
        obtain ⟨z, h5⟩ := ih (vs ++ [(qV B (at0, false)).1]) (qV B (at0, false)).2 v' m2 (by simp; omega) (by omega) (qV_le B _ hs) h4
        refine ⟨z, ?_⟩
        rw [loop_next hf h3, h5]
        simp [qVs, List.append_assoc]
  obtain ⟨z, hq⟩ := loop n [] s1 [.ptr r 0, .sl true 0 [], .gs m.length 0, .int .i64 n, .undef, .undef, .undef, .undef, .undef, .undef] (.buf 3 true [] :: upd m r (qO nl B s1)) (by simp; omega) (by omega) hle (by simp [hlt1])
  simp only [List.nil_append] at hq
  have hn : (n : Int).toNat = n := by omega
  rw [hn, ← rowV_of]
  generalize qVs B n s1 = W at *
  obtain ⟨W1, W2⟩ := W
  simp [vf_ref20_Reader_Row, h1, hq, hlt1]
  rw [List.take_of_length_le (by simp)]
  cases W1 <;> simp

theorem qF_le (B : List UInt8) (x : Rec) (f : Int) (s : QS) (h : s.1 ≤ B.length) : (qF B x f s).2.1 ≤ B.length := by
  have h1 := qN_le B 8 s h
  have h2 := qT_le B s h
  have h3 : (qRow B s).2.1 ≤ B.length := by unfold qRow; exact qVs_le B _ _ (qN_le B 1 s h)
  unfold qF
  repeat' split
  all_goals first
    | exact h1
    | exact h2
    | exact h3

theorem qrec_round (m : Mem) (r : Nat) (nl : Bool) (B : List UInt8) (hB : B.length < 1000000) (s : QS) (hs : s.1 ≤ B.length) (h : r < m.length) (x : Rec) (ls : List UInt8) (i : Nat) (c : UInt8) (hc : ls[i]? = some c) (hi : i < ls.length) (hl : ls.length < 1000) :
    rnd (callL MM) m.length (m.length + 1 + 1) [4, 7, 8, 9, 10, 11, 12, 13, 14, 15] l_ref20_Reader_Rec_0 [.ptr r 0, .ptr m.length 0, .ptr (m.length + 1) 0, .str ls, .undef, .int .i64 ls.length, .int .i64 i, .undef, .undef, .undef, .undef, .undef, .undef, .undef, .undef, .undef] (.cells x.cells :: .cells (Rec.cells { op := 0 }) :: upd m r (qO nl B s)) =
      some ([.ptr r 0, .ptr m.length 0, .ptr (m.length + 1) 0, .str ls, .undef, .int .i64 ls.length, .int .i64 ((i + 1 : Nat) : Int), .undef, .undef, .undef, .undef, .undef, .undef, .undef, .undef, .undef], .cells (qF B x (letterF c) s).1.cells :: .cells (Rec.cells { op := 0 }) :: upd m r (qO nl B (qF B x (letterF c) s).2)) := by
  have hlt : r < m.length + 1 + 1 := by omega
  have hw := wrap_succ (show i < 4611686018427387904 by omega)
  have h8 : callL MM F.ref20_Reader_Number [.ptr r 0, .int .i64 8] (.cells x.cells :: .cells (Rec.cells { op := 0 }) :: upd m r (qO nl B s)) = _ := qnum_pre [_, _] m r nl B hB s hs h 8 (by omega)
  have ht : callL MM F.ref20_Reader_String [.ptr r 0] (.cells x.cells :: .cells (Rec.cells { op := 0 }) :: upd m r (qO nl B s)) = _ := qstr_pre [_, _] m r nl B hB s hs h
  have hr : callL MM F.ref20_Reader_Row [.ptr r 0] (.cells x.cells :: .cells (Rec.cells { op := 0 }) :: upd m r (qO nl B s)) = some (.ret [(RowR.of (qRow B s).1).toV] (.cells x.cells :: .cells (Rec.cells { op := 0 }) :: upd m r (qO nl B (qRow B s).2))) := by
    have h1 := run_qRow ([.cells x.cells, .cells (Rec.cells { op := 0 })] ++ upd m r (qO nl B s)) r nl B hB s hs (by rw [look_app_old (by simpa using h)]; exact look_upd h)
    rw [upd_app_old (by simpa using h), upd_upd] at h1
    exact h1
  have b84 : ((c.toNat : Int) == 84) = decide (c = 84) := u8_beq c 84 (by omega)
  have b79 : ((c.toNat : Int) == 79) = decide (c = 79) := u8_beq c 79 (by omega)
  have b78 : ((c.toNat : Int) == 78) = decide (c = 78) := u8_beq c 78 (by omega)
  have b73 : ((c.toNat : Int) == 73) = decide (c = 73) := u8_beq c 73 (by omega)
  have b82 : ((c.toNat : Int) == 82) = decide (c = 82) := u8_beq c 82 (by omega)
  have b66 : ((c.toNat : Int) == 66) = decide (c = 66) := u8_beq c 66 (by omega)
  have b77 : ((c.toNat : Int) == 77) = decide (c = 77) := u8_beq c 77 (by omega)
  have b67 : ((c.toNat : Int) == 67) = decide (c = 67) := u8_beq c 67 (by omega)
  simp only [Rec.cells, rowV_nil] at *
  have hi' := int_lt hi
  by_cases c84 : c = 84
  · subst c84; simp [l_ref20_Reader_Rec_0, hi', hc, hw, h8, qF, letterF, hlt]
  by_cases c79 : c = 79
  · subst c79; simp [l_ref20_Reader_Rec_0, hi', hc, hw, ht, qF, letterF, hlt]
  by_cases c78 : c = 78
  · subst c78; simp [l_ref20_Reader_Rec_0, hi', hc, hw, ht, qF, letterF, hlt]
  by_cases c73 : c = 73
  · subst c73; simp [l_ref20_Reader_Rec_0, hi', hc, hw, h8, qF, letterF, hlt]
  by_cases c82 : c = 82
  · subst c82; simp [l_ref20_Reader_Rec_0, hi', hc, hw, hr, qF, letterF, hlt]
  by_cases c66 : c = 66
  · subst c66; simp [l_ref20_Reader_Rec_0, hi', hc, hw, h8, qF, letterF, hlt]
  by_cases c77 : c = 77
  · subst c77; simp [l_ref20_Reader_Rec_0, hi', hc, hw, h8, qF, letterF, hlt]
  by_cases c67 : c = 67
  · subst c67; simp [l_ref20_Reader_Rec_0, hi', hc, hw, h8, qF, letterF, hlt]
  simp [l_ref20_Reader_Rec_0, hi', hc, hw, ht, qF, letterF, b84, b79, b78, b73, b82, b66, b77, b67, c84, c79, c78, c73, c82, c66, c77, c67, hlt]

/-- The record that could be meant. -/
def qRec (B : List UInt8) (s : QS) : Rec × QS :=
  let k := qN B 1 s
  qFs B ((fieldsOf k.1).getD []) { op := k.1 } k.2
theorem run_qRec (m : Mem) (r : Nat) (nl : Bool) (B : List UInt8) (hB : B.length < 1000000) (s : QS) (hs : s.1 ≤ B.length) (h : look m r = some (qO nl B s)) :
    callL MM F.ref20_Reader_Rec [.ptr r 0] m = some (.ret [(qRec B s).1.toV] (upd m r (qO nl B (qRec B s).2))) := by
  rw [call_ref20_Reader_Rec _ _ rfl]
  have hlt := look_lt h
  have hlt1 : r < m.length + 1 := by omega
  have hlt2 : r < m.length + 1 + 1 := by omega
  have h1 : callL MM F.ref20_Reader_Number [.ptr r 0, .int .i64 1] (.cells (Rec.cells { op := 0 }) :: m) = some (.ret [.int .i64 (qN B 1 s).1] (.cells (Rec.cells { op := 0 }) :: upd m r (qO nl B (qN B 1 s).2))) := by
    have := qnum_pre [.cells (Rec.cells { op := 0 })] m r nl B hB s hs hlt 1 (by omega)
    rwa [upd_self h] at this
  have hle := qN_le B 1 s hs
  unfold qRec
  generalize qN B 1 s = K at *
  obtain ⟨op, s1⟩ := K
  simp only at h1 hle ⊢
  have hF := fun m => run_ref20_Fields op m
  have hshort := letters_short op
  have hfl : (fieldsOf op).getD [] = ((lettersOf op).getD []).map letterF := by
    rw [← letters_fields]
    cases lettersOf op <;> rfl
  rw [hfl]
  generalize (lettersOf op).getD [] = ls at *
  generalize (lettersOf op).isSome = ok at *
  have hq := loop_each (cf := callL MM) (b := m.length) (L := m.length + 1 + 1) (kill := [4, 7, 8, 9, 10, 11, 12, 13, 14, 15]) (c := l_ref20_Reader_Rec_0) ls
    (fun i (_ : Rec × QS) => [.ptr r 0, .ptr m.length 0, .ptr (m.length + 1) 0, .str ls, .undef, .int .i64 ls.length, .int .i64 i, .undef, .undef, .undef, .undef, .undef, .undef, .undef, .undef, .undef])
    (fun _ p => .cells p.1.cells :: .cells (Rec.cells { op := 0 }) :: upd m r (qO nl B p.2)) (fun _ p => p.2.1 ≤ B.length)
    (fun rest i p => .exit 0 [.ptr r 0, .ptr m.length 0, .ptr (m.length + 1) 0, .str ls, .undef, .int .i64 ls.length, .int .i64 ls.length, .bool false, .undef, .undef, .undef, .undef, .undef, .undef, .undef, .undef] (.cells (qFs B (rest.map letterF) p.1 p.2).1.cells :: .cells (Rec.cells { op := 0 }) :: upd m r (qO nl B (qFs B (rest.map letterF) p.1 p.2).2)))
    (fun p _ => ⟨by simp [l_ref20_Reader_Rec_0, qFs], rfl⟩)
    (fun i c rest p hc hd hi hI => .inr ⟨qF B p.1 (letterF c) p.2, qrec_round m r nl B hB p.2 hI hlt p.1 ls i c hc hi hshort, qF_le B _ _ _ hI, by simp [qFs]⟩)
    ({ op := op }, s1) [.ptr r 0, .ptr m.length 0, .ptr (m.length + 1) 0, .str ls, .undef, .int .i64 ls.length, .int .i64 0, .undef, .undef, .undef, .undef, .undef, .undef, .undef, .undef, .undef] (.cells (Rec.cells { op := op }) :: .cells (Rec.cells { op := 0 }) :: upd m r (qO nl B s1)) hle (by simp [hlt2, Rec.cells])
  generalize qFs B (ls.map letterF) { op := op } s1 = W at *
  obtain ⟨y, s2⟩ := W
  simp only [Rec.cells, Rec.toV, rowV_nil] at *
  simp [vf_ref20_Reader_Rec, h1, hF, hq, fill, hlt1]
end Go.Vm.Redo
-- RD0: Walks: decoding.
set_option maxRecDepth 100000
namespace Go.Vm.Redo
open Go Go.Vm

/-- The reference's way of it. -/
def qDecode (b : List UInt8) : Rec × Int × Int :=
  match b with
  | b0 :: b1 :: _ =>
    let n := 256 * b0.toNat + b1.toNat + 2
    if b.length < n then ({ op := 0 }, 0, 31) else
    let x := (qRec (b.take n) (2, false)).1
    if !validR x || decide (encB x ≠ b.take n) then ({ op := 0 }, 0, 30) else (x, n, 0)
  | _ => ({ op := 0 }, 0, 31)

theorem rdT_fit (s : RS) : (rdT s).1.length < 65536 := by
  obtain ⟨h1, h2⟩ := rdN_two s
  unfold rdT
  simp only
  split
  · simp
  · simp only [List.length_take]; omega
theorem qT_fit (B : List UInt8) (s : QS) : (qT B s).1.length < 65536 := by
  obtain ⟨h1, h2⟩ := qN_two B s
  unfold qT
  simp only
  split
  · simp
  · simp only [List.length_take]; omega
theorem rdVs_fit : ∀ (k : Nat) (s : RS), (rdVs k s).1.length = k ∧ ∀ v ∈ (rdVs k s).1, v.t.length < 65536
  | 0, s => ⟨rfl, fun v h => by cases h⟩
  | k + 1, s => by
    obtain ⟨h1, h2⟩ := rdVs_fit k (rdV s).2
    refine ⟨by simp [rdVs, h1], fun v hv => ?_⟩
    rcases List.mem_cons.1 hv with rfl | hv
    · unfold rdV
      simp only
      split
      · simp
      · split
        · simp
        · split
          · exact rdT_fit _
          · simp
    · exact h2 v hv
theorem qVs_fit (B : List UInt8) : ∀ (k : Nat) (s : QS), ∀ v ∈ (qVs B k s).1, v.t.length < 65536
  | 0, s => fun v h => by cases h
  | k + 1, s => by
    unfold qVs
    split
    · intro v h; cases h
    · intro v hv
      rcases List.mem_cons.1 hv with rfl | hv
      · unfold qV
        simp only
        split
        · simp
        · split
          · simp
          · split
            · exact qT_fit B _
            · simp
      · exact qVs_fit B k _ v hv
theorem vals_of (l : List Val) : (RowR.of l).vals = l := by cases l <;> rfl
theorem rdF_fit (x : Rec) (hx : x.Fit) (f : Int) (s : RS) : (rdF x f s).1.Fit := by
  have h1 := rdT_fit s
  have h2 := rdN_one s
  have h3 := rdVs_fit (rdN 1 s).1.toNat (rdN 1 s).2
  unfold rdF
  repeat' split
  all_goals first
    | exact ⟨hx.owner, hx.name, hx.text, hx.row, hx.vals⟩
    | exact ⟨by simp only; omega, hx.name, hx.text, hx.row, hx.vals⟩
    | exact ⟨hx.owner, by simp only; omega, hx.text, hx.row, hx.vals⟩
    | exact ⟨hx.owner, hx.name, by simp only; omega, hx.row, hx.vals⟩
    | exact ⟨hx.owner, hx.name, hx.text, by simp only [vals_of, rdRow]; omega, fun v hv => by simp only [vals_of, rdRow] at hv; have := h3.2 v hv; omega⟩
theorem qF_fit (B : List UInt8) (x : Rec) (hx : x.Fit) (f : Int) (s : QS) : (qF B x f s).1.Fit := by
  have h1 := qT_fit B s
  have h2 := qN_one B s
  have h4 := qVs_len B (qN B 1 s).1.toNat (qN B 1 s).2
  have h3 := qVs_fit B (qN B 1 s).1.toNat (qN B 1 s).2
  unfold qF
  repeat' split
  all_goals first
    | exact ⟨hx.owner, hx.name, hx.text, hx.row, hx.vals⟩
    | exact ⟨by simp only; omega, hx.name, hx.text, hx.row, hx.vals⟩
    | exact ⟨hx.owner, by simp only; omega, hx.text, hx.row, hx.vals⟩
    | exact ⟨hx.owner, hx.name, by simp only; omega, hx.row, hx.vals⟩
    | exact ⟨hx.owner, hx.name, hx.text, by simp only [vals_of, qRow]; omega, fun v hv => by simp only [vals_of, qRow] at hv; have := h3 v hv; omega⟩
theorem fit_op (op : Int) : (Rec.Fit { op := op }) := ⟨by simp, by simp, by simp, by simp [RowR.vals], by simp [RowR.vals]⟩
theorem rdFs_fit : ∀ (l : List Int) (x : Rec) (s : RS), x.Fit → (rdFs l x s).1.Fit
  | [], x, s, h => h
  | f :: l, x, s, h => rdFs_fit l _ _ (rdF_fit x h f s)
theorem qFs_fit (B : List UInt8) : ∀ (l : List Int) (x : Rec) (s : QS), x.Fit → (qFs B l x s).1.Fit
  | [], x, s, h => h
  | f :: l, x, s, h => qFs_fit B l _ _ (qF_fit B x h f s)
theorem qRec_fit (B : List UInt8) (s : QS) : (qRec B s).1.Fit := qFs_fit B _ _ _ (fit_op _)

/-- justiciarref20.Decode. -/
theorem run_ref20_Decode (nl : Bool) (b : List UInt8) (hb : b.length < 1000000) (m : Mem) :
    callL MM F.ref20_Decode [.sl nl 1 (bytesV b)] m = some (.ret [(qDecode b).1.toV, .int .i64 (qDecode b).2.1, .int .i64 (qDecode b).2.2] m) := by
  rw [call_ref20_Decode _ _ rfl]
  match b with
  | [] => simp [-getElem?_pos, -List.getD_eq_getElem?_getD, List.getElem?_cons_zero, List.getElem?_cons_succ, vf_ref20_Decode, qDecode, bytesV_len, Rec.toV, Rec.cells, fill]
  | [b0] => simp [-getElem?_pos, -List.getD_eq_getElem?_getD, List.getElem?_cons_zero, List.getElem?_cons_succ, vf_ref20_Decode, qDecode, bytesV_len, Rec.toV, Rec.cells, fill]
  | b0 :: b1 :: t =>
    have h2 : ¬ ((t.length : Int) + 1 + 1 < 2) := by omega
    have hb0 := b0.toNat_lt
    have hb1 := b1.toNat_lt
    have g0 : (bytesV (b0 :: b1 :: t))[0]? = some (.int .u8 b0.toNat) := rfl
    have g1 : (bytesV (b0 :: b1 :: t))[1]? = some (.int .u8 b1.toNat) := rfl
    have w0 : IntKind.i64.wrap (b0.toNat : Int) = b0.toNat := wrap64_id (by omega) (by omega)
    have w1 : IntKind.i64.wrap (b1.toNat : Int) = b1.toNat := wrap64_id (by omega) (by omega)
    have w2 : IntKind.i64.wrap (256 * (b0.toNat : Int)) = 256 * b0.toNat := wrap64_id (by omega) (by omega)
    have w3 : IntKind.i64.wrap (2 + 256 * (b0.toNat : Int)) = 2 + 256 * b0.toNat := wrap64_id (by omega) (by omega)
    have w4 : IntKind.i64.wrap (2 + 256 * (b0.toNat : Int) + b1.toNat) = ((256 * b0.toNat + b1.toNat + 2 : Nat) : Int) := by rw [wrap64_id (by omega) (by omega)]; omega
    simp only [qDecode]
    generalize hn : 256 * b0.toNat + b1.toNat + 2 = n at *
    have hlen : (b0 :: b1 :: t).length = t.length + 1 + 1 := rfl
    by_cases hl : t.length + 1 + 1 < n
    · have hl' : (t.length : Int) + 1 + 1 < (n : Int) := by omega
      simp [-getElem?_pos, -List.getD_eq_getElem?_getD, List.getElem?_cons_zero, List.getElem?_cons_succ, vf_ref20_Decode, bytesV_len, h2, g0, g1, w0, w1, w2, w3, w4, hl', hl, Rec.toV, Rec.cells, fill]
    · have hl' : ¬ (t.length : Int) + 1 + 1 < (n : Int) := by omega
      have hl1 : (n : Int) ≤ (t.length : Int) + 1 + 1 := by omega
      have htl : ((b0 :: b1 :: t).take n).length = n := by rw [List.length_take, hlen]; omega
      have hq := run_qRec (.cells [.sl nl 1 (bytesV ((b0 :: b1 :: t).take n)), .int .i64 2, .bool false] :: .cells (Rec.cells { op := 0 }) :: m) (m.length + 1) nl ((b0 :: b1 :: t).take n) (by rw [htl]; omega) (2, false) (by rw [htl]; simp only; omega) (look_new (by simp))
      have hfit := qRec_fit ((b0 :: b1 :: t).take n) (2, false)
      have etk : (bytesV (b0 :: b1 :: t)).take n = bytesV ((b0 :: b1 :: t).take n) := bytesV_take _ _
      have hls : (b0 :: b1 :: t).take n = (b0 :: b1 :: t).take n := rfl
      generalize (b0 :: b1 :: t).take n = C at *
      generalize b0 :: b1 :: t = b at *
      rw [upd_new (by simp)] at hq
      generalize qRec C (2, false) = Q at *
      obtain ⟨x, s⟩ := Q
      simp only at hq hfit ⊢
      have hv := fun m => run_ref20_Valid x hfit m
      cases hvx : validR x with
      | false =>
        simp only [hvx] at hv
        simp only [Rec.cells, Rec.toV, rowV_nil] at *
        simp [-getElem?_pos, -List.getD_eq_getElem?_getD, List.getElem?_cons_zero, List.getElem?_cons_succ, vf_ref20_Decode, bytesV_len, hlen, h2, g0, g1, w0, w1, w2, w3, w4, hl', hl, hl1, fill, etk, hq, hv]
      | true =>
        have hB := fun m => run_ref20_Bytes x (valid_weight x hvx) m
        simp only [hvx] at hv
        generalize encB x = E at *
        have hst : (E == C) = decide (E = C) := bytes_beq E C
        simp only [Rec.cells, Rec.toV, rowV_nil] at *
        by_cases hE : E = C
        · simp [-getElem?_pos, -List.getD_eq_getElem?_getD, List.getElem?_cons_zero, List.getElem?_cons_succ, vf_ref20_Decode, bytesV_len, hlen, h2, g0, g1, w0, w1, w2, w3, w4, hl', hl, hl1, fill, etk, hq, hv, hB, strOf_bytes, binStr, hst, hE]
        · simp [-getElem?_pos, -List.getD_eq_getElem?_getD, List.getElem?_cons_zero, List.getElem?_cons_succ, vf_ref20_Decode, bytesV_len, hlen, h2, g0, g1, w0, w1, w2, w3, w4, hl', hl, hl1, fill, etk, hq, hv, hB, strOf_bytes, binStr, hst, hE]
end Go.Vm.Redo
-- RD1: Walks: decoding, the program's.
set_option maxRecDepth 100000
namespace Go.Vm.Redo
open Go Go.Vm

/-- redo.Sum. -/
theorem run_redo_Sum (nl : Bool) (cs : List UInt8) (hlen : cs.length < 100000000) (m : Mem) : callL MM F.redo_Sum [.sl nl 1 (bytesV cs)] m = some (.ret [.int .i64 (sumB cs)] m) := by
  rw [call_redo_Sum _ _ rfl]
  have hq := loop_each (cf := callL MM) (b := m.length) (L := m.length) (kill := [0, 1, 3, 4, 8]) (c := l_redo_Sum_0) cs
    (fun i (s : Nat) => [.undef, .undef, .int .u32 s, .undef, .undef, .sl nl 1 (bytesV cs), .int .i64 cs.length, .int .i64 i, .undef]) (fun _ _ => m) (fun _ s => s < 4294967296)
    (fun rest i s => .exit 0 [.undef, .undef, .int .u32 (sumFrom rest i s), .undef, .undef, .sl nl 1 (bytesV cs), .int .i64 cs.length, .int .i64 cs.length, .bool false] m)
    (fun s _ => ⟨by simp [l_redo_Sum_0, sumFrom], rfl⟩)
    (fun i c rest s hc hd hi hs => .inr ⟨(s + (i + 1) * c.toNat) % 4294967296, by
      have hc2 : c.toNat < 256 := c.toNat_lt
      have hw := wrap_succ (show i < 4611686018427387904 by omega)
      have hb : (bytesV cs)[i]? = some (.int .u8 c.toNat) := by simp [bytesV, hc]
      have hu : ∀ z : Int, IntKind.u32.wrap z = z % 4294967296 := fun z => by simp [IntKind.wrap, IntKind.bits, IntKind.signed]
      have w1 : IntKind.u32.wrap ((s : Int) + IntKind.u32.wrap (IntKind.u32.wrap ((i : Int) + 1) * IntKind.u32.wrap (c.toNat : Int))) = (((s + (i + 1) * c.toNat) % 4294967296 : Nat) : Int) := by
        rw [hu, hu, hu, hu]
        have e1 : ((i : Int) + 1) % 4294967296 = (i : Int) + 1 := by omega
        have e2 : (c.toNat : Int) % 4294967296 = c.toNat := by omega
        rw [e1, e2]
        have e3 : ((i : Int) + 1) * (c.toNat : Int) = (((i + 1) * c.toNat : Nat) : Int) := by simp
        rw [e3]
        omega
      rw [← w1]
      simp [l_redo_Sum_0, int_lt hi, hb, hw], Nat.mod_lt _ (by omega), rfl⟩)
    0 [.sl nl 1 (bytesV cs), .int .i64 0, .int .u32 0, .undef, .undef, .sl nl 1 (bytesV cs), .int .i64 cs.length, .int .i64 0, .undef] m (by omega) (by simp)
  have hs : sumB cs < 4294967296 := sum_lt cs 0 0 (by omega)
  have hw : IntKind.i64.wrap (sumB cs : Int) = sumB cs := wrap64_id (by omega) (by omega)
  have e : sumFrom cs 0 0 = sumB cs := rfl
  rw [e] at hq
  simp [vf_redo_Sum, bytesV_len, hq, hw]

theorem decode_round (m : Mem) (nl : Bool) (s : RS) (x : Rec) (b : List UInt8) (nl0 nl' : Bool) (sz' : Nat) (l : List Int) (n : Int) (hz : sz' = 1 ∨ l = []) (i : Nat) (f : Int) (hf : l[i]? = some f) (hi : i < l.length) (hl : l.length < 1000) :
    rnd (callL MM) m.length (m.length + 1 + 1 + 1) [2, 3, 7, 8, 9, 10, 11, 15, 16] l_redo_Decode_0
      [.sl nl0 1 (bytesV b), .ptr m.length 0, .undef, .undef, .int .i64 n, .ptr (m.length + 1) 0, .ptr (m.length + 1 + 1) 0, .undef, .undef, .undef, .undef, .undef, .sl nl' sz' (l.map (.int .i64)), .int .i64 l.length, .int .i64 i, .undef, .undef] (rO nl s :: .cells x.cells :: .cells (Rec.cells { op := 0 }) :: m) =
      some ([.sl nl0 1 (bytesV b), .ptr m.length 0, .undef, .undef, .int .i64 n, .ptr (m.length + 1) 0, .ptr (m.length + 1 + 1) 0, .undef, .undef, .undef, .undef, .undef, .sl nl' sz' (l.map (.int .i64)), .int .i64 l.length, .int .i64 ((i + 1 : Nat) : Int), .undef, .undef], rO nl (rdF x f s).2 :: .cells (rdF x f s).1.cells :: .cells (Rec.cells { op := 0 }) :: m) := by
  have hs : sz' = 1 := by
    rcases hz with h | h
    · exact h
    · rw [h] at hf; simp at hf
  subst hs
  have hw := wrap_succ (show i < 4611686018427387904 by omega)
  have h := field_pre (rO nl s :: .cells x.cells :: .cells (Rec.cells { op := 0 }) :: m) (m.length + 1 + 1) (m.length + 1) nl s x f (look_new (by simp)) (by simp) (by omega)
  rw [upd_new (by simp)] at h
  have e : upd (rO nl (rdF x f s).2 :: .cells x.cells :: .cells (Rec.cells { op := 0 }) :: m) (m.length + 1) (.cells (rdF x f s).1.cells) = rO nl (rdF x f s).2 :: .cells (rdF x f s).1.cells :: .cells (Rec.cells { op := 0 }) :: m := by simp
  rw [e] at h
  have ho : ∀ s : RS, O.under (m.length + 1 + 1 + 1) (rO nl s) = true := fun s => rfl
  generalize rdF x f s = W at *
  obtain ⟨y, s2⟩ := W
  have ho1 : O.under (m.length + 1 + 1 + 1) (.cells y.cells) = true := by simp [Rec.cells]
  have ho2 : O.under (m.length + 1 + 1 + 1) (.cells (Rec.cells { op := 0 })) = true := by simp [Rec.cells]
  simp only [rO] at h
  simp only [O.under] at ho1 ho2
  simp [l_redo_Decode_0, int_lt hi, hf, h, hw, rO, ho1, ho2]

theorem fieldsV_shape (op : Int) : ∃ nl sz, fieldsV op = .sl nl sz (((fieldsOf op).getD []).map (.int .i64)) ∧ (sz = 1 ∨ (fieldsOf op).getD [] = []) := by
  unfold fieldsV
  cases fieldsOf op with
  | none => exact ⟨true, 0, rfl, .inr rfl⟩
  | some l => exact ⟨false, 1, rfl, .inl rfl⟩
theorem fields_getD_short (op : Int) : ((fieldsOf op).getD []).length < 1000 := by
  cases h : fieldsOf op with
  | none => simp
  | some l => exact fields_short op l h

/-- redo.Decode. -/
theorem run_redo_Decode (nl : Bool) (b : List UInt8) (hb : b.length < 4000000) (m : Mem) :
    callL MM F.redo_Decode [.sl nl 1 (bytesV b)] m = some (.ret [(decode b).1.toV, .int .i64 (decode b).2.1, .int .i64 (decode b).2.2] m) := by
  rw [call_redo_Decode _ _ rfl]
  match b with
  | [] => simp [vf_redo_Decode, decode, bytesV_len, Rec.toV, Rec.cells, fill]
  | [b0] => simp [vf_redo_Decode, decode, bytesV_len, Rec.toV, Rec.cells, fill]
  | b0 :: b1 :: t =>
    have h2 : ¬ ((t.length : Int) + 1 + 1 < 2) := by omega
    have hb0 := b0.toNat_lt
    have hb1 := b1.toNat_lt
    have g0 : (bytesV (b0 :: b1 :: t))[0]? = some (.int .u8 b0.toNat) := rfl
    have g1 : (bytesV (b0 :: b1 :: t))[1]? = some (.int .u8 b1.toNat) := rfl
    have w0 : IntKind.i64.wrap (b0.toNat : Int) = b0.toNat := wrap64_id (by omega) (by omega)
    have w1 : IntKind.i64.wrap (b1.toNat : Int) = b1.toNat := wrap64_id (by omega) (by omega)
    have w2 : IntKind.i64.wrap ((b0.toNat : Int) * 256) = 256 * b0.toNat := by rw [wrap64_id (by omega) (by omega)]; omega
    have w2' : Nat.min 8 IntKind.i64.bits = 8 := rfl
    have w3 : IntKind.i64.wrap (256 * (b0.toNat : Int) + b1.toNat) = 256 * b0.toNat + b1.toNat := wrap64_id (by omega) (by omega)
    have w4 : IntKind.i64.wrap (256 * (b0.toNat : Int) + b1.toNat + 2) = ((256 * b0.toNat + b1.toNat + 2 : Nat) : Int) := by rw [wrap64_id (by omega) (by omega)]; omega
    simp only [decode]
    generalize hn : 256 * b0.toNat + b1.toNat + 2 = n at *
    have hlen : (b0 :: b1 :: t).length = t.length + 1 + 1 := rfl
    by_cases hl : t.length + 1 + 1 < n
    · have hl' : (t.length : Int) + 1 + 1 < (n : Int) := by omega
      simp [-getElem?_pos, -List.getD_eq_getElem?_getD, List.getElem?_cons_zero, List.getElem?_cons_succ, vf_redo_Decode, bytesV_len, h2, g0, g1, w0, w1, w2, w2', w3, w4, hl', hl, Rec.toV, Rec.cells, fill]
    have hl' : ¬ (t.length : Int) + 1 + 1 < (n : Int) := by omega
    by_cases h7 : n < 7
    · have h7' : (n : Int) < 7 := by omega
      simp [-getElem?_pos, -List.getD_eq_getElem?_getD, List.getElem?_cons_zero, List.getElem?_cons_succ, vf_redo_Decode, bytesV_len, h2, g0, g1, w0, w1, w2, w2', w3, w4, hl', hl, h7, h7', Rec.toV, Rec.cells, fill]
    have h7' : ¬ (n : Int) < 7 := by omega
    obtain ⟨b2, t', rfl⟩ : ∃ b2 t', t = b2 :: t' := by
      cases t with
      | nil => simp at hl; omega
      | cons b2 t' => exact ⟨b2, t', rfl⟩
    have hb2 := b2.toNat_lt
    have hlt : (b2 :: t').length = t'.length + 1 := rfl
    rw [hlt] at h2 hl hl' hlen
    simp only [Int.natCast_add, Int.cast_ofNat_Int] at h2 hl'
    have g2 : (bytesV (b0 :: b1 :: b2 :: t'))[2]? = some (.int .u8 b2.toNat) := rfl
    have gd : (b0 :: b1 :: b2 :: t').getD 2 0 = b2 := rfl
    rw [gd]
    have wop : IntKind.i64.wrap (b2.toNat : Int) = b2.toNat := wrap64_id (by omega) (by omega)
    have wn4 : IntKind.i64.wrap ((n : Int) - 4) = ((n - 4 : Nat) : Int) := by rw [wrap64_id (by omega) (by omega)]; omega
    have tn4 : ((n - 4 : Nat) : Int).toNat = n - 4 := by omega
    have c1 : ((n - 4 : Nat) : Int) ≤ (t'.length : Int) + 1 + 1 + 1 := by omega
    have c2 : (0 : Int) ≤ ((n - 4 : Nat) : Int) := by omega
    have c3 : (3 : Int) ≤ ((n - 4 : Nat) : Int) := by omega
    have c4 : (n : Int) ≤ (t'.length : Int) + 1 + 1 + 1 := by omega
    have c5 : ((n - 4 : Nat) : Int) ≤ (n : Int) := by omega
    have e1 : (bytesV ((b0 :: b1 :: b2 :: t').take (n - 4))).drop 3 = bytesV (((b0 :: b1 :: b2 :: t').take (n - 4)).drop 3) := bytesV_drop _ _
    have e2 : ((bytesV (b0 :: b1 :: b2 :: t')).take n).drop (n - 4) = bytesV (((b0 :: b1 :: b2 :: t').take n).drop (n - 4)) := by rw [bytesV_take, bytesV_drop]
    have e3 : (bytesV (b0 :: b1 :: b2 :: t')).take (n - 4) = bytesV ((b0 :: b1 :: b2 :: t').take (n - 4)) := by rw [bytesV_take]
    have hlast : (((b0 :: b1 :: b2 :: t').take n).drop (n - 4)).length = 4 := by rw [List.length_drop, List.length_take, hlen]; omega
    have hpre : ((b0 :: b1 :: b2 :: t').take (n - 4)).length < 100000000 := by rw [List.length_take]; omega
    have hsum := fun m => run_redo_Sum nl _ hpre m
    have hF := fun m => run_redo_fields b2.toNat m
    obtain ⟨nl', sz', hfv, hz⟩ := fieldsV_shape b2.toNat
    rw [hfv] at hF
    have hshort := fields_getD_short b2.toNat
    generalize (fieldsOf b2.toNat).getD [] = l at *
    have hfit := rdFs_fit l { op := b2.toNat } (((b0 :: b1 :: b2 :: t').take (n - 4)).drop 3, false) (fit_op _)
    generalize hbody : ((b0 :: b1 :: b2 :: t').take (n - 4)).drop 3 = body at *
    generalize hL4 : ((b0 :: b1 :: b2 :: t').take n).drop (n - 4) = L4 at *
    generalize hP : (b0 :: b1 :: b2 :: t').take (n - 4) = P at *
    have hq := loop_each (cf := callL MM) (b := m.length) (L := m.length + 1 + 1 + 1) (kill := [2, 3, 7, 8, 9, 10, 11, 15, 16]) (c := l_redo_Decode_0) l
      (fun i (_ : Rec × RS) => [.sl nl 1 (bytesV (b0 :: b1 :: b2 :: t')), .ptr m.length 0, .undef, .undef, .int .i64 n, .ptr (m.length + 1) 0, .ptr (m.length + 1 + 1) 0, .undef, .undef, .undef, .undef, .undef, .sl nl' sz' (l.map (.int .i64)), .int .i64 l.length, .int .i64 i, .undef, .undef])
      (fun _ p => rO nl p.2 :: .cells p.1.cells :: .cells (Rec.cells { op := 0 }) :: m) (fun _ _ => True)
      (fun rest i p => .exit 0 [.sl nl 1 (bytesV (b0 :: b1 :: b2 :: t')), .ptr m.length 0, .undef, .undef, .int .i64 n, .ptr (m.length + 1) 0, .ptr (m.length + 1 + 1) 0, .undef, .undef, .undef, .undef, .undef, .sl nl' sz' (l.map (.int .i64)), .int .i64 l.length, .int .i64 l.length, .bool false, .undef] (rO nl (rdFs rest p.1 p.2).2 :: .cells (rdFs rest p.1 p.2).1.cells :: .cells (Rec.cells { op := 0 }) :: m))
      (fun p _ => ⟨by simp [l_redo_Decode_0, rdFs], rfl⟩)
      (fun i f rest p hf hd hi _ => .inr ⟨rdF p.1 f p.2, decode_round m nl p.2 p.1 _ nl nl' sz' l n hz i f hf hi hshort, trivial, rfl⟩)
      ({ op := b2.toNat }, (body, false)) [.sl nl 1 (bytesV (b0 :: b1 :: b2 :: t')), .ptr m.length 0, .int .i64 0, .int .i64 0, .int .i64 n, .ptr (m.length + 1) 0, .ptr (m.length + 1 + 1) 0, .undef, .undef, .bool false, .bool false, .bool false, .sl nl' sz' (l.map (.int .i64)), .int .i64 l.length, .int .i64 0, .undef, .undef]
      (rO nl (body, false) :: .cells (Rec.cells { op := b2.toNat }) :: .cells (Rec.cells { op := 0 }) :: m) trivial (by simp [Rec.cells, rO])
    generalize rdFs l { op := b2.toNat } (body, false) = W at *
    obtain ⟨x, left, bad⟩ := W
    simp only at hq hfit ⊢
    have hv := fun m => run_redo_Valid x hfit m
    have hnum := rnum (rO nl (L4, false) :: rO nl (left, bad) :: .cells x.cells :: .cells (Rec.cells { op := 0 }) :: m) (m.length + 1 + 1 + 1) nl (L4, false) (look_new (by simp)) 4 (by omega)
    rw [upd_new (by simp)] at hnum
    have hrd : rdN 4 (L4, false) = (rdNum L4 0, ([], false)) := by
      unfold rdN
      rw [if_pos (by simp only; omega)]
      simp only
      rw [List.take_of_length_le (by omega), List.drop_eq_nil_of_le (by omega)]
    rw [hrd] at hnum
    have hnum : callL MM F.redo_reader_number [.ptr (m.length + 1 + 1 + 1) 0, .int .i64 4] (rO nl (L4, false) :: rO nl (left, bad) :: .cells x.cells :: .cells (Rec.cells { op := 0 }) :: m) = _ := hnum
    have hbl : ((bytesV left).length : Int) = left.length := by rw [bytesV_len]
    simp only [Rec.cells, Rec.toV, rowV_nil, rO, bytesV_nil] at *
    have hlq := hq
    cases bad with
    | true =>
      simp [-getElem?_pos, -List.getD_eq_getElem?_getD, List.getElem?_cons_zero, List.getElem?_cons_succ, vf_redo_Decode, bytesV_len, h2, g0, g1, g2, w0, w1, w2, w2', w3, w4, hl', hl, h7, h7', fill, wop, wn4, tn4, c1, c2, c3, c4, c5, e1, e2, e3, hF, hq]
    | false =>
      cases left with
      | cons d left =>
        have hpos : (0 : Int) < (left.length : Int) + 1 := by omega
        simp [-getElem?_pos, -List.getD_eq_getElem?_getD, List.getElem?_cons_zero, List.getElem?_cons_succ, vf_redo_Decode, bytesV_len, h2, g0, g1, g2, w0, w1, w2, w2', w3, w4, hl', hl, h7, h7', fill, wop, wn4, tn4, c1, c2, c3, c4, c5, e1, e2, e3, hF, hq, hpos]
      | nil =>
        cases hvx : validR x with
        | false =>
          simp only [hvx] at hv
          simp [-getElem?_pos, -List.getD_eq_getElem?_getD, List.getElem?_cons_zero, List.getElem?_cons_succ, vf_redo_Decode, bytesV_len, h2, g0, g1, g2, w0, w1, w2, w2', w3, w4, hl', hl, h7, h7', fill, wop, wn4, tn4, c1, c2, c3, c4, c5, e1, e2, e3, hF, hq, hv]
        | true =>
          simp only [hvx] at hv
          simp only [bytesV_nil] at hq hnum
          by_cases hs : rdNum L4 0 = (sumB P : Int)
          · rw [hs] at hnum
            simp [-getElem?_pos, -List.getD_eq_getElem?_getD, List.getElem?_cons_zero, List.getElem?_cons_succ, vf_redo_Decode, bytesV_len, bytesV_nil, h2, g0, g1, g2, w0, w1, w2, w2', w3, w4, hl', hl, h7, h7', fill, wop, wn4, tn4, c1, c2, c3, c4, c5, e1, e2, e3, hF, hq, hv, hnum, hsum, hs]
          · simp [-getElem?_pos, -List.getD_eq_getElem?_getD, List.getElem?_cons_zero, List.getElem?_cons_succ, vf_redo_Decode, bytesV_len, bytesV_nil, h2, g0, g1, g2, w0, w1, w2, w2', w3, w4, hl', hl, h7, h7', fill, wop, wn4, tn4, c1, c2, c3, c4, c5, e1, e2, e3, hF, hq, hv, hnum, hsum, hs, ibne hs]
end Go.Vm.Redo
-- RL1: Laws of the log's bytes in plain Lean: numbers.
namespace Go.Vm.Redo
open Go Go.Vm

def plain (l : List UInt8) (n : Int) : Int := l.foldl (fun n c => n * 256 + c.toNat) n
theorem rdNum_plain : ∀ (l : List UInt8) (a b : Int), IntKind.i64.wrap a = IntKind.i64.wrap b → IntKind.i64.wrap (rdNum l a) = IntKind.i64.wrap (plain l b)
  | [], a, b, h => h
  | c :: l, a, b, h => by
    refine rdNum_plain l _ _ ?_
    show IntKind.i64.wrap (IntKind.i64.wrap (a * 256 + c.toNat)) = IntKind.i64.wrap (b * 256 + c.toNat)
    rw [IntKind.wrap_i64, IntKind.wrap_i64] at h
    rw [IntKind.wrap_i64, IntKind.wrap_i64, IntKind.wrap_i64]
    omega
theorem rdNum_eq (l : List UInt8) : rdNum l 0 = IntKind.i64.wrap (plain l 0) := by
  rw [← rdNum_plain l 0 0 rfl, rdNum_wrap l 0 (by rw [IntKind.wrap_i64]; rfl)]

/-- One byte of a number. -/
def byteAt (z : Int) (k : Int) : UInt8 := UInt8.ofNat (z / k % 256).toNat
theorem byteAt_nat (z k : Int) : ((byteAt z k).toNat : Int) = z / k % 256 := by
  unfold byteAt
  rw [UInt8.toNat_ofNat']
  omega
theorem byteAt_eq (z k : Int) (a : UInt8) (h : z / k % 256 = a.toNat) : byteAt z k = a := by
  apply UInt8.toNat_inj.1
  have := byteAt_nat z k
  omega
theorem fdiv_lit (z : Int) (k : Nat) (hk : 0 < k) : z.fdiv (k : Int) = z / (k : Int) := Int.fdiv_eq_ediv_of_nonneg z (by omega)

theorem beB_1 (z : Int) : beB z 1 = [byteAt z 1] := by
  simp only [beB, byteAt]
  rw [show ((2 : Int) ^ (Nat.min (8 * 0) 64)) = ((1 : Nat) : Int) from rfl, fdiv_lit z 1 (by omega)]; rfl
theorem beB_2 (z : Int) : beB z 2 = [byteAt z 256, byteAt z 1] := by
  rw [beB, beB_1]
  simp only [byteAt]
  rw [show ((2 : Int) ^ (Nat.min (8 * 1) 64)) = ((256 : Nat) : Int) from rfl, fdiv_lit z 256 (by omega)]; rfl
theorem beB_3 (z : Int) : beB z 3 = [byteAt z 65536, byteAt z 256, byteAt z 1] := by
  rw [beB, beB_2]
  simp only [byteAt]
  rw [show ((2 : Int) ^ (Nat.min (8 * 2) 64)) = ((65536 : Nat) : Int) from rfl, fdiv_lit z 65536 (by omega)]; rfl
theorem beB_4 (z : Int) : beB z 4 = [byteAt z 16777216, byteAt z 65536, byteAt z 256, byteAt z 1] := by
  rw [beB, beB_3]
  simp only [byteAt]
  rw [show ((2 : Int) ^ (Nat.min (8 * 3) 64)) = ((16777216 : Nat) : Int) from rfl, fdiv_lit z 16777216 (by omega)]; rfl
theorem beB_5 (z : Int) : beB z 5 = byteAt z 4294967296 :: beB z 4 := by
  rw [beB]
  simp only [byteAt]
  rw [show ((2 : Int) ^ (Nat.min (8 * 4) 64)) = ((4294967296 : Nat) : Int) from rfl, fdiv_lit z 4294967296 (by omega)]; rfl
theorem beB_6 (z : Int) : beB z 6 = byteAt z 1099511627776 :: beB z 5 := by
  rw [beB]
  simp only [byteAt]
  rw [show ((2 : Int) ^ (Nat.min (8 * 5) 64)) = ((1099511627776 : Nat) : Int) from rfl, fdiv_lit z 1099511627776 (by omega)]; rfl
theorem beB_7 (z : Int) : beB z 7 = byteAt z 281474976710656 :: beB z 6 := by
  rw [beB]
  simp only [byteAt]
  rw [show ((2 : Int) ^ (Nat.min (8 * 6) 64)) = ((281474976710656 : Nat) : Int) from rfl, fdiv_lit z 281474976710656 (by omega)]; rfl
theorem beB_8 (z : Int) : beB z 8 = [byteAt z 72057594037927936, byteAt z 281474976710656, byteAt z 1099511627776, byteAt z 4294967296, byteAt z 16777216, byteAt z 65536, byteAt z 256, byteAt z 1] := by
  rw [beB, beB_7, beB_6, beB_5, beB_4]
  simp only [byteAt]
  rw [show ((2 : Int) ^ (Nat.min (8 * 7) 64)) = ((72057594037927936 : Nat) : Int) from rfl, fdiv_lit z 72057594037927936 (by omega)]; rfl

/-! ### what is written is read -/
theorem num_beB1 (z : Int) (h0 : 0 ≤ z) (h1 : z < 256) : rdNum (beB z 1) 0 = z := by
  rw [beB_1, num_one, byteAt_nat]; omega
theorem num_beB2 (z : Int) (h0 : 0 ≤ z) (h1 : z < 65536) : rdNum (beB z 2) 0 = z := by
  rw [beB_2, num_two, byteAt_nat, byteAt_nat]; omega
theorem num_beB4 (z : Int) (h0 : 0 ≤ z) (h1 : z < 4294967296) : rdNum (beB z 4) 0 = z := by
  rw [beB_4, rdNum_eq]
  simp only [plain, List.foldl_cons, List.foldl_nil, byteAt_nat]
  rw [wrap64_id (by omega) (by omega)]
  omega
theorem num_beB8 (z : Int) (h0 : -9223372036854775808 ≤ z) (h1 : z ≤ 9223372036854775807) : rdNum (beB z 8) 0 = z := by
  rw [beB_8, rdNum_eq]
  simp only [plain, List.foldl_cons, List.foldl_nil, byteAt_nat]
  rw [IntKind.wrap_i64]
  omega

/-! ### what is read is written -/
theorem beB_num1 (a : UInt8) : beB (rdNum [a] 0) 1 = [a] := by
  have ha := a.toNat_lt
  rw [num_one, beB_1, byteAt_eq _ 1 a (by omega)]
theorem beB_num2 (a b : UInt8) : beB (rdNum [a, b] 0) 2 = [a, b] := by
  have ha := a.toNat_lt
  have hb := b.toNat_lt
  rw [num_two, beB_2, byteAt_eq _ 256 a (by omega), byteAt_eq _ 1 b (by omega)]
theorem beB_num4 (a b c d : UInt8) : beB (rdNum [a, b, c, d] 0) 4 = [a, b, c, d] := by
  have ha := a.toNat_lt
  have hb := b.toNat_lt
  have hc := c.toNat_lt
  have hd := d.toNat_lt
  rw [rdNum_eq]
  simp only [plain, List.foldl_cons, List.foldl_nil]
  rw [wrap64_id (by omega) (by omega), beB_4, byteAt_eq _ 16777216 a (by omega), byteAt_eq _ 65536 b (by omega), byteAt_eq _ 256 c (by omega), byteAt_eq _ 1 d (by omega)]
theorem beB_num8 (a b c d e f g h : UInt8) : beB (rdNum [a, b, c, d, e, f, g, h] 0) 8 = [a, b, c, d, e, f, g, h] := by
  have ha := a.toNat_lt
  have hb := b.toNat_lt
  have hc := c.toNat_lt
  have hd := d.toNat_lt
  have he := e.toNat_lt
  have hf := f.toNat_lt
  have hg := g.toNat_lt
  have hh := h.toNat_lt
  rw [rdNum_eq]
  simp only [plain, List.foldl_cons, List.foldl_nil]
  rw [IntKind.wrap_i64, beB_8, byteAt_eq _ 72057594037927936 a (by omega), byteAt_eq _ 281474976710656 b (by omega), byteAt_eq _ 1099511627776 c (by omega), byteAt_eq _ 4294967296 d (by omega), byteAt_eq _ 16777216 e (by omega), byteAt_eq _ 65536 f (by omega), byteAt_eq _ 256 g (by omega), byteAt_eq _ 1 h (by omega)]
end Go.Vm.Redo
-- RL2: Laws of the log's bytes in plain Lean: what is read is written, and the reference reads it too.
namespace Go.Vm.Redo
open Go Go.Vm

/-! ### once bad, bad for good -/
theorem rdN_bad {n : Nat} {s : RS} (h : (rdN n s).2.2 = false) : s.2 = false ∧ n ≤ s.1.length := by
  unfold rdN at h
  split at h
  · exact ⟨h, by assumption⟩
  · cases h
theorem rdT_bad {s : RS} (h : (rdT s).2.2 = false) : s.2 = false := by
  unfold rdT at h
  simp only at h
  split at h
  · cases h
  · exact (rdN_bad h).1
theorem rdV_bad {s : RS} (h : (rdV s).2.2 = false) : s.2 = false := by
  unfold rdV at h
  simp only at h
  split at h
  · exact (rdN_bad (rdN_bad h).1).1
  · split at h
    · exact (rdN_bad (rdN_bad h).1).1
    · split at h
      · exact (rdN_bad (rdT_bad h)).1
      · exact (rdN_bad h).1
theorem rdVs_bad : ∀ {k : Nat} {s : RS}, (rdVs k s).2.2 = false → s.2 = false
  | 0, _, h => h
  | k + 1, s, h => rdV_bad (rdVs_bad (k := k) h)
theorem rdRow_bad {s : RS} (h : (rdRow s).2.2 = false) : s.2 = false := (rdN_bad (rdVs_bad h)).1
theorem rdF_bad {x : Rec} {f : Int} {s : RS} (h : (rdF x f s).2.2 = false) : s.2 = false := by
  unfold rdF at h
  repeat' split at h
  all_goals first
    | exact (rdN_bad h).1
    | exact rdT_bad h
    | exact rdRow_bad h
    | exact h
theorem rdFs_bad : ∀ {l : List Int} {x : Rec} {s : RS}, (rdFs l x s).2.2 = false → s.2 = false
  | [], _, _, h => h
  | f :: l, x, s, h => rdF_bad (rdFs_bad (l := l) h)

/-! ### what is read is written -/
theorem rdN_w {n : Nat} (hn : n = 1 ∨ n = 2 ∨ n = 4 ∨ n = 8) {s : RS} (h : (rdN n s).2.2 = false) : s.1 = beB (rdN n s).1 n ++ (rdN n s).2.1 := by
  have hl := (rdN_bad h).2
  unfold rdN
  rw [if_pos hl]
  simp only
  have hb : beB (rdNum (s.1.take n) 0) n = s.1.take n := by
    have hlen : (s.1.take n).length = n := by rw [List.length_take]; omega
    generalize s.1.take n = l at *
    rcases hn with rfl | rfl | rfl | rfl
    · match l, hlen with
      | [a], _ => exact beB_num1 a
    · match l, hlen with
      | [a, b], _ => exact beB_num2 a b
    · match l, hlen with
      | [a, b, c, d], _ => exact beB_num4 a b c d
    · match l, hlen with
      | [a, b, c, d, e, f, g, i], _ => exact beB_num8 a b c d e f g i
  rw [hb, List.take_append_drop]
theorem rdT_w {s : RS} (h : (rdT s).2.2 = false) : s.1 = textB (rdT s).1 ++ (rdT s).2.1 := by
  obtain ⟨h0, h1⟩ := rdN_two s
  unfold rdT at h ⊢
  simp only at h ⊢
  split at h
  · cases h
  · rename_i hc
    rw [if_neg hc]
    simp only
    have hw := rdN_w (.inr (.inl rfl)) h
    have hl : (((rdN 2 s).2.1.take (rdN 2 s).1.toNat).length : Int) = (rdN 2 s).1 := by rw [List.length_take]; omega
    unfold textB
    rw [hl, List.append_assoc, List.take_append_drop]
    exact hw
theorem rdV_w {s : RS} (h : (rdV s).2.2 = false) : s.1 = valB (rdV s).1 ++ (rdV s).2.1 := by
  unfold rdV at h ⊢
  simp only at h ⊢
  split at h
  · rename_i hk
    rw [if_pos hk]
    have h1 := rdN_w (.inl rfl) (rdN_bad h).1
    have h2 := rdN_w (.inr (.inr (.inr rfl))) h
    rw [hk] at h1
    simp only [valB, if_true]
    rw [List.append_assoc, ← h2]; exact h1
  · rename_i hk
    rw [if_neg hk]
    split at h
    · rename_i hk3
      rw [if_pos hk3]
      have h1 := rdN_w (.inl rfl) (rdN_bad h).1
      have h2 := rdN_w (.inl rfl) h
      rw [hk3] at h1
      simp only [valB, reduceIte, Int.reduceEq]
      rw [List.append_assoc, ← h2]; exact h1
    · rename_i hk3
      rw [if_neg hk3]
      split at h
      · rename_i hk2
        rw [if_pos hk2]
        have h1 := rdN_w (.inl rfl) (rdT_bad h)
        have h2 := rdT_w h
        rw [hk2] at h1
        simp only [valB, reduceIte, Int.reduceEq]
        rw [List.append_assoc, ← h2]; exact h1
      · rename_i hk2
        rw [if_neg hk2]
        have h1 := rdN_w (.inl rfl) h
        simp only [valB]
        rw [if_neg hk, if_neg hk3, if_neg hk2, List.append_nil]; exact h1
theorem rdVs_w : ∀ {k : Nat} {s : RS}, (rdVs k s).2.2 = false → s.1 = (rdVs k s).1.flatMap valB ++ (rdVs k s).2.1
  | 0, s, _ => rfl
  | k + 1, s, h => by
    have h1 := rdV_w (rdVs_bad (k := k) h)
    have h2 := rdVs_w (k := k) (s := (rdV s).2) h
    simp only [rdVs, List.flatMap_cons, List.append_assoc]
    rw [← h2]; exact h1
theorem rdRow_w {s : RS} (h : (rdRow s).2.2 = false) : s.1 = rowB (rdRow s).1 ++ (rdRow s).2.1 := by
  have h1 := rdN_w (.inl rfl) (rdVs_bad (s := (rdN 1 s).2) h)
  have h2 := rdVs_w (s := (rdN 1 s).2) h
  obtain ⟨h3, h4⟩ := rdN_one s
  have h5 := (rdVs_fit (rdN 1 s).1.toNat (rdN 1 s).2).1
  have hl : ((rdRow s).1.length : Int) = (rdN 1 s).1 := by unfold rdRow; simp only; omega
  unfold rowB
  rw [hl, List.append_assoc]
  show s.1 = beB (rdN 1 s).1 1 ++ ((rdVs (rdN 1 s).1.toNat (rdN 1 s).2).1.flatMap valB ++ (rdVs (rdN 1 s).1.toNat (rdN 1 s).2).2.1)
  rw [← h2]; exact h1

/-- A field's number. -/
def isF (f : Int) : Prop := f = 0 ∨ f = 1 ∨ f = 2 ∨ f = 3 ∨ f = 4 ∨ f = 5 ∨ f = 6 ∨ f = 7
theorem rdF_w {x : Rec} {f : Int} {s : RS} (hf : isF f) (h : (rdF x f s).2.2 = false) : s.1 = fieldB (rdF x f s).1 f ++ (rdF x f s).2.1 := by
  rcases hf with rfl | rfl | rfl | rfl | rfl | rfl | rfl | rfl <;> simp only [rdF, fieldB, reduceIte, Int.reduceEq] at h ⊢
  · exact rdN_w (.inr (.inr (.inr rfl))) h
  · exact rdT_w h
  · exact rdT_w h
  · exact rdN_w (.inr (.inr (.inr rfl))) h
  · rw [vals_of]; exact rdRow_w h
  · exact rdN_w (.inr (.inr (.inr rfl))) h
  · exact rdT_w h
  · exact rdN_w (.inr (.inr (.inr rfl))) h
theorem rdF_other {x : Rec} {f g : Int} {s : RS} (hf : isF f) (hg : isF g) (hne : g ≠ f) : fieldB (rdF x f s).1 g = fieldB x g := by
  rcases hf with rfl | rfl | rfl | rfl | rfl | rfl | rfl | rfl <;> rcases hg with rfl | rfl | rfl | rfl | rfl | rfl | rfl | rfl <;> first
    | exact absurd rfl hne
    | rfl
theorem rdFs_other : ∀ {l : List Int} {x : Rec} {s : RS} {g : Int}, (∀ f ∈ l, isF f) → isF g → g ∉ l → fieldB (rdFs l x s).1 g = fieldB x g
  | [], _, _, _, _, _, _ => rfl
  | f :: l, x, s, g, hl, hg, hn => by
    simp only [rdFs]
    rw [rdFs_other (fun f hf => hl f (by simp [hf])) hg (fun h => hn (by simp [h])), rdF_other (hl f (by simp)) hg (fun e => hn (by simp [e]))]
theorem rdFs_w : ∀ {l : List Int} {x : Rec} {s : RS}, (∀ f ∈ l, isF f) → l.Nodup → (rdFs l x s).2.2 = false → s.1 = l.flatMap (fieldB (rdFs l x s).1) ++ (rdFs l x s).2.1
  | [], x, s, _, _, _ => rfl
  | f :: l, x, s, hl, hd, h => by
    have hd := List.nodup_cons.1 hd
    have h1 := rdF_w (hl f (by simp)) (rdFs_bad (l := l) h)
    have h2 := rdFs_w (l := l) (x := (rdF x f s).1) (s := (rdF x f s).2) (fun f hf => hl f (by simp [hf])) hd.2 h
    simp only [rdFs, List.flatMap_cons, List.append_assoc]
    rw [← h2, rdFs_other (fun f hf => hl f (by simp [hf])) (hl f (by simp)) hd.1]
    exact h1
theorem rdF_op (x : Rec) (f : Int) (s : RS) : (rdF x f s).1.op = x.op := by
  unfold rdF
  repeat' split
  all_goals rfl
theorem rdFs_op : ∀ (l : List Int) (x : Rec) (s : RS), (rdFs l x s).1.op = x.op
  | [], _, _ => rfl
  | f :: l, x, s => by rw [rdFs, rdFs_op l, rdF_op]
theorem fields_isF (op : Int) : (∀ f ∈ (fieldsOf op).getD [], isF f) ∧ ((fieldsOf op).getD []).Nodup := by
  rcases op_cases op with h | ⟨k1, k2, k3, k4, k5, k6, k7, k8, k9, k10, k11⟩
  · rcases h with rfl | rfl | rfl | rfl | rfl | rfl | rfl | rfl | rfl | rfl | rfl <;> simp [fieldsOf, isF]
  · simp [fieldsOf, k1, k2, k3, k4, k5, k6, k7, k8, k9, k10, k11]

/-! ### the reference reads it too -/
structure Agree (C tail : List UInt8) (s : RS) (q : QS) : Prop where
  hs : s.2 = false
  hq : q.2 = false
  le : q.1 ≤ C.length
  rest : C.drop q.1 = s.1 ++ tail
section
variable {C tail : List UInt8} {s : RS} {q : QS}
theorem rdN_q {n : Nat} (ha : Agree C tail s q) (h : (rdN n s).2.2 = false) : (qN C n q).1 = (rdN n s).1 ∧ Agree C tail (rdN n s).2 (qN C n q).2 := by
  have hl := (rdN_bad h).2
  have hlen := congrArg List.length ha.rest
  rw [List.length_drop, List.length_append] at hlen
  have hle := ha.le
  have hc : ¬ (q.2 = true ∨ C.length < q.1 + n) := by rw [ha.hq]; simp; omega
  unfold qN rdN
  rw [if_neg hc, if_pos hl]
  have ht : (C.drop q.1).take n = s.1.take n := by rw [ha.rest, List.take_append_of_le_length hl]
  refine ⟨by simp only [ht], ⟨ha.hs, rfl, by simp only; omega, ?_⟩⟩
  simp only
  rw [← List.drop_drop, ha.rest, List.drop_append_of_le_length hl]
theorem rdT_q (ha : Agree C tail s q) (h : (rdT s).2.2 = false) : (qT C q).1 = (rdT s).1 ∧ Agree C tail (rdT s).2 (qT C q).2 := by
  obtain ⟨h0, h1⟩ := rdN_two s
  have hb := h
  unfold rdT at h
  simp only at h
  split at h
  · cases h
  · rename_i hc
    obtain ⟨e, hA⟩ := rdN_q ha h
    have hlen := congrArg List.length hA.rest
    rw [List.length_drop, List.length_append] at hlen
    have hle := hA.le
    have hl : (rdN 2 s).1.toNat ≤ (rdN 2 s).2.1.length := by omega
    unfold qT rdT
    simp only
    rw [if_neg hc, e, if_neg (by rw [hA.hq]; simp; omega)]
    have ht : (C.drop (qN C 2 q).2.1).take (rdN 2 s).1.toNat = (rdN 2 s).2.1.take (rdN 2 s).1.toNat := by rw [hA.rest, List.take_append_of_le_length hl]
    refine ⟨ht, ⟨hA.hs, rfl, by simp only; omega, ?_⟩⟩
    simp only
    rw [← List.drop_drop, hA.rest, List.drop_append_of_le_length hl]
theorem rdV_q (ha : Agree C tail s q) (h : (rdV s).2.2 = false) : (qV C q).1 = (rdV s).1 ∧ Agree C tail (rdV s).2 (qV C q).2 := by
  unfold rdV at h ⊢
  unfold qV
  simp only at h ⊢
  have base : (rdN 1 s).2.2 = false := by
    split at h
    · exact (rdN_bad h).1
    · split at h
      · exact (rdN_bad h).1
      · split at h
        · exact rdT_bad h
        · exact h
  obtain ⟨e, hA⟩ := rdN_q ha base
  rw [e]
  split at h
  · rename_i hk
    rw [if_pos hk, if_pos hk]
    obtain ⟨e2, hA2⟩ := rdN_q hA h
    exact ⟨by simp only [e2], hA2⟩
  · rename_i hk
    rw [if_neg hk, if_neg hk]
    split at h
    · rename_i hk3
      rw [if_pos hk3, if_pos hk3]
      obtain ⟨e2, hA2⟩ := rdN_q hA h
      exact ⟨by simp only [e2], hA2⟩
    · rename_i hk3
      rw [if_neg hk3, if_neg hk3]
      split at h
      · rename_i hk2
        rw [if_pos hk2, if_pos hk2]
        obtain ⟨e2, hA2⟩ := rdT_q hA h
        exact ⟨by simp only [e2], hA2⟩
      · rename_i hk2
        rw [if_neg hk2, if_neg hk2]
        exact ⟨rfl, hA⟩
end
theorem rdVs_q {C tail : List UInt8} : ∀ {k : Nat} {s : RS} {q : QS}, Agree C tail s q → (rdVs k s).2.2 = false → (qVs C k q).1 = (rdVs k s).1 ∧ Agree C tail (rdVs k s).2 (qVs C k q).2
  | 0, s, q, ha, _ => ⟨rfl, ha⟩
  | k + 1, s, q, ha, h => by
    obtain ⟨e, hA⟩ := rdV_q ha (rdVs_bad (k := k) h)
    obtain ⟨e2, hA2⟩ := rdVs_q (k := k) hA h
    unfold qVs
    rw [if_neg (by rw [ha.hq]; decide)]
    exact ⟨by simp only [rdVs, e, e2], hA2⟩
section
variable {C tail : List UInt8} {s : RS} {q : QS}
theorem rdRow_q (ha : Agree C tail s q) (h : (rdRow s).2.2 = false) : (qRow C q).1 = (rdRow s).1 ∧ Agree C tail (rdRow s).2 (qRow C q).2 := by
  obtain ⟨e, hA⟩ := rdN_q ha (rdVs_bad (s := (rdN 1 s).2) h)
  obtain ⟨e2, hA2⟩ := rdVs_q hA h
  unfold qRow rdRow
  simp only
  rw [e]
  exact ⟨e2, hA2⟩
theorem rdF_q {x : Rec} {f : Int} (hf : isF f) (ha : Agree C tail s q) (h : (rdF x f s).2.2 = false) : (qF C x f q).1 = (rdF x f s).1 ∧ Agree C tail (rdF x f s).2 (qF C x f q).2 := by
  rcases hf with rfl | rfl | rfl | rfl | rfl | rfl | rfl | rfl <;> simp only [rdF, qF, reduceIte, Int.reduceEq] at h ⊢
  · obtain ⟨e, hA⟩ := rdN_q ha h; exact ⟨by rw [e], hA⟩
  · obtain ⟨e, hA⟩ := rdT_q ha h; exact ⟨by rw [e], hA⟩
  · obtain ⟨e, hA⟩ := rdT_q ha h; exact ⟨by rw [e], hA⟩
  · obtain ⟨e, hA⟩ := rdN_q ha h; exact ⟨by rw [e], hA⟩
  · obtain ⟨e, hA⟩ := rdRow_q ha h; exact ⟨by rw [e], hA⟩
  · obtain ⟨e, hA⟩ := rdN_q ha h; exact ⟨by rw [e], hA⟩
  · obtain ⟨e, hA⟩ := rdT_q ha h; exact ⟨by rw [e], hA⟩
  · obtain ⟨e, hA⟩ := rdN_q ha h; exact ⟨by rw [e], hA⟩
end
theorem rdFs_q {C tail : List UInt8} : ∀ {l : List Int} {x : Rec} {s : RS} {q : QS}, (∀ f ∈ l, isF f) → Agree C tail s q → (rdFs l x s).2.2 = false → (qFs C l x q).1 = (rdFs l x s).1
  | [], _, _, _, _, _, _ => rfl
  | f :: l, x, s, q, hl, ha, h => by
    obtain ⟨e, hA⟩ := rdF_q (hl f (by simp)) ha (rdFs_bad (l := l) h)
    simp only [qFs, rdFs]
    rw [e]
    exact rdFs_q (fun f hf => hl f (by simp [hf])) hA h
end Go.Vm.Redo
-- RL3: Laws of the log's bytes in plain Lean: what is written is read.
namespace Go.Vm.Redo
open Go Go.Vm

theorem rdN_r (z : Int) (n : Nat) (rest : List UInt8) (b : Bool) : rdN n (beB z n ++ rest, b) = (rdNum (beB z n) 0, (rest, b)) := by
  have hl := beB_len z n
  unfold rdN
  rw [if_pos (by simp only [List.length_append]; omega)]
  simp only
  rw [List.take_append_of_le_length (by omega), List.take_of_length_le (by omega), List.drop_append_of_le_length (by omega), List.drop_eq_nil_of_le (by omega), List.nil_append]
theorem rdN_r1 (z : Int) (h0 : 0 ≤ z) (h1 : z < 256) (rest : List UInt8) (b : Bool) : rdN 1 (beB z 1 ++ rest, b) = (z, (rest, b)) := by rw [rdN_r, num_beB1 z h0 h1]
theorem rdN_r2 (z : Int) (h0 : 0 ≤ z) (h1 : z < 65536) (rest : List UInt8) (b : Bool) : rdN 2 (beB z 2 ++ rest, b) = (z, (rest, b)) := by rw [rdN_r, num_beB2 z h0 h1]
theorem rdN_r8 (z : Int) (h0 : -9223372036854775808 ≤ z) (h1 : z ≤ 9223372036854775807) (rest : List UInt8) (b : Bool) : rdN 8 (beB z 8 ++ rest, b) = (z, (rest, b)) := by rw [rdN_r, num_beB8 z h0 h1]
theorem rdT_r (t : List UInt8) (ht : t.length < 65536) (rest : List UInt8) (b : Bool) : rdT (textB t ++ rest, b) = (t, (rest, b)) := by
  unfold rdT textB
  rw [List.append_assoc, rdN_r2 _ (by omega) (by omega)]
  simp only
  rw [if_neg (by simp only [List.length_append]; omega), Int.toNat_natCast, List.take_append_of_le_length (by omega), List.take_of_length_le (by omega), List.drop_append_of_le_length (by omega), List.drop_eq_nil_of_le (by omega), List.nil_append]
theorem rdV_r (v : Val) (h : valOK v = true) (rest : List UInt8) (b : Bool) : rdV (valB v ++ rest, b) = (v, (rest, b)) := by
  have hw := valOK_weight v h
  obtain ⟨kd, n, t⟩ := v
  unfold valOK at h
  simp only at h hw
  unfold rdV valB
  simp only
  split at h
  · rename_i hk
    subst hk
    simp only [Bool.and_eq_true, decide_eq_true_eq] at h
    obtain ⟨rfl, rfl⟩ := h
    simp only [Int.reduceEq, reduceIte, List.append_nil]
    rw [rdN_r1 0 (by omega) (by omega)]
    simp
  · rename_i hk0
    split at h
    · rename_i hk
      subst hk
      simp only [Bool.and_eq_true, decide_eq_true_eq, intOK, big] at h
      obtain ⟨rfl, h1, h2⟩ := h
      have h1' : -1099511627776 ≤ n := of_decide_eq_true h1
      have h2' : n ≤ 1099511627776 := of_decide_eq_true h2
      simp only [reduceIte, List.append_assoc]
      rw [rdN_r1 1 (by omega) (by omega)]
      simp only [reduceIte]
      rw [rdN_r8 n (by omega) (by omega)]
    · rename_i hk1
      split at h
      · rename_i hk
        subst hk
        simp only [Bool.and_eq_true, decide_eq_true_eq] at h
        obtain ⟨rfl, h2⟩ := h
        simp only [Int.reduceEq, reduceIte, List.append_assoc]
        rw [rdN_r1 2 (by omega) (by omega)]
        simp only [Int.reduceEq, reduceIte]
        rw [rdT_r t (by omega)]
      · rename_i hk2
        split at h
        · rename_i hk
          subst hk
          simp only [Bool.and_eq_true, Bool.or_eq_true, decide_eq_true_eq] at h
          obtain ⟨rfl, h2⟩ := h
          simp only [Int.reduceEq, reduceIte, List.append_assoc]
          rw [rdN_r1 3 (by omega) (by omega)]
          simp only [Int.reduceEq, reduceIte]
          rw [rdN_r1 n (by omega) (by omega)]
        · cases h
theorem rdVs_r : ∀ (l : List Val) (_ : l.all valOK = true) (rest : List UInt8) (b : Bool), rdVs l.length (l.flatMap valB ++ rest, b) = (l, (rest, b))
  | [], _, rest, b => rfl
  | v :: l, h, rest, b => by
    simp only [List.all_cons, Bool.and_eq_true] at h
    simp only [List.length_cons, rdVs, List.flatMap_cons, List.append_assoc]
    rw [rdV_r v h.1]
    simp only
    rw [rdVs_r l h.2]
theorem rdRow_r (l : List Val) (h : rowOK l = true) (rest : List UInt8) (b : Bool) : rdRow (rowB l ++ rest, b) = (l, (rest, b)) := by
  unfold rowOK at h
  simp only [Bool.and_eq_true, decide_eq_true_eq] at h
  unfold rdRow rowB
  rw [List.append_assoc, rdN_r1 _ (by omega) (by omega)]
  simp only
  rw [Int.toNat_natCast, rdVs_r l h.2]

/-- A field set, as reading sets it. -/
def setN (out x : Rec) (f : Int) : Rec :=
  if f = 0 then { out with txn := x.txn } else if f = 1 then { out with owner := x.owner } else if f = 2 then { out with name := x.name } else if f = 3 then { out with id := x.id }
  else if f = 4 then { out with row := .of x.row.vals } else if f = 5 then { out with time := x.time } else if f = 6 then { out with text := x.text } else if f = 7 then { out with n := x.n } else out
theorem rdF_r (x y : Rec) (f : Int) (hf : isF f) (h : fieldOK x f = true) (rest : List UInt8) (b : Bool) : rdF y f (fieldB x f ++ rest, b) = (setN y x f, (rest, b)) := by
  rcases hf with rfl | rfl | rfl | rfl | rfl | rfl | rfl | rfl <;> simp only [fieldOK, rdF, fieldB, setN, reduceIte, Int.reduceEq] at h ⊢
  · unfold between big at h; simp only [Bool.and_eq_true, decide_eq_true_eq] at h
    rw [rdN_r8 _ (by omega) (by omega)]
  · have := isName_len _ h
    rw [rdT_r _ (by omega)]
  · have := isName_len _ h
    rw [rdT_r _ (by omega)]
  · unfold between big at h; simp only [Bool.and_eq_true, decide_eq_true_eq] at h
    rw [rdN_r8 _ (by omega) (by omega)]
  · rw [rdRow_r _ h]
  · unfold between big at h; simp only [Bool.and_eq_true, decide_eq_true_eq] at h
    rw [rdN_r8 _ (by omega) (by omega)]
  · have : x.text.length < 65536 := by
      simp only [Bool.or_eq_true, Bool.and_eq_true, decide_eq_true_eq] at h
      rcases h with h | h
      · have := joint_len _ h.2; omega
      · omega
    rw [rdT_r _ this]
  · unfold between big at h; simp only [Bool.and_eq_true, decide_eq_true_eq] at h
    have : -1099511627776 ≤ x.n := by
      have := h.1
      split at this <;> omega
    rw [rdN_r8 _ (by omega) (by omega)]
theorem rdFs_r (x : Rec) : ∀ (l : List Int) (y : Rec) (_ : ∀ f ∈ l, isF f ∧ fieldOK x f = true) (rest : List UInt8) (b : Bool), rdFs l y (l.flatMap (fieldB x) ++ rest, b) = (l.foldl (fun y f => setN y x f) y, (rest, b))
  | [], y, _, rest, b => rfl
  | f :: l, y, h, rest, b => by
    simp only [rdFs, List.flatMap_cons, List.append_assoc, List.foldl_cons]
    rw [rdF_r x y f (h f (by simp)).1 (h f (by simp)).2]
    exact rdFs_r x l _ (fun f hf => h f (by simp [hf])) rest b

/-! ### records alike -/
def Rec.nm (x : Rec) : Rec := { x with row := .mk x.row.vals }
theorem fieldB_nm (x : Rec) (f : Int) : fieldB x.nm f = fieldB x f := rfl
theorem fieldOK_nm (x : Rec) (f : Int) : fieldOK x.nm f = fieldOK x f := rfl
theorem sameR_nm (x y : Rec) : sameR x.nm y.nm = sameR x y := rfl
theorem setField_nm (y x : Rec) (f : Int) : (setField y x.nm f).nm = (setField y.nm x f).nm := by
  unfold setField
  repeat' split
  all_goals rfl
theorem setN_nm (y x : Rec) (f : Int) : (setN y x f).nm = (setField y x f).nm := by
  unfold setN setField
  repeat' split
  all_goals first
    | rfl
    | (simp only [Rec.nm, vals_of])
theorem setField_nm' (y x : Rec) (f : Int) : (setField y.nm x f).nm = (setField y x f).nm := by
  unfold setField
  repeat' split
  all_goals rfl
theorem fold_nm (x : Rec) : ∀ (l : List Int) (y z : Rec), y.nm = z.nm → (l.foldl (fun y f => setN y x f) y).nm = (l.foldl (fun y f => setField y x f) z).nm
  | [], y, z, h => h
  | f :: l, y, z, h => by
    refine fold_nm x l _ _ ?_
    rw [setN_nm, ← setField_nm' y, h, setField_nm' z]
theorem clear_nm (x : Rec) : ∀ (l : List Int) (y z : Rec), y.nm = z.nm → (l.foldl (fun y f => setField y x.nm f) y).nm = (l.foldl (fun y f => setField y x f) z).nm
  | [], y, z, h => h
  | f :: l, y, z, h => by
    refine clear_nm x l _ _ ?_
    rw [setField_nm, h, setField_nm' z]
theorem validR_nm (x : Rec) : validR x.nm = validR x := by
  unfold validR
  have e : x.nm.op = x.op := rfl
  rw [e]
  cases fieldsOf x.op with
  | none => rfl
  | some l =>
    simp only
    have h1 : (clear x.nm l).nm = (clear x l).nm := clear_nm x l _ _ rfl
    have h2 : sameR x.nm (clear x.nm l) = sameR x (clear x l) := by
      rw [← sameR_nm x.nm, ← sameR_nm x, h1]; rfl
    have h3 : fieldOK x.nm = fieldOK x := funext fun f => fieldOK_nm x f
    rw [h2, h3]
theorem encB_nm (x : Rec) : encB x.nm = encB x := rfl
theorem sameR_iff (x y : Rec) : sameR x y = true ↔ x.nm = y.nm := by
  obtain ⟨a, b, c, d, e, f, g, i, j⟩ := x
  obtain ⟨a', b', c', d', e', f', g', i', j'⟩ := y
  simp only [sameR, Rec.nm, Bool.and_eq_true, decide_eq_true_eq, Rec.mk.injEq, RowR.mk.injEq]
  constructor
  · rintro ⟨⟨⟨⟨⟨⟨⟨⟨h1, h2⟩, h3⟩, h4⟩, h5⟩, h6⟩, h7⟩, h8⟩, h9⟩; exact ⟨h1, h2, h3, h4, h5, h9, h6, h7, h8⟩
  · rintro ⟨h1, h2, h3, h4, h5, h9, h6, h7, h8⟩; exact ⟨⟨⟨⟨⟨⟨⟨⟨h1, h2⟩, h3⟩, h4⟩, h5⟩, h6⟩, h7⟩, h8⟩, h9⟩
end Go.Vm.Redo
-- RL4: Laws of the log's bytes in plain Lean: a record is read as it was written; the reference decodes as the program does.
namespace Go.Vm.Redo
open Go Go.Vm

theorem valid_op (x : Rec) (h : validR x = true) : 1 ≤ x.op ∧ x.op ≤ 11 ∧ sameR x (clear x ((fieldsOf x.op).getD [])) = true ∧ ((fieldsOf x.op).getD []).all (fieldOK x) = true := by
  unfold validR at h
  cases hf : fieldsOf x.op with
  | none => rw [hf] at h; cases h
  | some l =>
    rw [hf] at h
    simp only [Bool.and_eq_true] at h
    refine ⟨?_, ?_, h.1, h.2⟩
    · rcases op_cases x.op with h | ⟨k1, k2, k3, k4, k5, k6, k7, k8, k9, k10, k11⟩
      · omega
      · simp [fieldsOf, k1, k2, k3, k4, k5, k6, k7, k8, k9, k10, k11] at hf
    · rcases op_cases x.op with h | ⟨k1, k2, k3, k4, k5, k6, k7, k8, k9, k10, k11⟩
      · omega
      · simp [fieldsOf, k1, k2, k3, k4, k5, k6, k7, k8, k9, k10, k11] at hf

theorem bodyB_len (x : Rec) : (bodyB x).length = 1 + (((fieldsOf x.op).getD []).flatMap (fieldB x)).length := by
  unfold bodyB; rw [List.length_append, beB_len]
theorem headB_len (x : Rec) : (headB x).length = (bodyB x).length + 2 := by
  unfold headB; rw [List.length_append, beB_len]; omega
theorem encB_len (x : Rec) : (encB x).length = (bodyB x).length + 6 := by
  unfold encB; rw [List.length_append, beB_len, headB_len]
theorem encB_seven (x : Rec) : 7 ≤ (encB x).length := by rw [encB_len, bodyB_len]; omega

/-- What is written is decoded. -/
theorem decode_enc (x : Rec) (h : validR x = true) (hlen : (encB x).length ≤ 65537) (rest : List UInt8) : ∃ y : Rec, y.nm = x.nm ∧ decode (encB x ++ rest) = (y, ((encB x).length : Int), 0) := by
  obtain ⟨o1, o2, hsame, hall⟩ := valid_op x h
  have hbl := encB_len x
  have hhl := headB_len x
  have hb1 := bodyB_len x
  obtain ⟨hisF, hnd⟩ := fields_isF x.op
  -- the bytes
  have e2 : beB (((bodyB x).length + 4 : Nat) : Int) 2 = [byteAt ((bodyB x).length + 4 : Nat) 256, byteAt ((bodyB x).length + 4 : Nat) 1] := beB_2 _
  have hB0 := byteAt_nat (((bodyB x).length + 4 : Nat) : Int) 256
  have hB1 := byteAt_nat (((bodyB x).length + 4 : Nat) : Int) 1
  have eo : beB x.op 1 = [byteAt x.op 1] := beB_1 _
  have hBo := byteAt_nat x.op 1
  generalize hb0 : byteAt (((bodyB x).length + 4 : Nat) : Int) 256 = b0 at *
  generalize hb1' : byteAt (((bodyB x).length + 4 : Nat) : Int) 1 = b1 at *
  generalize hbo : byteAt x.op 1 = bo at *
  have hn : 256 * b0.toNat + b1.toNat + 2 = (encB x).length := by
    have h0 := b0.toNat_lt
    have h1 := b1.toNat_lt
    omega
  have hop : (bo.toNat : Int) = x.op := by omega
  have henc : encB x ++ rest = b0 :: b1 :: (bodyB x ++ beB (sumB (headB x)) 4 ++ rest) := by
    show (beB (((bodyB x).length + 4 : Nat) : Int) 2 ++ bodyB x) ++ beB (sumB (headB x)) 4 ++ rest = _
    rw [e2]; simp
  have hbody : bodyB x = bo :: ((fieldsOf x.op).getD []).flatMap (fieldB x) := by
    show beB x.op 1 ++ _ = _
    rw [eo]; rfl
  have hhead : headB x = b0 :: b1 :: bodyB x := by
    show beB (((bodyB x).length + 4 : Nat) : Int) 2 ++ bodyB x = _
    rw [e2]; rfl
  have hgd : (encB x ++ rest).getD 2 0 = bo := by rw [henc, hbody]; rfl
  have htk4 : (encB x ++ rest).take ((encB x).length - 4) = headB x := by
    have : (encB x).length - 4 = (headB x).length := by omega
    rw [this]
    show (headB x ++ beB (sumB (headB x)) 4 ++ rest).take _ = _
    rw [List.append_assoc, List.take_append_of_le_length (Nat.le_refl _), List.take_length]
  have hlast : ((encB x ++ rest).take (encB x).length).drop ((encB x).length - 4) = beB (sumB (headB x)) 4 := by
    rw [List.take_append_of_le_length (Nat.le_refl _), List.take_length]
    have : (encB x).length - 4 = (headB x).length := by omega
    rw [this]
    show (headB x ++ beB (sumB (headB x)) 4).drop _ = _
    rw [List.drop_append_of_le_length (Nat.le_refl _), List.drop_length, List.nil_append]
  have hdrop3 : (headB x).drop 3 = ((fieldsOf x.op).getD []).flatMap (fieldB x) := by rw [hhead, hbody]; rfl
  have hread := rdFs_r x ((fieldsOf x.op).getD []) { op := x.op } (fun f hf => ⟨hisF f hf, List.all_eq_true.1 hall f hf⟩) [] false
  rw [List.append_nil] at hread
  have hy : (((fieldsOf x.op).getD []).foldl (fun y f => setN y x f) { op := x.op }).nm = x.nm := by
    have h1 : (((fieldsOf x.op).getD []).foldl (fun y f => setN y x f) { op := x.op }).nm = (clear x ((fieldsOf x.op).getD [])).nm := fold_nm x _ _ _ rfl
    rw [h1]
    exact ((sameR_iff _ _).1 hsame).symm
  refine ⟨((fieldsOf x.op).getD []).foldl (fun y f => setN y x f) { op := x.op }, hy, ?_⟩
  have hv : validR (((fieldsOf x.op).getD []).foldl (fun y f => setN y x f) { op := x.op }) = true := by
    rw [← validR_nm, hy, validR_nm]; exact h
  have hs := num_beB4 (sumB (headB x)) (by omega) (by have := sum_lt (headB x) 0 0 (by omega); have e : sumFrom (headB x) 0 0 = sumB (headB x) := rfl; omega)
  have hll : (encB x ++ rest).length = (encB x).length + rest.length := List.length_append
  generalize hbb : encB x ++ rest = bb at *
  rw [henc]
  simp only [decode]
  rw [← henc, hn, hgd, hop, htk4, hlast, hdrop3, hread, hs, if_neg (by omega), if_neg (by have := encB_seven x; omega)]
  simp only [hv]
  simp
theorem decode_err0 (b : List UInt8) (h : (decode b).2.2 ≠ 0) : decode b = ({ op := 0 }, 0, (decode b).2.2) := by
  unfold decode at h ⊢
  split at h
  · simp only at h ⊢
    split at h
    · rename_i h1; rw [if_pos h1]
    · rename_i h1
      split at h
      · rename_i h2; rw [if_neg h1, if_pos h2]
      · rename_i h2
        split at h
        · rename_i h3; rw [if_neg h1, if_neg h2, if_pos h3]
        · exact absurd rfl h
  · rfl
end Go.Vm.Redo
-- RL5: The reference decodes as the program does.
namespace Go.Vm.Redo
open Go Go.Vm

/-- What an accepted record's bytes are. -/
structure Accept (b0 b1 b2 : UInt8) (t : List UInt8) (n : Nat) (x : Rec) : Prop where
  hn : 256 * b0.toNat + b1.toNat + 2 = n
  len : n ≤ (b0 :: b1 :: b2 :: t).length
  seven : 7 ≤ n
  read : rdFs ((fieldsOf b2.toNat).getD []) { op := b2.toNat } (((b0 :: b1 :: b2 :: t).take (n - 4)).drop 3, false) = (x, ([], false))
  valid : validR x = true
  sum : rdNum (((b0 :: b1 :: b2 :: t).take n).drop (n - 4)) 0 = sumB ((b0 :: b1 :: b2 :: t).take (n - 4))

theorem decode_accept (b : List UInt8) (h : (decode b).2.2 = 0) : ∃ b0 b1 b2 t n x, b = b0 :: b1 :: b2 :: t ∧ Accept b0 b1 b2 t n x ∧ decode b = (x, (n : Int), 0) := by
  match b with
  | [] => simp [decode] at h
  | [_] => simp [decode] at h
  | b0 :: b1 :: t =>
    simp only [decode] at h ⊢
    split at h
    · cases h
    · rename_i h1
      split at h
      · cases h
      · rename_i h2
        split at h
        · cases h
        · rename_i h3
          match t with
          | [] => simp at h1; omega
          | b2 :: t =>
            rw [if_neg h1, if_neg h2, if_neg h3]
            simp only [Bool.or_eq_true, Bool.not_eq_true', decide_eq_true_eq, not_or, Bool.not_eq_true, Bool.not_eq_false, Decidable.not_not] at h3
            obtain ⟨⟨⟨q1, q2⟩, q3⟩, q4⟩ := h3
            refine ⟨b0, b1, b2, t, _, _, rfl, ⟨rfl, by omega, by omega, ?_, q3, q4⟩, rfl⟩
            have gd : (b0 :: b1 :: b2 :: t).getD 2 0 = b2 := rfl
            rw [gd] at q1 q2 ⊢
            generalize rdFs ((fieldsOf b2.toNat).getD []) { op := b2.toNat } (((b0 :: b1 :: b2 :: t).take (256 * b0.toNat + b1.toNat + 2 - 4)).drop 3, false) = W at *
            obtain ⟨x, l, bad⟩ := W
            simp only at q1 q2
            have : l = [] := List.eq_nil_of_length_eq_zero (by omega)
            rw [this, q1]

theorem accept_bytes {b0 b1 b2 : UInt8} {t : List UInt8} {n : Nat} {x : Rec} (h : Accept b0 b1 b2 t n x) : encB x = (b0 :: b1 :: b2 :: t).take n := by
  obtain ⟨hn, hlen, h7, hread, hv, hs⟩ := h
  obtain ⟨hisF, hnd⟩ := fields_isF b2.toNat
  have hop : x.op = b2.toNat := by
    have := rdFs_op ((fieldsOf b2.toNat).getD []) { op := b2.toNat } (((b0 :: b1 :: b2 :: t).take (n - 4)).drop 3, false)
    rw [hread] at this; exact this
  have hw := rdFs_w (l := (fieldsOf b2.toNat).getD []) (x := { op := b2.toNat }) (s := (((b0 :: b1 :: b2 :: t).take (n - 4)).drop 3, false)) hisF hnd (by rw [hread])
  rw [hread] at hw
  simp only [List.append_nil] at hw
  have htk : (b0 :: b1 :: b2 :: t).take (n - 4) = b0 :: b1 :: b2 :: ((b0 :: b1 :: b2 :: t).take (n - 4)).drop 3 := by
    obtain ⟨k, rfl⟩ : ∃ k, n = k + 7 := ⟨n - 7, by omega⟩
    rfl
  have hb2 := b2.toNat_lt
  have hbody : bodyB x = b2 :: ((b0 :: b1 :: b2 :: t).take (n - 4)).drop 3 := by
    unfold bodyB
    rw [hop, ← hw, beB_1, byteAt_eq _ 1 b2 (by omega)]; rfl
  have hbl : (bodyB x).length + 6 = n := by
    have h1 := congrArg List.length htk
    rw [List.length_take] at h1
    rw [hbody]
    simp only [List.length_cons] at h1 ⊢
    simp only [List.length_cons] at hlen
    omega
  have h0 := b0.toNat_lt
  have h1 := b1.toNat_lt
  have hhead : headB x = (b0 :: b1 :: b2 :: t).take (n - 4) := by
    unfold headB
    rw [beB_2, byteAt_eq _ 256 b0 (by omega), byteAt_eq _ 1 b1 (by omega), hbody, htk]; rfl
  unfold encB
  rw [hhead, ← hs]
  have hl4 : (((b0 :: b1 :: b2 :: t).take n).drop (n - 4)).length = 4 := by rw [List.length_drop, List.length_take]; omega
  have hb4 : beB (rdNum (((b0 :: b1 :: b2 :: t).take n).drop (n - 4)) 0) 4 = ((b0 :: b1 :: b2 :: t).take n).drop (n - 4) := by
    match hm : ((b0 :: b1 :: b2 :: t).take n).drop (n - 4), hl4 with
    | [a, b, c, d], _ => exact beB_num4 a b c d
  rw [hb4]
  have : (b0 :: b1 :: b2 :: t).take (n - 4) = ((b0 :: b1 :: b2 :: t).take n).take (n - 4) := by rw [List.take_take, Nat.min_eq_left (by omega)]
  rw [this, List.take_append_drop]

theorem qRec_accept {b0 b1 b2 : UInt8} {t : List UInt8} {n : Nat} {x : Rec} (h : Accept b0 b1 b2 t n x) : (qRec ((b0 :: b1 :: b2 :: t).take n) (2, false)).1 = x := by
  obtain ⟨hn, hlen, h7, hread, hv, hs⟩ := h
  obtain ⟨hisF, hnd⟩ := fields_isF b2.toNat
  have hcl : ((b0 :: b1 :: b2 :: t).take n).length = n := by rw [List.length_take]; omega
  have hC : (b0 :: b1 :: b2 :: t).take n = b0 :: b1 :: b2 :: ((b0 :: b1 :: b2 :: t).take n).drop 3 := by
    obtain ⟨k, rfl⟩ : ∃ k, n = k + 7 := ⟨n - 7, by omega⟩
    rfl
  have h1 : qN ((b0 :: b1 :: b2 :: t).take n) 1 (2, false) = ((b2.toNat : Int), (3, false)) := by
    unfold qN
    rw [if_neg (by rw [hcl]; simp; omega)]
    have : (((b0 :: b1 :: b2 :: t).take n).drop 2).take 1 = [b2] := by rw [hC]; rfl
    rw [this, num_one]
  unfold qRec
  simp only
  rw [h1]
  have ha : Agree ((b0 :: b1 :: b2 :: t).take n) (((b0 :: b1 :: b2 :: t).take n).drop (n - 4)) (((b0 :: b1 :: b2 :: t).take (n - 4)).drop 3, false) (3, false) := by
    refine ⟨rfl, rfl, by rw [hcl]; simp only; omega, ?_⟩
    simp only
    have e : (b0 :: b1 :: b2 :: t).take (n - 4) = ((b0 :: b1 :: b2 :: t).take n).take (n - 4) := by rw [List.take_take, Nat.min_eq_left (by omega)]
    rw [e]
    generalize (b0 :: b1 :: b2 :: t).take n = C at *
    have : C.drop 3 = (C.take (n - 4) ++ C.drop (n - 4)).drop 3 := by rw [List.take_append_drop]
    rw [this, List.drop_append_of_le_length (by rw [List.length_take]; omega)]
  have := rdFs_q (l := (fieldsOf b2.toNat).getD []) (x := { op := b2.toNat }) hisF ha (by rw [hread])
  rw [this, hread]

/-- The reference decodes as the program does. -/
theorem qDecode_eq (b : List UInt8) : qDecode b = decode b := by
  by_cases h : (decode b).2.2 = 0
  · obtain ⟨b0, b1, b2, t, n, x, rfl, ha, hd⟩ := decode_accept b h
    rw [hd]
    have hq := qRec_accept ha
    have he := accept_bytes ha
    simp only [qDecode]
    rw [ha.hn, if_neg (by have := ha.len; omega), hq]
    simp only [ha.valid, he]
    simp
  · have hd := decode_err0 b h
    rw [hd]
    match b with
    | [] => rfl
    | [_] => rfl
    | b0 :: b1 :: t =>
      simp only [qDecode]
      by_cases hl : (b0 :: b1 :: t).length < 256 * b0.toNat + b1.toNat + 2
      · rw [if_pos hl]
        simp only [decode]
        rw [if_pos hl]
      · rw [if_neg hl]
        have h30 : (decode (b0 :: b1 :: t)).2.2 = 30 := by
          simp only [decode] at h ⊢
          rw [if_neg hl] at h ⊢
          split at h
          · rename_i h2; rw [if_pos h2]
          · rename_i h2
            rw [if_neg h2]
            split at h
            · rename_i h3; rw [if_pos h3]
            · exact absurd rfl h
        rw [h30]
        have hno : ¬ (validR (qRec ((b0 :: b1 :: t).take (256 * b0.toNat + b1.toNat + 2)) (2, false)).1 = true ∧ encB (qRec ((b0 :: b1 :: t).take (256 * b0.toNat + b1.toNat + 2)) (2, false)).1 = (b0 :: b1 :: t).take (256 * b0.toNat + b1.toNat + 2)) := by
          rintro ⟨hv, he⟩
          have h0 := b0.toNat_lt
          have h1 := b1.toNat_lt
          have hlen := congrArg List.length he
          rw [List.length_take] at hlen
          obtain ⟨y, _, hy⟩ := decode_enc _ hv (by omega) ((b0 :: b1 :: t).drop (256 * b0.toNat + b1.toNat + 2))
          rw [he, List.take_append_drop] at hy
          exact h (by rw [hy])
        split
        · rfl
        · rename_i hx
          exfalso
          apply hno
          simp only [Bool.or_eq_true, Bool.not_eq_true', decide_eq_true_eq, not_or, Decidable.not_not, Bool.not_eq_false] at hx
          exact hx
end Go.Vm.Redo
-- RD2: Walks: reading all records.
set_option maxRecDepth 100000
namespace Go.Vm.Redo
open Go Go.Vm

/-- Records one behind the other, and how many bytes they are. -/
def readF : Nat → List UInt8 → List Rec × Nat
  | 0, _ => ([], 0)
  | k + 1, b => if (decode b).2.2 ≠ 0 then ([], 0) else ((decode b).1 :: (readF k (b.drop (decode b).2.1.toNat)).1, (decode b).2.1.toNat + (readF k (b.drop (decode b).2.1.toNat)).2)
/-- What is returned for records that were gathered. -/
def recsR (l : List Rec) : V := .sl (decide (l.length = 0)) 9 (l.map Rec.toV)
structure DecOK (dec : List UInt8 → Rec × Int × Int) : Prop where
  size : ∀ b, (dec b).2.2 = 0 → ∃ n : Nat, (dec b).2.1 = n ∧ 7 ≤ n ∧ n ≤ b.length
theorem decode_size : DecOK decode := ⟨fun b h => by
  obtain ⟨b0, b1, b2, t, n, x, rfl, ha, hd⟩ := decode_accept b h
  rw [hd]
  exact ⟨n, rfl, ha.seven, ha.len⟩⟩

/-- redo.Read. -/
theorem run_redo_Read (nl : Bool) (b : List UInt8) (hb : b.length < 4000000) (m : Mem) :
    callL MM F.redo_Read [.sl nl 1 (bytesV b)] m = some (.ret [recsR (readF b.length b).1, .int .i64 (readF b.length b).2] m) := by
  rw [call_redo_Read _ _ rfl]
  have loop : ∀ (k at0 : Nat) (out : List Rec) (vars : List V) (m' : Mem), at0 ≤ b.length → b.length - at0 ≤ k → out.length ≤ at0 →
      fresh m.length (m.length + 1) [1, 2, 5, 6, 7, 8] vars m' = some ([.sl nl 1 (bytesV b), .undef, .undef, .gs m.length out.length, .int .i64 at0, .undef, .undef, .undef, .undef], .buf 9 true (out.map Rec.toV) :: m) →
      ∃ w5 w6 w7 w8 o, loopL (callL MM) m.length (m.length + 1) [1, 2, 5, 6, 7, 8] l_redo_Read_0 vars m' =
        some (.ret [.sl nl 1 (bytesV b), .gs m.length (out ++ (readF k (b.drop at0)).1).length, .int .i64 (at0 + (readF k (b.drop at0)).2 : Nat), .gs m.length (out ++ (readF k (b.drop at0)).1).length, .int .i64 (at0 + (readF k (b.drop at0)).2 : Nat), w5, w6, w7, w8] (o :: .buf 9 true ((out ++ (readF k (b.drop at0)).1).map Rec.toV) :: m)) := by
    intro k
    induction k with
    | zero =>
      intro at0 out vars m' ha hk ho hf
      have hd : b.drop at0 = [] := List.drop_eq_nil_of_le (by omega)
      have hdec := fun m => run_redo_Decode nl (b.drop at0) (by rw [List.length_drop]; omega) m
      rw [hd, bytesV_nil] at hdec
      have hdn : decode [] = ({ op := 0 }, 0, 31) := rfl
      rw [hdn] at hdec
      have c1 : (at0 : Int) ≤ (b.length : Int) := by omega
      have e1 : (bytesV b).drop at0 = [] := by rw [bytesV_drop, hd]; rfl
      have etk : List.take b.length (bytesV b) = bytesV b := by rw [bytesV_take, List.take_length]
      rw [hd]
      refine ⟨.ptr (m.length + 1) 0, .int .i64 0, .int .i64 31, .bool true, .cells (Rec.cells { op := 0 }), ?_⟩
      rw [loop_eq, hf]
      simp only [Rec.cells, Rec.toV, rowV_nil] at *
      simp [l_redo_Read_0, c1, ha, bytesV_len, etk, e1, hdec, readF]
    | succ k ih =>
      intro at0 out vars m' ha hk ho hf
      have hdec := fun m => run_redo_Decode nl (b.drop at0) (by rw [List.length_drop]; omega) m
      have c1 : (at0 : Int) ≤ (b.length : Int) := by omega
      have e1 : (bytesV b).drop at0 = bytesV (b.drop at0) := bytesV_drop _ _
      have etk : List.take b.length (bytesV b) = bytesV b := by rw [bytesV_take, List.take_length]
      have hsz := decode_size.size (b.drop at0)
      simp only [readF]
      generalize decode (b.drop at0) = D at *
      obtain ⟨x, n, e⟩ := D
      simp only at hdec hsz ⊢
      by_cases he : e = 0
      · subst he
        obtain ⟨n, rfl, h7, hn⟩ := hsz rfl
        rw [List.length_drop] at hn
        have w1 : IntKind.i64.wrap ((at0 : Int) + n) = ((at0 + n : Nat) : Int) := by rw [wrap64_id (by omega) (by omega)]; omega
        have c2 : (out.length + 1) * 112 ≤ 140737488355328 := by omega
        have c3 : out.length + 1 ≤ 140737488355328 := by omega
        have hr : rnd (callL MM) m.length (m.length + 1) [1, 2, 5, 6, 7, 8] l_redo_Read_0 [.sl nl 1 (bytesV b), .undef, .undef, .gs m.length out.length, .int .i64 at0, .undef, .undef, .undef, .undef] (.buf 9 true (out.map Rec.toV) :: m) =
            some ([.sl nl 1 (bytesV b), .undef, .undef, .gs m.length (out ++ [x]).length, .int .i64 ((at0 + n : Nat) : Int), .undef, .undef, .undef, .undef], .buf 9 true ((out ++ [x]).map Rec.toV) :: m) := by
          simp only [Rec.cells, Rec.toV, rowV_nil] at *
          simp [l_redo_Read_0, c1, ha, bytesV_len, etk, e1, hdec, w1, c2, c3, Rec.toV, Rec.cells]
        obtain ⟨v', m2, h3, h4⟩ := rnd_some hr
        obtain ⟨w5, w6, w7, w8, o, h5⟩ := ih (at0 + n) (out ++ [x]) v' m2 (by omega) (by omega) (by simp; omega) h4
        refine ⟨w5, w6, w7, w8, o, ?_⟩
        rw [loop_next hf h3, h5, if_neg (by simp), Int.toNat_natCast, List.drop_drop]
        simp [List.append_assoc, Nat.add_assoc]
      · have hne := ibne he
        refine ⟨.ptr (m.length + 1) 0, .int .i64 n, .int .i64 e, .bool true, .cells x.cells, ?_⟩
        rw [loop_eq, hf, if_pos he]
        simp only [Rec.cells, Rec.toV, rowV_nil] at *
        simp [l_redo_Read_0, c1, ha, bytesV_len, etk, e1, hdec, hne]
  obtain ⟨w5, w6, w7, w8, o, hq⟩ := loop b.length 0 [] [.sl nl 1 (bytesV b), .sl true 0 [], .int .i64 0, .gs m.length 0, .int .i64 0, .undef, .undef, .undef, .undef] (.buf 9 true [] :: m) (by omega) (by omega) (by simp) (by simp)
  simp only [List.nil_append, List.drop_zero, Nat.zero_add] at hq
  generalize readF b.length b = R at *
  obtain ⟨l, k⟩ := R
  have hlk : look (.buf 9 true (l.map Rec.toV) :: m) m.length = some (.buf 9 true (l.map Rec.toV)) := look_cons_new
  simp only at hq ⊢
  simp [vf_redo_Read, hq, recsR, List.take_of_length_le]
  cases l <;> rfl

/-- ref20.Read. -/
theorem run_ref20_Read (nl : Bool) (b : List UInt8) (hb : b.length < 1000000) (m : Mem) :
    callL MM F.ref20_Read [.sl nl 1 (bytesV b)] m = some (.ret [recsR (readF b.length b).1, .int .i64 (readF b.length b).2] m) := by
  rw [call_ref20_Read _ _ rfl]
  have loop : ∀ (k at0 : Nat) (out : List Rec) (vars : List V) (m' : Mem), at0 ≤ b.length → b.length - at0 ≤ k → out.length ≤ at0 →
      fresh m.length (m.length + 1) [1, 2, 5, 6, 7, 8] vars m' = some ([.sl nl 1 (bytesV b), .undef, .undef, .gs m.length out.length, .int .i64 at0, .undef, .undef, .undef, .undef], .buf 9 true (out.map Rec.toV) :: m) →
      ∃ w5 w6 w7 w8 o, loopL (callL MM) m.length (m.length + 1) [1, 2, 5, 6, 7, 8] l_ref20_Read_0 vars m' =
        some (.ret [.sl nl 1 (bytesV b), .gs m.length (out ++ (readF k (b.drop at0)).1).length, .int .i64 (at0 + (readF k (b.drop at0)).2 : Nat), .gs m.length (out ++ (readF k (b.drop at0)).1).length, .int .i64 (at0 + (readF k (b.drop at0)).2 : Nat), w5, w6, w7, w8] (o :: .buf 9 true ((out ++ (readF k (b.drop at0)).1).map Rec.toV) :: m)) := by
    intro k
    induction k with
    | zero =>
      intro at0 out vars m' ha hk ho hf
      have hd : b.drop at0 = [] := List.drop_eq_nil_of_le (by omega)
      have hdec := fun m => run_ref20_Decode nl (b.drop at0) (by rw [List.length_drop]; omega) m
      rw [hd, bytesV_nil] at hdec
      have hdn : qDecode [] = ({ op := 0 }, 0, 31) := rfl
      rw [hdn] at hdec
      have c1 : (at0 : Int) ≤ (b.length : Int) := by omega
      have e1 : (bytesV b).drop at0 = [] := by rw [bytesV_drop, hd]; rfl
      have etk : List.take b.length (bytesV b) = bytesV b := by rw [bytesV_take, List.take_length]
      rw [hd]
      refine ⟨.ptr (m.length + 1) 0, .int .i64 0, .int .i64 31, .bool true, .cells (Rec.cells { op := 0 }), ?_⟩
      rw [loop_eq, hf]
      simp only [Rec.cells, Rec.toV, rowV_nil] at *
      simp [l_ref20_Read_0, c1, ha, bytesV_len, etk, e1, hdec, readF]
    | succ k ih =>
      intro at0 out vars m' ha hk ho hf
      have hdec : ∀ m, callL MM F.ref20_Decode [.sl nl 1 (bytesV (b.drop at0))] m = _ := fun m => run_ref20_Decode nl (b.drop at0) (by rw [List.length_drop]; omega) m
      have c1 : (at0 : Int) ≤ (b.length : Int) := by omega
      have e1 : (bytesV b).drop at0 = bytesV (b.drop at0) := bytesV_drop _ _
      have etk : List.take b.length (bytesV b) = bytesV b := by rw [bytesV_take, List.take_length]
      have hsz := decode_size.size (b.drop at0)
      simp only [readF]
      rw [qDecode_eq] at hdec
      generalize decode (b.drop at0) = D at *
      obtain ⟨x, n, e⟩ := D
      simp only at hdec hsz ⊢
      by_cases he : e = 0
      · subst he
        obtain ⟨n, rfl, h7, hn⟩ := hsz rfl
        rw [List.length_drop] at hn
        have w1 : IntKind.i64.wrap ((at0 : Int) + n) = ((at0 + n : Nat) : Int) := by rw [wrap64_id (by omega) (by omega)]; omega
        have c2 : (out.length + 1) * 112 ≤ 140737488355328 := by omega
        have c3 : out.length + 1 ≤ 140737488355328 := by omega
        have hr : rnd (callL MM) m.length (m.length + 1) [1, 2, 5, 6, 7, 8] l_ref20_Read_0 [.sl nl 1 (bytesV b), .undef, .undef, .gs m.length out.length, .int .i64 at0, .undef, .undef, .undef, .undef] (.buf 9 true (out.map Rec.toV) :: m) =
            some ([.sl nl 1 (bytesV b), .undef, .undef, .gs m.length (out ++ [x]).length, .int .i64 ((at0 + n : Nat) : Int), .undef, .undef, .undef, .undef], .buf 9 true ((out ++ [x]).map Rec.toV) :: m) := by
          simp only [Rec.cells, Rec.toV, rowV_nil] at *
          simp [l_ref20_Read_0, c1, ha, bytesV_len, etk, e1, hdec, w1, c2, c3, Rec.toV, Rec.cells]
        obtain ⟨v', m2, h3, h4⟩ := rnd_some hr
        obtain ⟨w5, w6, w7, w8, o, h5⟩ := ih (at0 + n) (out ++ [x]) v' m2 (by omega) (by omega) (by simp; omega) h4
        refine ⟨w5, w6, w7, w8, o, ?_⟩
        rw [loop_next hf h3, h5, if_neg (by simp), Int.toNat_natCast, List.drop_drop]
        simp [List.append_assoc, Nat.add_assoc]
      · have hne := ibne he
        refine ⟨.ptr (m.length + 1) 0, .int .i64 n, .int .i64 e, .bool true, .cells x.cells, ?_⟩
        rw [loop_eq, hf, if_pos he]
        simp only [Rec.cells, Rec.toV, rowV_nil] at *
        simp [l_ref20_Read_0, c1, ha, bytesV_len, etk, e1, hdec, hne]
  obtain ⟨w5, w6, w7, w8, o, hq⟩ := loop b.length 0 [] [.sl nl 1 (bytesV b), .sl true 0 [], .int .i64 0, .gs m.length 0, .int .i64 0, .undef, .undef, .undef, .undef] (.buf 9 true [] :: m) (by omega) (by omega) (by simp) (by simp)
  simp only [List.nil_append, List.drop_zero, Nat.zero_add] at hq
  generalize readF b.length b = R at *
  obtain ⟨l, k⟩ := R
  have hlk : look (.buf 9 true (l.map Rec.toV) :: m) m.length = some (.buf 9 true (l.map Rec.toV)) := look_cons_new
  simp only at hq ⊢
  simp [vf_ref20_Read, hq, recsR, List.take_of_length_le]
  cases l <;> rfl
end Go.Vm.Redo
-- RD3: Walks: Cut, SameAll, Few.
set_option maxRecDepth 100000
namespace Go.Vm.Redo
open Go Go.Vm

/-- What is returned for records that were gathered, or none. -/
def recsO : Option (List Rec) → V
  | none => .sl true 0 []
  | some l => recsR l
def cut (b : List UInt8) (n : Int) : Option (List Rec) × Int := if n < 0 ∨ (b.length : Int) < n then (none, 21) else (some (readF n.toNat (b.take n.toNat)).1, 0)

theorem run_redo_Cut (nl : Bool) (b : List UInt8) (hb : b.length < 1000000) (n : Int) (m : Mem) : callL MM F.redo_Cut [.sl nl 1 (bytesV b), .int .i64 n] m = some (.ret [recsO (cut b n).1, .int .i64 (cut b n).2] m) := by
  rw [call_redo_Cut _ _ rfl]
  unfold cut
  by_cases h0 : n < 0
  · simp [vf_redo_Cut, h0, recsO]
  · by_cases h1 : (b.length : Int) < n
    · simp [vf_redo_Cut, h0, h1, recsO, bytesV_len]
    · obtain ⟨k, rfl⟩ : ∃ k : Nat, n = k := ⟨n.toNat, by omega⟩
      have hk : k ≤ b.length := by omega
      have hr := run_redo_Read nl (b.take k) (by rw [List.length_take]; omega) m
      have hl : (b.take k).length = k := by rw [List.length_take]; omega
      rw [hl] at hr
      simp [vf_redo_Cut, h0, h1, recsO, recsR, bytesV_len, bytesV_take, hr, hk]
theorem run_ref20_Cut (nl : Bool) (b : List UInt8) (hb : b.length < 1000000) (n : Int) (m : Mem) : callL MM F.ref20_Cut [.sl nl 1 (bytesV b), .int .i64 n] m = some (.ret [recsO (cut b n).1, .int .i64 (cut b n).2] m) := by
  rw [call_ref20_Cut _ _ rfl]
  unfold cut
  by_cases h0 : n < 0
  · simp [vf_ref20_Cut, h0, recsO]
  · by_cases h1 : (b.length : Int) < n
    · simp [vf_ref20_Cut, h0, h1, recsO, bytesV_len]
    · obtain ⟨k, rfl⟩ : ∃ k : Nat, n = k := ⟨n.toNat, by omega⟩
      have hk : k ≤ b.length := by omega
      have hr := run_ref20_Read nl (b.take k) (by rw [List.length_take]; omega) m
      have hl : (b.take k).length = k := by rw [List.length_take]; omega
      rw [hl] at hr
      simp [vf_ref20_Cut, h0, h1, recsO, recsR, bytesV_len, bytesV_take, hr, hk]

/-- All the same. -/
def sameAll (a b : List Rec) : Bool := decide (a.length = b.length) && (List.zip a b).all fun p => sameR p.1 p.2
theorem run_ref20_SameAll (nl nl' : Bool) (sz sz' : Nat) (a b : List Rec) (hs : sz = 9 ∨ a = []) (hs' : sz' = 9 ∨ b = []) (hl : a.length < 1000000) (hf : ∀ x ∈ a, x.row.vals.length < 4611686018427387904) (m : Mem) :
    callL MM F.ref20_SameAll [.sl nl sz (a.map Rec.toV), .sl nl' sz' (b.map Rec.toV)] m = some (.ret [.bool (sameAll a b)] m) := by
  rw [call_ref20_SameAll _ _ rfl]
  unfold sameAll
  by_cases hab : a.length = b.length
  · have hzl : (List.zip a b).length = a.length := by simp [hab]
    have hq := loop_scan (cf := callL MM) (b := m.length) (L := m.length) (kill := [2, 3, 4, 7, 8]) (c := l_ref20_SameAll_0) (List.zip a b) (fun p => sameR p.1 p.2)
      (fun i => [.sl nl sz (a.map Rec.toV), .sl nl' sz' (b.map Rec.toV), .undef, .undef, .undef, .int .i64 a.length, .int .i64 i, .undef, .undef]) (fun _ => m)
      (.exit 0 [.sl nl sz (a.map Rec.toV), .sl nl' sz' (b.map Rec.toV), .undef, .undef, .undef, .int .i64 a.length, .int .i64 a.length, .bool false, .undef] m)
      (fun i _ => .ret [.sl nl sz (a.map Rec.toV), .sl nl' sz' (b.map Rec.toV), .bool false, .int .i64 i, .undef, .int .i64 a.length, .int .i64 i, .bool true, .bool true] m)
      ⟨by rw [hzl]; simp [l_ref20_SameAll_0], rfl⟩
      (fun i p hp hi hpp => by
        obtain ⟨v, w⟩ := p
        rw [hzl] at hi
        obtain ⟨h1, h2⟩ := List.getElem?_zip_eq_some.1 hp
        obtain rfl : sz = 9 := by
          rcases hs with h | h
          · exact h
          · rw [h] at h1; simp at h1
        obtain rfl : sz' = 9 := by
          rcases hs' with h | h
          · exact h
          · rw [h] at h2; simp at h2
        have he := run_ref20_Same v w (hf v (List.mem_of_getElem? h1)) m
        rw [hpp] at he
        simp only [Rec.toV, Rec.cells] at he
        simp [l_ref20_SameAll_0, int_lt hi, h1, h2, Rec.toV, Rec.cells, he, wrap_succ (show i < 4611686018427387904 by omega)])
      (fun i p hp hi hpp => by
        obtain ⟨v, w⟩ := p
        rw [hzl] at hi
        obtain ⟨h1, h2⟩ := List.getElem?_zip_eq_some.1 hp
        obtain rfl : sz = 9 := by
          rcases hs with h | h
          · exact h
          · rw [h] at h1; simp at h1
        obtain rfl : sz' = 9 := by
          rcases hs' with h | h
          · exact h
          · rw [h] at h2; simp at h2
        have he := run_ref20_Same v w (hf v (List.mem_of_getElem? h1)) m
        rw [hpp] at he
        simp only [Rec.toV, Rec.cells] at he
        exact ⟨by simp [l_ref20_SameAll_0, int_lt hi, h1, h2, Rec.toV, Rec.cells, he], rfl⟩)
      (vars := [.sl nl sz (a.map Rec.toV), .sl nl' sz' (b.map Rec.toV), .bool false, .undef, .bool false, .int .i64 a.length, .int .i64 0, .undef, .undef]) (m := m) (by simp)
    rcases hq with ⟨h1, h2⟩ | ⟨h1, i, p, _, _, _, h2⟩
    · rw [h1]
      simp [vf_ref20_SameAll, hab] at h2 ⊢
      simp [h2]
    · rw [h1]
      simp [vf_ref20_SameAll, hab] at h2 ⊢
      simp [h2]
  · have hb : ((a.length : Int) != b.length) = true := ibne (by omega)
    simp [vf_ref20_SameAll, hab, hb]

theorem run_law20_long (nl : Bool) (b : List UInt8) (m : Mem) : callL MM F.law20_long [.sl nl 1 (bytesV b)] m = some (.ret [.bool (decide (12000 < b.length))] m) := by
  rw [call_law20_long _ _ rfl]
  have : decide ((12000 : Int) < (b.length : Int)) = decide (12000 < b.length) := decide_eq_decide.2 (by omega)
  simp [vf_law20_long, bytesV_len, this]

/-- How many parts, reckoned until they are too many. -/
def fewGo : List Rec → Nat → Nat
  | [], n => n
  | x :: l, n => if n < 3000 then fewGo l (n + (x.row.vals.length + x.text.length / 100)) else n
def few (l : List Rec) : Bool := decide (fewGo l l.length < 3000)
theorem row_len (x : RowR) : ∃ nl sz, x.toV = .sl nl sz (x.vals.map Val.toV) := by
  obtain ⟨nl, sz, h, _⟩ := x.shape
  exact ⟨nl, sz, h⟩
theorem run_ref20_Few (nl : Bool) (sz : Nat) (l : List Rec) (hs : sz = 9 ∨ l = []) (hl : l.length ≤ 140737488355328) (hf : ∀ x ∈ l, x.Fit) (m : Mem) : callL MM F.ref20_Few [.sl nl sz (l.map Rec.toV)] m = some (.ret [.bool (few l)] m) := by
  rw [call_ref20_Few _ _ rfl]
  have hq : ∀ (rest : List Rec) (i n : Nat) (u1 u4 : V), l.drop i = rest → i ≤ l.length → (n < 3000 ∨ n ≤ 2 * 140737488355328 + 3000) →
      ∃ z : Int, loopL (callL MM) m.length m.length [1, 4] l_ref20_Few_0 [.sl nl sz (l.map Rec.toV), u1, .int .i64 n, .int .i64 i, u4] m = some (.exit 0 [.sl nl sz (l.map Rec.toV), .undef, .int .i64 (fewGo rest n), .int .i64 z, .bool false] m) := by
    intro rest
    induction rest with
    | nil =>
      intro i n u1 u4 hd hi hn
      have e : i = l.length := by
        have : (l.drop i).length = 0 := by rw [hd]; rfl
        rw [List.length_drop] at this; omega
      subst e
      exact ⟨l.length, loop_end (fresh_flat rfl (by simp)) (by simp [l_ref20_Few_0, fewGo]) rfl⟩
    | cons x rest ih =>
      intro i n u1 u4 hd hi hn
      have hx : l[i]? = some x := by
        have : (l.drop i)[0]? = some x := by rw [hd]; rfl
        simpa using this
      have hlt : i < l.length := (List.getElem?_eq_some_iff.1 hx).1
      by_cases hn3 : n < 3000
      · have h3 : (n : Int) < 3000 := by omega
        obtain rfl : sz = 9 := by
          rcases hs with h | h
          · exact h
          · rw [h] at hx; simp at hx
        have hfx := hf x (List.mem_of_getElem? hx)
        obtain ⟨nl2, sz2, hrow⟩ := row_len x.row
        have f1 := hfx.row
        have f2 := hfx.text
        have w1 : (x.text.length : Int).tdiv 100 = ((x.text.length / 100 : Nat) : Int) := by
          rw [Int.tdiv_eq_ediv_of_nonneg (by omega)]; omega
        have w2 : IntKind.i64.wrap ((x.text.length / 100 : Nat) : Int) = ((x.text.length / 100 : Nat) : Int) := wrap64_id (by omega) (by omega)
        have w3 : IntKind.i64.wrap ((x.row.vals.length : Int) + ((x.text.length / 100 : Nat) : Int)) = ((x.row.vals.length + x.text.length / 100 : Nat) : Int) := by rw [wrap64_id (by omega) (by omega)]; omega
        have w4 : IntKind.i64.wrap ((n : Int) + ((x.row.vals.length + x.text.length / 100 : Nat) : Int)) = ((n + (x.row.vals.length + x.text.length / 100) : Nat) : Int) := by rw [wrap64_id (by omega) (by omega)]; omega
        have w5 := wrap_succ (show i < 4611686018427387904 by omega)
        obtain ⟨z, h4⟩ := ih (i + 1) (n + (x.row.vals.length + x.text.length / 100)) .undef .undef (by rw [← List.drop_drop, hd]; rfl) (by omega) (.inr (by omega))
        refine ⟨z, ?_⟩
        have hr : rnd (callL MM) m.length m.length [1, 4] l_ref20_Few_0 [.sl nl 9 (l.map Rec.toV), .undef, .int .i64 n, .int .i64 i, .undef] m = some ([.sl nl 9 (l.map Rec.toV), .undef, .int .i64 (n + (x.row.vals.length + x.text.length / 100) : Nat), .int .i64 ((i + 1 : Nat) : Int), .undef], m) := by
          generalize hz4 : ((n + (x.row.vals.length + x.text.length / 100) : Nat) : Int) = z4 at *
          generalize hz3 : ((x.row.vals.length + x.text.length / 100 : Nat) : Int) = z3 at *
          generalize hz2 : ((x.text.length / 100 : Nat) : Int) = z2 at *
          simp [l_ref20_Few_0, int_lt hlt, h3, hx, Rec.toV, Rec.cells, hrow, w1, w2, w3, w4, w5]
        obtain ⟨v', m', h5, h6⟩ := rnd_some hr
        rw [loop_next (fresh_flat rfl (by simp)) h5]
        rw [loop_eq] at h4 ⊢
        rw [fresh_flat rfl (by simp)] at h4
        rw [h6]
        simp only [fewGo, if_pos hn3]
        exact h4
      · have h3 : ¬ (n : Int) < 3000 := by omega
        refine ⟨i, loop_end (fresh_flat rfl (by simp)) ?_ rfl⟩
        simp [l_ref20_Few_0, int_lt hlt, h3, fewGo, hn3]
  obtain ⟨z, h⟩ := hq l 0 l.length (.bool false) .undef rfl (by omega) (.inr (by omega))
  have h : loopL (callL MM) m.length m.length [1, 4] l_ref20_Few_0 [.sl nl sz (l.map Rec.toV), .bool false, .int .i64 l.length, .int .i64 0, .undef] m = _ := h
  have hd : decide ((fewGo l l.length : Int) < 3000) = few l := decide_eq_decide.2 (by omega)
  simp [vf_ref20_Few, h, hd]
end Go.Vm.Redo
