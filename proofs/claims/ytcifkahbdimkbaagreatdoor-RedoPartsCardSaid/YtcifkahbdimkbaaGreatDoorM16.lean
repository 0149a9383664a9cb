/- Part 16 of the ground under the rows: A law that answers 'true' in the pure machine answers it in the program: the contract of its row. -/
import Derived.Test.YtcifkahbdimkbaaGreatDoorM15
import Derived.Carry
import Derived.ChangeSame
import Derived.Handed
set_option linter.unusedSimpArgs false
set_option linter.unusedVariables false
-- VmLaw: A law that answers 'true' in the pure machine answers it in the program: the contract of its row.
namespace Go.Vm
open Go Go.RowKit Go.ChangeShapes

def typedL (P : Program) : List TypeId → List V → Prop
  | [], [] => True
  | t :: ts, x :: xs => (∃ n, typedV P n t x) ∧ typedL P ts xs
  | _, _ => False

section
variable {P : Program} {W : World} {H : Type} {enc : TypeId × Value → H} {Ts : List TypeId}

theorem valOf_okWide {w : World} {base : Nat} {t : TypeId} {v : Value} (h : Value.okWide P w .any base t v) (hok : okTypes P Ts = true) (ht : t ∈ Ts) (hs : v.cells.toList.length = P.cellsOf t) : valOf P t v.cells.toList = v := by
  have hk := okTypes_get hok ht
  unfold Value.okWide at h
  unfold valOf aggT
  split at h
  · rename_i fs hu
    obtain ⟨cs, rfl, _⟩ := h
    simp [hu, Value.cells]
  · rename_i k e hu
    rw [hu] at hk; cases hk
  · rename_i h1 h2
    cases hu : P.underlying t with
    | none => rw [hu] at hk; cases hk
    | some D =>
      cases D <;> first
        | exact absurd hu (h1 _)
        | exact absurd hu (h2 _ _)
        | (rw [hu] at hk; cases hk; done)
        | (cases v <;> first | rfl | (unfold Cell.okWide at h; rw [hu] at h; simp [Cell.ok, hu] at h))

theorem open_args (hok : okTypes P Ts = true) : ∀ (ts : List TypeId) (vs : List Value) (ds : List (DataW H)) (p : List MemPlace) (base : Nat), DataW.TrodAll enc P W 0 (fun _ => true) true ts vs ds p →
    (∀ (j : Nat) t v, ts[j]? = some t → vs[j]? = some v → Value.okWide P W .any base t v) → (∀ t ∈ ts, t ∈ Ts) → (∀ k ∈ DataW.weightsEach P ts ds, k ≤ reachBytes) → ∃ xs, RepCL (phi0 W) xs vs ∧ typedL P ts xs
  | [], [], ds, p, base, _, _, _, _ => ⟨[], RepCL.nil, trivial⟩
  | t :: ts, v :: vs, d :: ds, p, base, h, hv, hT, hw => by
    obtain ⟨p1, p2, ⟨fuel, h1⟩, h2, _⟩ := h
    obtain ⟨x, hx⟩ := open_trod hok fuel t _ d p1 (hT t (by simp)) h1 (fun k hk => hw k (by simp only [DataW.weightsEach, List.mem_append]; exact .inl hk))
    obtain ⟨xs, k1, k2⟩ := open_args hok ts vs ds p2 base h2 (fun j t v h3 h4 => hv (j + 1) t v (by simpa using h3) (by simpa using h4)) (fun t ht => hT t (by simp [ht])) (fun k hk => hw k (by simp only [DataW.weightsEach, List.mem_append]; exact .inr hk))
    have hl : v.cells.toList.length = P.cellsOf t := by rw [← hx.rep.length]; exact hx.len
    have e := valOf_okWide (hv 0 t v rfl rfl) hok (hT t (by simp)) hl
    refine ⟨x :: xs, RepCL.cons ?_ k1, ⟨fuel, hx.typed⟩, k2⟩
    have := hx.value.1
    rwa [e] at this
  | [], _ :: _, _, _, _, h, _, _, _ => h.elim
  | _ :: _, [], _, _, _, h, _, _, _ => h.elim
  | _ :: _, _ :: _, [], _, _, h, _, _, _ => h.elim

theorem weights_append {X : List TypeId} {Y : List (DataW H)} {k : Nat} : ∀ {ts : List TypeId} {ds : List (DataW H)}, k ∈ DataW.weightsEach P ts ds → k ∈ DataW.weightsEach P (ts ++ X) (ds ++ Y)
  | [], _, h => by simp [DataW.weightsEach] at h
  | _ :: _, [], h => by simp [DataW.weightsEach] at h
  | t :: ts, d :: ds, h => by
    simp only [List.cons_append, DataW.weightsEach, List.mem_append] at h ⊢
    rcases h with h | h
    · exact .inl h
    · exact .inr (weights_append h)

theorem inv_start (W : World) : Inv W (phi0 W) [] [] W := by
  refine ⟨rfl, Below.refl _ _, fun _ _ h => h, ?_, ?_, ?_, ?_, ?_, ?_⟩ <;> intros <;> simp_all [look]

/-- A call at the start. -/
theorem calls_true {A : Ann} {M : Machine'} (hf : P.follows .mixedOrders = true) (hM : MachOK P W A M) (hg : Globs A (phi0 W)) {f : FuncId} {xs : List V} {args : List Value} (hr : RepCL (phi0 W) xs args)
    (h : callL M f xs [] = some (.ret [.bool true] [])) : Calls P f args.toArray W fun e W' => e = .returned (.bool true) ∧ Below W.heap.size W W' := by
  obtain ⟨_, hok⟩ := callL_ok hf hM f xs [] _ h
  refine (hok (phi0 W) [] W args (inv_start W) hg (RepCL.rep _ _ hr)).mono fun e W' ho => ?_
  obtain ⟨cv, φ', g', rfl, hgo, hrep⟩ := ho
  refine ⟨?_, hgo.inv.base⟩
  have : cv = .bool true := hrep
  rw [this]

/-- The contract of a law: it answers true, and its arguments read as they did. -/
theorem law_post {fn : Func} {f : FuncId} {s : ChangeSpec} {apart fresh handsOn : Bool} {tb : TypeId} (hlaid : laidOutB P = true) (hok : okTypes P Ts = true)
    (hTs : ∀ t ∈ fn.params.toList, t ∈ Ts ∧ P.readableRec t = true ∧ t < P.types.size) (hres : fn.resultTypes = #[tb]) (htb : P.underlying tb = some .bool) (hvars : s.vars = [])
    (hfn : ∀ ds, s.fn H ds = { results := [.lit (.bool true)], args := ds } ∨ ds.length ≠ fn.params.size) {base : Nat} {args : Array Value}
    (hcall : ∀ xs, RepCL (phi0 W) xs args.toList → typedL P fn.params.toList xs → Calls P f args W fun e W' => e = .returned (.bool true) ∧ Below W.heap.size W W')
    {ds gs : List (DataW H)} {before : List MemPlace} (hval : ∀ (j : Nat) t v, fn.params[j]? = some t → args[j]? = some v → Value.okWide P W .any base t v)
    (hW : DataW.Whole enc P fn.params.toList s.vars apart W args.toList ds gs before)
    (hsz : (DataW.weightsEach P (fn.params.toList ++ s.plain.varTypes P) (ds ++ gs)).all (· ≤ reachBytes) = true) :
    Calls P f args W fun e W' => ∃ v, e = .returned v ∧ s.post enc P fn apart fresh handsOn false W args v W' := by
  have hW' := hW
  obtain ⟨p, q, hA, hV, rfl, hz, hn⟩ := hW
  have hwt : ∀ k ∈ DataW.weightsEach P fn.params.toList ds, k ≤ reachBytes := fun k hk => by simpa using List.all_eq_true.1 hsz k (weights_append hk)
  obtain ⟨xs, h1, h2⟩ := open_args hok fn.params.toList args.toList ds p base hA (fun j t v h3 h4 => hval j t v (by simpa using h3) (by simpa using h4)) (fun t ht => (hTs t ht).1) hwt
  have hc := hcall xs h1 h2
  refine hc.mono fun e W' ⟨he, hb⟩ => ⟨.bool true, he, ?_⟩
  rw [hvars] at hV
  obtain ⟨rfl, rfl⟩ : gs = [] ∧ q = [] := by
    cases gs with
    | nil => exact ⟨rfl, hV⟩
    | cons g r => exact hV.elim
  have hlen : ∀ {ts : List TypeId} {vs : List Value} {ds : List (DataW H)} {p : List MemPlace}, DataW.TrodAll enc P W 0 (fun _ => true) true ts vs ds p → ds.length = ts.length := by
    intro ts
    induction ts with
    | nil => intro vs ds p h; cases vs <;> cases ds <;> first | rfl | exact h.elim
    | cons t ts ih =>
      intro vs ds p h
      cases vs <;> cases ds <;> first | exact h.elim | skip
      obtain ⟨_, _, _, h2, _⟩ := h
      simp [ih h2]
  have hfn' : s.fn H (ds ++ []) = { results := [.lit (.bool true)], args := ds } := by
    rw [List.append_nil]
    rcases hfn ds with h | h
    · exact h
    · exact absurd (by rw [hlen hA]; simp) h
  have keep : ∀ (ts : List TypeId) (vs : List Value) (ds : List (DataW H)) (p : List MemPlace), (∀ t ∈ ts, P.readableRec t = true ∧ t < P.types.size) → (∀ x ∈ p, x.block < W.heap.size) → DataW.TrodAll enc P W 0 (fun _ => true) true ts vs ds p →
      DataW.TrodAll enc P W' 0 (fun b => decide (b < W.heap.size)) true ts vs ds p := by
    intro ts
    induction ts with
    | nil => intro vs ds p _ _ h; cases vs <;> cases ds <;> first | exact h | exact h.elim
    | cons t ts ih =>
      intro vs ds p hT hlt h
      cases vs <;> cases ds <;> first | exact h.elim | skip
      obtain ⟨p1, p2, h3, h4, rfl⟩ := h
      exact ⟨p1, p2, Below.trod hlaid (hT t (by simp)).1 (hT t (by simp)).2 h3 hb (fun x hx => hlt x (by simp [hx])), ih _ _ _ (fun t ht => hT t (by simp [ht])) (fun x hx => hlt x (by simp [hx])) h4, rfl⟩
  refine ⟨ds, [], p ++ [], [], p, [], hW', ?_, ?_, ?_, hb.frame _, fun h => by cases h⟩
  · rw [hfn', hres]
    exact trodAll_mk1 (shut_bool htb true)
  · rw [hfn']
    exact keep _ _ _ _ (fun t ht => (hTs t ht).2) (fun x hx => hW'.lt x (by simp [hx])) hA
  · rw [hfn', hvars]; rfl
/-- The contract of a law whose function answers true in the pure machine. -/
theorem law_contract {A : Ann} {M : Machine'} {fn : Func} {f : FuncId} {s : ChangeSpec} {apart fresh handsOn : Bool} {tb : TypeId} (hlaid : laidOutB P = true) (hf : P.follows .mixedOrders = true) (hok : okTypes P Ts = true)
    (hTs : ∀ t ∈ fn.params.toList, t ∈ Ts ∧ P.readableRec t = true ∧ t < P.types.size) (hres : fn.resultTypes = #[tb]) (htb : P.underlying tb = some .bool) (hvars : s.vars = [])
    (hfn : ∀ ds, s.fn H ds = { results := [.lit (.bool true)], args := ds } ∨ ds.length ≠ fn.params.size) (hM : MachOK P W A M) (hg : Globs A (phi0 W))
    (hlaw : ∀ xs, typedL P fn.params.toList xs → callL M f xs [] = some (.ret [.bool true] []))
    {base : Nat} {args : Array Value} {ds gs : List (DataW H)} {before : List MemPlace} (hval : ∀ (j : Nat) t v, fn.params[j]? = some t → args[j]? = some v → Value.okWide P W .any base t v)
    (hW : DataW.Whole enc P fn.params.toList s.vars apart W args.toList ds gs before)
    (hsz : (DataW.weightsEach P (fn.params.toList ++ s.plain.varTypes P) (ds ++ gs)).all (· ≤ reachBytes) = true) :
    Calls P f args W fun e W' => ∃ v, e = .returned v ∧ s.post enc P fn apart fresh handsOn false W args v W' :=
  law_post hlaid hok hTs hres htb hvars hfn (fun xs h1 h2 => by
    have hc := calls_true hf hM hg h1 (hlaw xs h2)
    rwa [Array.toArray_toList] at hc) hval hW hsz
end
end Go.Vm
-- RM0: From typed values to records.
set_option maxRecDepth 100000
namespace Go.Vm.Redo
open Go Go.Vm Go.Proofs

theorem reach_eq : reachBytes = 140737488351232 := by decide
theorem c54 : Tryz.prog.cellsOf 54 = 3 := by kernel_rfl
theorem c26 : Tryz.prog.cellsOf 26 = 9 := by kernel_rfl
theorem b54 : Tryz.prog.bytesOf 54 = 32 := by kernel_rfl
theorem b26 : Tryz.prog.bytesOf 26 = 112 := by kernel_rfl
theorem a22 : aggT Tryz.prog 22 = false := by kernel_rfl
theorem a52 : aggT Tryz.prog 52 = false := by kernel_rfl
theorem a3 : aggT Tryz.prog 3 = false := by kernel_rfl
theorem a9 : aggT Tryz.prog 9 = false := by kernel_rfl
theorem a24 : aggT Tryz.prog 24 = false := by kernel_rfl

theorem part_get {cs : List V} {o : Nat} {y : V} (h : part cs o none = some y) : cs[o]? = some y := h

theorem typed_int {n : Nat} {t : TypeId} {x : V} (hu : Tryz.prog.underlying t = some (.int .i64)) (h : typedV Tryz.prog n t x) : ∃ i, x = .int .i64 i ∧ -9223372036854775808 ≤ i ∧ i ≤ 9223372036854775807 := by
  cases n with
  | zero => exact h.elim
  | succ n =>
    simp only [typedV, hu] at h
    obtain ⟨i, rfl, hw⟩ := h
    refine ⟨i, rfl, ?_⟩
    have : IntKind.i64.min ≤ i ∧ i ≤ IntKind.i64.max := by simpa [Lit.wf] using hw
    have e1 : IntKind.i64.min = -9223372036854775808 := by decide
    have e2 : IntKind.i64.max = 9223372036854775807 := by decide
    omega
theorem typed_str {n : Nat} {x : V} (h : typedV Tryz.prog n 9 x) : ∃ s, x = .str s ∧ s.length ≤ 140737488351232 := by
  cases n with
  | zero => exact h.elim
  | succ n =>
    simp only [typedV, Tryz.underlying9] at h
    obtain ⟨s, rfl, hw⟩ := h
    exact ⟨s, rfl, by rw [reach_eq] at hw; exact hw⟩
theorem typed_val {n : Nat} {x : V} (h : typedV Tryz.prog n 54 x) : ∃ v : Val, x = v.toV ∧ v.t.length ≤ 140737488351232 := by
  cases n with
  | zero => exact h.elim
  | succ n =>
    simp only [typedV, Tryz.underlying54] at h
    obtain ⟨cs, rfl, hlen, hf⟩ := h
    rw [c54] at hlen
    match cs, hlen with
    | [a, b, c], _ =>
      simp only [List.forall_mem_cons, List.not_mem_nil, false_imp_iff, implies_true, and_true, a52, a3, a9, Bool.false_eq_true, if_false] at hf
      obtain ⟨⟨y1, p1, t1⟩, ⟨y2, p2, t2⟩, y3, p3, t3⟩ := hf
      obtain rfl : a = y1 := Option.some.inj p1
      obtain rfl : b = y2 := Option.some.inj p2
      obtain rfl : c = y3 := Option.some.inj p3
      obtain ⟨k, rfl, _⟩ := typed_int Tryz.underlying52 t1
      obtain ⟨m, rfl, _⟩ := typed_int Tryz.underlying3 t2
      obtain ⟨s, rfl, hs⟩ := typed_str t3
      exact ⟨⟨k, m, s⟩, rfl, hs⟩
theorem typed_vals {n : Nat} : ∀ {xs : List V}, (∀ y ∈ xs, typedV Tryz.prog n 54 y) → ∃ l : List Val, xs = l.map Val.toV ∧ ∀ v ∈ l, v.t.length ≤ 140737488351232
  | [], _ => ⟨[], rfl, fun v h => by cases h⟩
  | x :: xs, h => by
    obtain ⟨v, rfl, hv⟩ := typed_val (h x (by simp))
    obtain ⟨l, rfl, hl⟩ := typed_vals (xs := xs) (fun y hy => h y (by simp [hy]))
    exact ⟨v :: l, rfl, fun w hw => by
      rcases List.mem_cons.1 hw with rfl | hw
      · exact hv
      · exact hl w hw⟩
theorem typed_row {n : Nat} {x : V} (h : typedV Tryz.prog n 24 x) : ∃ r : RowR, x = r.toV ∧ r.vals.length ≤ 140737488351232 ∧ ∀ v ∈ r.vals, v.t.length ≤ 140737488351232 := by
  cases n with
  | zero => exact h.elim
  | succ n =>
    simp only [typedV, Tryz.underlying24] at h
    rcases h with rfl | ⟨xs, rfl, hl, hx⟩
    · exact ⟨.nil _, rfl, by simp [RowR.vals], fun v h => by cases h⟩
    · obtain ⟨l, rfl, hv⟩ := typed_vals hx
      rw [b54, List.length_map, reach_eq] at hl
      exact ⟨.mk l, by rw [c54]; rfl, by simp only [RowR.vals]; omega, hv⟩
theorem typed_rec {n : Nat} {x : V} (h : typedV Tryz.prog n 26 x) : ∃ r : Rec, x = r.toV ∧ r.Fit := by
  cases n with
  | zero => exact h.elim
  | succ n =>
    simp only [typedV, Tryz.underlying26] at h
    obtain ⟨cs, rfl, hlen, hf⟩ := h
    rw [c26] at hlen
    match cs, hlen with
    | [a, b, c, d, e, f, g, i, j], _ =>
      simp only [List.forall_mem_cons, List.not_mem_nil, false_imp_iff, implies_true, and_true, a22, a3, a9, a24, Bool.false_eq_true, if_false] at hf
      obtain ⟨⟨y1, p1, t1⟩, ⟨y2, p2, t2⟩, ⟨y3, p3, t3⟩, ⟨y4, p4, t4⟩, ⟨y5, p5, t5⟩, ⟨y6, p6, t6⟩, ⟨y7, p7, t7⟩, ⟨y8, p8, t8⟩, y9, p9, t9⟩ := hf
      obtain rfl : a = y1 := Option.some.inj p1
      obtain rfl : b = y2 := Option.some.inj p2
      obtain rfl : c = y3 := Option.some.inj p3
      obtain rfl : d = y4 := Option.some.inj p4
      obtain rfl : e = y5 := Option.some.inj p5
      obtain rfl : f = y6 := Option.some.inj p6
      obtain rfl : g = y7 := Option.some.inj p7
      obtain rfl : i = y8 := Option.some.inj p8
      obtain rfl : j = y9 := Option.some.inj p9
      obtain ⟨k1, rfl, _⟩ := typed_int Tryz.underlying22 t1
      obtain ⟨k2, rfl, _⟩ := typed_int Tryz.underlying3 t2
      obtain ⟨s1, rfl, h1⟩ := typed_str t3
      obtain ⟨s2, rfl, h2⟩ := typed_str t4
      obtain ⟨k3, rfl, _⟩ := typed_int Tryz.underlying3 t5
      obtain ⟨r, rfl, h3, h4⟩ := typed_row t6
      obtain ⟨k4, rfl, _⟩ := typed_int Tryz.underlying3 t7
      obtain ⟨s3, rfl, h5⟩ := typed_str t8
      obtain ⟨k5, rfl, _⟩ := typed_int Tryz.underlying3 t9
      exact ⟨⟨k1, k2, s1, s2, k3, r, k4, s3, k5⟩, rfl, ⟨by simp only; omega, by simp only; omega, by simp only; omega, by simp only; omega, fun v hv => by have := h4 v hv; omega⟩⟩
theorem typed_recL {n : Nat} : ∀ {xs : List V}, (∀ y ∈ xs, typedV Tryz.prog n 26 y) → ∃ l : List Rec, xs = l.map Rec.toV ∧ ∀ r ∈ l, r.Fit
  | [], _ => ⟨[], rfl, fun v h => by cases h⟩
  | x :: xs, h => by
    obtain ⟨v, rfl, hv⟩ := typed_rec (h x (by simp))
    obtain ⟨l, rfl, hl⟩ := typed_recL (xs := xs) (fun y hy => h y (by simp [hy]))
    exact ⟨v :: l, rfl, fun w hw => by
      rcases List.mem_cons.1 hw with rfl | hw
      · exact hv
      · exact hl w hw⟩
theorem typed_recs {n : Nat} {x : V} (h : typedV Tryz.prog n 28 x) : ∃ (nl : Bool) (l : List Rec), x = .sl nl 9 (l.map Rec.toV) ∧ l.length ≤ 140737488351232 ∧ ∀ r ∈ l, r.Fit := by
  cases n with
  | zero => exact h.elim
  | succ n =>
    simp only [typedV, Tryz.underlying28] at h
    rcases h with rfl | ⟨xs, rfl, hl, hx⟩
    · exact ⟨true, [], by rw [c26]; rfl, by simp, fun v h => by cases h⟩
    · obtain ⟨l, rfl, hv⟩ := typed_recL hx
      rw [b26, List.length_map, reach_eq] at hl
      exact ⟨false, l, by rw [c26], by omega, hv⟩
end Go.Vm.Redo
-- RM1: The laws answer true at typed values.
set_option maxRecDepth 100000
namespace Go.Vm.Redo
open Go Go.Vm Go.Proofs

theorem c5 : Tryz.prog.cellsOf 5 = 1 := by kernel_rfl
theorem b5 : Tryz.prog.bytesOf 5 = 1 := by kernel_rfl
theorem typed_byte {n : Nat} {x : V} (h : typedV Tryz.prog n 5 x) : ∃ c : UInt8, x = .int .u8 c.toNat := by
  cases n with
  | zero => exact h.elim
  | succ n =>
    simp only [typedV, Tryz.underlying5] at h
    obtain ⟨i, rfl, hw⟩ := h
    have : IntKind.u8.min ≤ i ∧ i ≤ IntKind.u8.max := by simpa [Lit.wf] using hw
    have e1 : IntKind.u8.min = 0 := by decide
    have e2 : IntKind.u8.max = 255 := by decide
    refine ⟨UInt8.ofNat i.toNat, ?_⟩
    have : (UInt8.ofNat i.toNat).toNat = i.toNat := by simp; omega
    rw [this]
    congr 1; omega
theorem typed_byteL {n : Nat} : ∀ {xs : List V}, (∀ y ∈ xs, typedV Tryz.prog n 5 y) → ∃ l : List UInt8, xs = bytesV l
  | [], _ => ⟨[], rfl⟩
  | x :: xs, h => by
    obtain ⟨v, rfl⟩ := typed_byte (h x (by simp))
    obtain ⟨l, rfl⟩ := typed_byteL (xs := xs) (fun y hy => h y (by simp [hy]))
    exact ⟨v :: l, rfl⟩
theorem typed_bytes {n : Nat} {x : V} (h : typedV Tryz.prog n 30 x) : ∃ (nl : Bool) (b : List UInt8), x = .sl nl 1 (bytesV b) ∧ b.length ≤ 140737488351232 := by
  cases n with
  | zero => exact h.elim
  | succ n =>
    simp only [typedV, Tryz.underlying30] at h
    rcases h with rfl | ⟨xs, rfl, hl, hx⟩
    · exact ⟨true, [], by rw [c5]; rfl, by simp⟩
    · obtain ⟨l, rfl⟩ := typed_byteL hx
      rw [b5, bytesV_len, reach_eq] at hl
      exact ⟨false, l, by rw [c5], by omega⟩
theorem typedL_cons {t : TypeId} {ts : List TypeId} {xs : List V} (h : typedL Tryz.prog (t :: ts) xs) : ∃ x r n, xs = x :: r ∧ typedV Tryz.prog n t x ∧ typedL Tryz.prog ts r := by
  cases xs with
  | nil => exact h.elim
  | cons x r => exact ⟨x, r, h.1.choose, rfl, h.1.choose_spec, h.2⟩
theorem typedL_nil {xs : List V} (h : typedL Tryz.prog [] xs) : xs = [] := by
  cases xs with
  | nil => rfl
  | cons x r => exact h.elim

theorem laws_encodes : ∀ xs, typedL Tryz.prog [26, 26] xs → callL MM1 F.law20_RedoEncodes xs [] = some (.ret [.bool true] []) := by
  intro xs h
  obtain ⟨x, r, n, rfl, h1, h⟩ := typedL_cons h
  obtain ⟨y, r, n', rfl, h2, h⟩ := typedL_cons h
  obtain rfl := typedL_nil h
  obtain ⟨a, rfl, ha⟩ := typed_rec h1
  obtain ⟨b, rfl, hb⟩ := typed_rec h2
  exact law_encodes a b ha hb []
theorem laws_decodes : ∀ xs, typedL Tryz.prog [30, 3] xs → callL MM1 F.law20_RedoDecodes xs [] = some (.ret [.bool true] []) := by
  intro xs h
  obtain ⟨x, r, n, rfl, h1, h⟩ := typedL_cons h
  obtain ⟨y, r, n', rfl, h2, h⟩ := typedL_cons h
  obtain rfl := typedL_nil h
  obtain ⟨nl, b, rfl, hb⟩ := typed_bytes h1
  obtain ⟨i, rfl, _⟩ := typed_int Tryz.underlying3 h2
  exact law_decodes nl b i []
theorem laws_writes : ∀ xs, typedL Tryz.prog [28] xs → callL MM1 F.law20_RedoWrites xs [] = some (.ret [.bool true] []) := by
  intro xs h
  obtain ⟨x, r, n, rfl, h1, h⟩ := typedL_cons h
  obtain rfl := typedL_nil h
  obtain ⟨nl, l, rfl, hl, hf⟩ := typed_recs h1
  exact law_writes nl 9 l (.inl rfl) (by omega) hf []
end Go.Vm.Redo
-- RX2: The laws answer true at typed values: RedoBack, RedoCuts, RedoParts.
set_option maxRecDepth 100000
namespace Go.Vm.Redo
open Go Go.Vm Go.Proofs
theorem laws_back : ∀ xs, typedL Tryz.prog [28, 30] xs → callL MM1 F.law20_RedoBack xs [] = some (.ret [.bool true] []) := by
  intro xs h
  obtain ⟨x, r, n, rfl, h1, h⟩ := typedL_cons h
  obtain ⟨y, r, n', rfl, h2, h⟩ := typedL_cons h
  obtain rfl := typedL_nil h
  obtain ⟨nl, l, rfl, hl, hf⟩ := typed_recs h1
  obtain ⟨nl', b, rfl, hb⟩ := typed_bytes h2
  exact law_back nl 9 l (.inl rfl) (by omega) hf nl' b []
theorem laws_cuts : ∀ xs, typedL Tryz.prog [28, 3] xs → callL MM1 F.law20_RedoCuts xs [] = some (.ret [.bool true] []) := by
  intro xs h
  obtain ⟨x, r, n, rfl, h1, h⟩ := typedL_cons h
  obtain ⟨y, r, n', rfl, h2, h⟩ := typedL_cons h
  obtain rfl := typedL_nil h
  obtain ⟨nl, l, rfl, hl, hf⟩ := typed_recs h1
  obtain ⟨i, rfl, _⟩ := typed_int Tryz.underlying3 h2
  exact law_cuts nl l (by omega) hf i []
theorem laws_parts : ∀ xs, typedL Tryz.prog [28, 28] xs → callL MM1 F.law20_RedoParts xs [] = some (.ret [.bool true] []) := by
  intro xs h
  obtain ⟨x, r, n, rfl, h1, h⟩ := typedL_cons h
  obtain ⟨y, r, n', rfl, h2, h⟩ := typedL_cons h
  obtain rfl := typedL_nil h
  obtain ⟨nl, l, rfl, hl, hf⟩ := typed_recs h1
  obtain ⟨nl', k, rfl, hk, hg⟩ := typed_recs h2
  exact law_parts nl nl' l k (by omega) (by omega) hf hg []
end Go.Vm.Redo
