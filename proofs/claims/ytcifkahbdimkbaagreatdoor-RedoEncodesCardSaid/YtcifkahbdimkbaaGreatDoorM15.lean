/- Part 15 of the ground under the rows: From the data that a row's hypothesis reads to values of the pure machine. -/
import Derived.Test.YtcifkahbdimkbaaGreatDoorM14
import Derived.DataReads
import Derived.SizedLaws
set_option linter.unusedSimpArgs false
set_option linter.unusedVariables false
-- VmOpen: From the data that a row's hypothesis reads to values of the pure machine.
namespace Go.Vm
open Go Go.RowKit

/-- A value of a type. -/
def typedV (P : Program) : Nat → TypeId → V → Prop
  | 0, _, _ => False
  | n + 1, t, x => match P.underlying t with
    | some .bool => ∃ b, x = .bool b
    | some (.int k) => ∃ i, x = .int k i ∧ (Lit.int k i).wf = true
    | some .string => ∃ s, x = .str s ∧ s.length ≤ reachBytes
    | some (.pointer e) => x = .nilp ∨ ∃ y, x = .ep y 0 ∧ typedV P n e y
    | some (.slice e) => x = .sl true (P.cellsOf e) [] ∨ ∃ xs, x = .sl false (P.cellsOf e) xs ∧ xs.length * P.bytesOf e ≤ reachBytes ∧ ∀ y ∈ xs, typedV P n e y
    | some (.struct fs) => ∃ cs, x = .agg cs ∧ cs.length = P.cellsOf t ∧ ∀ f ∈ fs.toList, ∃ y, part cs f.offset (if aggT P f.type then some (P.cellsOf f.type) else none) = some y ∧ typedV P n f.type y
    | _ => False

/-- The fields lie one behind the other. -/
def tiles (P : Program) : List Field → Nat → Nat → Bool
  | [], o, n => o == n
  | f :: r, o, n => f.offset == o && tiles P r (o + P.cellsOf f.type) n

/-- Types whose values are read; closed. -/
def okTypes (P : Program) (Ts : List TypeId) : Bool := Ts.all fun t => match P.underlying t with
  | some .bool | some (.int _) | some .string => P.cellsOf t == 1
  | some (.pointer e) | some (.slice e) => P.cellsOf t == 1 && Ts.contains e && decide (0 < P.cellsOf e)
  | some (.struct fs) => fs.toList.all (fun f => Ts.contains f.type) && tiles P fs.toList 0 (P.cellsOf t)
  | _ => false

structure Opened (P : Program) (φ : Phi) (n : Nat) (t : TypeId) (cs : List Value) (x : V) : Prop where
  rep : RepCL φ x.cells cs
  one : ∀ v ∈ cs, v.oneCell' = true
  agg : aggT P t = true → ∃ l, x = .agg l
  leaf : aggT P t = false → ∃ c, cs = [c] ∧ RepC φ x c ∧ x.cells = [x]
  typed : typedV P n t x
  fits : x.fits (P.cellsOf t) = true
  len : x.cells.length = P.cellsOf t

/-- The value of cells. -/
def valOf (P : Program) (t : TypeId) (cs : List Value) : Value := if aggT P t then .agg cs.toArray else cs.headD undef

theorem Opened.value {P : Program} {φ : Phi} {n : Nat} {t : TypeId} {cs : List Value} {x : V} (h : Opened P φ n t cs x) : RepC φ x (valOf P t cs) ∧ (valOf P t cs).cells.toList = cs := by
  unfold valOf
  cases ha : aggT P t with
  | true =>
    obtain ⟨l, rfl⟩ := h.agg ha
    exact ⟨⟨cs, rfl, h.rep, h.one⟩, by simp [Value.cells]⟩
  | false =>
    obtain ⟨c, rfl, h1, h2⟩ := h.leaf ha
    refine ⟨by simpa using h1, ?_⟩
    have := h.one c (by simp)
    cases c <;> first | rfl | simp [Value.oneCell'] at this

theorem leaf_opened {P : Program} {φ : Phi} {n : Nat} {t : TypeId} {c : Value} {x : V} (ha : aggT P t = false) (h1 : RepC φ x c) (h2 : x.cells = [x]) (hc : c.oneCell' = true) (ht : typedV P n t x) (hs : P.cellsOf t = 1) (hf : x.fits 1 = true) : Opened P φ n t [c] x :=
  ⟨by rw [h2]; exact RepCL.cons h1 RepCL.nil, fun v hv => by simp at hv; subst hv; exact hc, fun h => absurd h (by rw [ha]; decide), fun _ => ⟨c, rfl, h1, h2⟩, ht, by rw [hs]; exact hf, by rw [h2, hs]; rfl⟩

theorem mapM_some {α β : Type} {f : α → Option β} : ∀ {l : List α} {r : List β}, l.mapM f = some r → r.length = l.length ∧ ∀ (i : Nat) (x : α), l[i]? = some x → ∃ y, r[i]? = some y ∧ f x = some y
  | [], r, h => by simp at h; subst h; exact ⟨rfl, fun i x hx => by simp at hx⟩
  | a :: l, r, h => by
    rw [List.mapM_cons] at h
    obtain ⟨y, h1, h⟩ := obind h
    obtain ⟨ys, h2, h⟩ := obind h
    cases h
    obtain ⟨k1, k2⟩ := mapM_some h2
    refine ⟨by simp [k1], fun i x hx => ?_⟩
    cases i with
    | zero => simp at hx; subst hx; exact ⟨y, rfl, h1⟩
    | succ i => simpa using k2 i x (by simpa using hx)

section
variable {P : Program} {W : World} {H : Type} {enc : TypeId × Value → H} {spare : Nat → Bool} {Ts : List TypeId} {n : Nat}

def phi0 (W : World) : Phi := fun a => W.cell? a

/-- What the induction gives for the parts of a value. -/
def OpenIH (P : Program) (W : World) (H : Type) (enc : TypeId × Value → H) (spare : Nat → Bool) (Ts : List TypeId) (n : Nat) : Prop :=
  ∀ t cs d ps, t ∈ Ts → DataW.trod enc P W 0 spare true n t cs = some (d, ps) → (∀ k ∈ d.weights P t, k ≤ reachBytes) → ∃ x, Opened P (phi0 W) n t cs x

/-- Elements one behind the other. -/
theorem open_elems (ih : OpenIH P W H enc spare Ts n) {e : TypeId} (he : e ∈ Ts) (hpos : 0 < P.cellsOf e) {a : Addr} : ∀ (len : Nat), (∀ i, i < len → ∃ d ps, (W.cells? 0 (a.add (i * P.cellsOf e)) (P.cellsOf e)).bind (DataW.trod enc P W 0 spare true n e) = some (d, ps) ∧ ∀ k ∈ d.weights P e, k ≤ reachBytes) →
    ∃ xs evs, xs.length = len ∧ RepCL (phi0 W) xs evs ∧ (∀ x ∈ xs, x.fits (P.cellsOf e) = true) ∧ (∀ x ∈ xs, typedV P n e x) ∧ (flat evs).length = len * P.cellsOf e ∧ InMem (phi0 W) a (flat evs)
  | 0, _ => ⟨[], [], rfl, RepCL.nil, fun x hx => by simp at hx, fun x hx => by simp at hx, by simp [flat], fun i v h => by simp [flat] at h⟩
  | len + 1, h => by
    obtain ⟨xs, evs, h1, h2, h3, h4, h5, h6⟩ := open_elems ih he hpos len fun i hi => h i (by omega)
    obtain ⟨d, ps, hl, hwt⟩ := h len (by omega)
    obtain ⟨cs, k1, k2⟩ := obind hl
    obtain ⟨_, q2, q3⟩ := World.cells?_some k1
    obtain ⟨x, hx⟩ := ih e cs d ps he k2 hwt
    obtain ⟨v1, v2⟩ := hx.value
    have hfl : flat (evs ++ [valOf P e cs]) = flat evs ++ cs := by simp [flat, v2]
    refine ⟨xs ++ [x], evs ++ [valOf P e cs], by simp [h1], RepCL.append h2 (RepCL.cons v1 RepCL.nil), ?_, ?_, ?_, ?_⟩
    · intro y hy
      rcases List.mem_append.1 hy with hy | hy
      · exact h3 y hy
      · simp at hy; subst hy; exact hx.fits
    · intro y hy
      rcases List.mem_append.1 hy with hy | hy
      · exact h4 y hy
      · simp at hy; subst hy; exact hx.typed
    · rw [hfl, List.length_append, h5, q2, Nat.succ_mul]
    · intro i v hv
      rw [hfl] at hv
      by_cases hi : i < (flat evs).length
      · rw [List.getElem?_append_left hi] at hv
        exact h6 i v hv
      · rw [List.getElem?_append_right (by omega)] at hv
        have hlt : i - (flat evs).length < P.cellsOf e := by
          have := (List.getElem?_eq_some_iff.1 hv).1; omega
        have := q3 _ hlt
        rw [hv] at this
        rw [Addr.add_add] at this
        rw [h5] at this hi
        rw [show len * P.cellsOf e + (i - len * P.cellsOf e) = i by omega] at this
        exact this

/-- Fields one behind the other. -/
theorem open_fields (ih : OpenIH P W H enc spare Ts n) : ∀ (fs : List Field) (o tot : Nat) (cs : List Value) (all : List Value), tiles P fs o tot = true → (∀ f ∈ fs, f.type ∈ Ts) → cs = all.drop o → all.length = tot → o ≤ tot →
    (∀ f ∈ fs, ∃ d ps, DataW.trod enc P W 0 spare true n f.type ((all.drop f.offset).take (P.cellsOf f.type)) = some (d, ps) ∧ ∀ k ∈ d.weights P f.type, k ≤ reachBytes) →
    ∃ l : List V, RepCL (phi0 W) l cs ∧ (∀ v ∈ cs, v.oneCell' = true) ∧ ∀ (pre : List V), pre.length = o → ∀ f ∈ fs, ∃ y, part (pre ++ l) f.offset (if aggT P f.type then some (P.cellsOf f.type) else none) = some y ∧ typedV P n f.type y
  | [], o, tot, cs, all, ht, _, hcs, hall, ho, _ => by
    simp only [tiles, beq_iff_eq] at ht
    have : cs = [] := by rw [hcs, ht, ← hall]; simp
    subst this
    exact ⟨[], RepCL.nil, fun v hv => by simp at hv, fun pre _ f hf => by simp at hf⟩
  | f :: fs, o, tot, cs, all, ht, hTs, hcs, hall, ho, hread => by
    simp only [tiles, Bool.and_eq_true, beq_iff_eq] at ht
    obtain ⟨hoff, ht⟩ := ht
    obtain ⟨d, ps, hr, hwt⟩ := hread f (by simp)
    obtain ⟨x, hx⟩ := ih f.type _ d ps (hTs f (by simp)) hr hwt
    have hle : ∀ (fs : List Field) (o tot : Nat), tiles P fs o tot = true → o ≤ tot := by
      intro fs
      induction fs with
      | nil => intro o tot h; simp only [tiles, beq_iff_eq] at h; omega
      | cons f fs ih => intro o tot h; simp only [tiles, Bool.and_eq_true, beq_iff_eq] at h; have := ih _ _ h.2; omega
    have hle1 := hle fs _ _ ht
    obtain ⟨l, k1, k2, k3⟩ := open_fields ih fs (o + P.cellsOf f.type) tot (all.drop (o + P.cellsOf f.type)) all ht (fun f hf => hTs f (by simp [hf])) rfl hall hle1 (fun f hf => hread f (by simp [hf]))
    have hsplit : cs = (all.drop o).take (P.cellsOf f.type) ++ all.drop (o + P.cellsOf f.type) := by
      rw [hcs, ← List.drop_drop, List.take_append_drop]
    rw [hoff] at hx
    refine ⟨x.cells ++ l, by rw [hsplit]; exact RepCL.append hx.rep k1, fun v hv => ?_, fun pre hpre f' hf' => ?_⟩
    · rw [hsplit] at hv
      rcases List.mem_append.1 hv with hv | hv
      · exact hx.one v hv
      · exact k2 v hv
    · rcases List.mem_cons.1 hf' with rfl | hf'
      · refine ⟨x, ?_, hx.typed⟩
        rw [hoff]
        cases ha : aggT P f'.type with
        | true =>
          obtain ⟨cl, rfl⟩ := hx.agg ha
          have hcl : cl.length = P.cellsOf f'.type := hx.len
          have e1 : (V.agg cl).cells = cl := rfl
          rw [e1]
          have hc : o + P.cellsOf f'.type ≤ (pre ++ (cl ++ l)).length := by simp [hpre, hcl]
          simp only [if_true, part, hc]
          rw [← hpre, List.drop_left, ← hcl, List.take_left]
        | false =>
          obtain ⟨c, _, _, h3⟩ := hx.leaf ha
          simp only [Bool.false_eq_true, if_false, part]
          rw [h3, List.getElem?_append_right (by omega), hpre]
          simp
      · have := k3 (pre ++ x.cells) (by rw [List.length_append, hpre, hx.len]) f' hf'
        rwa [List.append_assoc] at this

theorem okTypes_get (hT : okTypes P Ts = true) {t : TypeId} (ht : t ∈ Ts) : (match P.underlying t with
  | some .bool | some (.int _) | some .string => P.cellsOf t == 1
  | some (.pointer e) | some (.slice e) => P.cellsOf t == 1 && Ts.contains e && decide (0 < P.cellsOf e)
  | some (.struct fs) => fs.toList.all (fun f => Ts.contains f.type) && tiles P fs.toList 0 (P.cellsOf t)
  | _ => false) = true := List.all_eq_true.1 hT t ht

theorem mem_weightsAll {e : TypeId} {d : DataW H} {k : Nat} (hk : k ∈ d.weights P e) : ∀ {l : List (DataW H)}, d ∈ l → k ∈ DataW.weightsAll P e l
  | x :: l, h => by
    simp only [DataW.weightsAll, List.mem_append]
    rcases List.mem_cons.1 h with rfl | h
    · exact .inl hk
    · exact .inr (mem_weightsAll hk h)

theorem open_trod (hT : okTypes P Ts = true) : ∀ n, OpenIH P W H enc spare Ts n
  | 0 => fun t cs d ps _ h => by simp [DataW.trod] at h
  | n + 1 => by
    have ih := open_trod hT n
    intro t cs d ps ht h hwt
    have hok := okTypes_get hT ht
    have leaf : ∀ {D : TypeDesc}, P.underlying t = some D → (∀ fs, D ≠ .struct fs) → (∀ k e, D ≠ .array k e) → aggT P t = false := fun {D} h h1 h2 => by
      unfold aggT; rw [h]; cases D <;> first | rfl | exact absurd rfl (h1 _) | exact absurd rfl (h2 _ _)
    unfold DataW.trod at h
    split at h
    case h_1 b heq =>
      rw [heq] at hok; simp only [beq_iff_eq] at hok
      exact ⟨.bool b, leaf_opened (leaf heq (by simp) (by simp)) rfl rfl rfl (by simp only [typedV, heq]; exact ⟨b, rfl⟩) hok rfl⟩
    case h_2 k k' i heq =>
      rw [heq] at hok; simp only [beq_iff_eq] at hok
      split at h
      · rename_i hk
        obtain ⟨rfl, hw⟩ := hk
        exact ⟨.int k' i, leaf_opened (leaf heq (by simp) (by simp)) rfl rfl rfl (by simp only [typedV, heq]; exact ⟨i, rfl, hw⟩) hok rfl⟩
      · cases h
    case h_4 str heq =>
      rw [heq] at hok; simp only [beq_iff_eq] at hok
      split at h
      · rename_i hsz
        exact ⟨.str str.data.toList, leaf_opened (leaf heq (by simp) (by simp)) (by simp [RepC]) rfl rfl (by simp only [typedV, heq]; exact ⟨_, rfl, by cases h; simpa [DataW.weights] using hwt⟩) hok rfl⟩
      · cases h
    case h_5 e heq =>
      rw [heq] at hok; simp only [Bool.and_eq_true, beq_iff_eq, decide_eq_true_eq] at hok
      exact ⟨.nilp, leaf_opened (leaf heq (by simp) (by simp)) rfl rfl rfl (by simp only [typedV, heq]; exact .inl trivial) hok.1.1 rfl⟩
    case h_6 e a heq =>
      rw [heq] at hok; simp only [Bool.and_eq_true, beq_iff_eq, decide_eq_true_eq] at hok
      obtain ⟨⟨d', ps'⟩, h1, h2⟩ := omap h
      have hwt' : ∀ k ∈ d'.weights P e, k ≤ reachBytes := by cases h2; intro k hk; exact hwt k (by simpa [DataW.weights, heq] using hk)
      obtain ⟨cs', k1, k2⟩ := obind h1
      obtain ⟨_, q2, q3⟩ := World.cells?_some k1
      obtain ⟨y, hy⟩ := ih e cs' d' ps' (by simpa using hok.1.2) k2 hwt'
      obtain ⟨v1, v2⟩ := hy.value
      refine ⟨.ep y 0, leaf_opened (leaf heq (by simp) (by simp)) ⟨a, valOf P e cs', v1, by rw [hy.len]; exact hy.fits, ?_, by cases a; rfl⟩ rfl rfl (by simp only [typedV, heq]; exact .inr ⟨y, rfl, hy.typed⟩) hok.1.1 rfl⟩
      rw [v2]
      intro i v hv
      have hlt : i < P.cellsOf e := by have := (List.getElem?_eq_some_iff.1 hv).1; omega
      have := q3 i hlt
      rw [hv] at this; exact this
    case h_7 e heq =>
      rw [heq] at hok; simp only [Bool.and_eq_true, beq_iff_eq, decide_eq_true_eq] at hok
      exact ⟨.sl true (P.cellsOf e) [], leaf_opened (leaf heq (by simp) (by simp)) (.inl ⟨rfl, rfl, rfl⟩) rfl rfl (by simp only [typedV, heq]; exact .inl trivial) hok.1.1 rfl⟩
    case h_8 e a len cap heq =>
      rw [heq] at hok; simp only [Bool.and_eq_true, beq_iff_eq, decide_eq_true_eq] at hok
      simp only at h
      split at h
      · rename_i hc
        obtain ⟨elems, h1, h2⟩ := obind h
        obtain ⟨l1, l2⟩ := mapM_some h1
        obtain ⟨sp, _, h3⟩ := omap h2
        have hwe : ∀ k ∈ DataW.weightsAll P e (elems.map (·.1)), k ≤ reachBytes := by
          cases h3; intro k hk; exact hwt k (by simp only [DataW.weights, heq]; exact List.mem_cons_of_mem _ (List.mem_append_left _ hk))
        have hwl : len * P.bytesOf e ≤ reachBytes := by
          cases h3
          have := hwt ((elems.length + sp.length) * P.bytesOf e) (by simp only [DataW.weights, heq, List.length_map]; exact List.mem_cons_self)
          have hl : elems.length = len := by rw [l1]; simp
          rw [hl] at this
          exact Nat.le_trans (Nat.mul_le_mul (Nat.le_add_right _ _) (Nat.le_refl _)) this
        obtain ⟨xs, evs, e1, e2, e3, e4, e5, e6⟩ := open_elems (P := P) (W := W) (a := a) ih (by simpa using hok.1.2 : e ∈ Ts) hok.2 len fun i hi => by
          obtain ⟨⟨d', ps'⟩, hm, hy⟩ := l2 i i (by simp [hi])
          exact ⟨d', ps', hy, fun k hk => hwe k (mem_weightsAll hk (List.mem_map.2 ⟨(d', ps'), List.mem_of_getElem? hm, rfl⟩))⟩
        refine ⟨.sl false (P.cellsOf e) xs, leaf_opened (leaf heq (by simp) (by simp)) (.inr ⟨rfl, a, cap, evs, by rw [e1], by rw [e1]; exact hc.2.1, e2, e3, e6⟩) rfl rfl (by simp only [typedV, heq]; exact .inr ⟨xs, rfl, by rw [e1]; exact hwl, e4⟩) hok.1.1 rfl⟩
      · cases h
    case h_9 fs heq =>
      rw [heq] at hok; simp only [Bool.and_eq_true, List.all_eq_true] at hok
      split at h
      · rename_i hlen
        obtain ⟨xs, h1, h2⟩ := omap h
        obtain ⟨l1, l2⟩ := mapM_some h1
        have hwf : ∀ k ∈ DataW.weightsEach P (fs.toList.map (·.type)) (xs.map (·.1)), k ≤ reachBytes := by
          cases h2; intro k hk; exact hwt k (by simp only [DataW.weights, heq]; exact hk)
        obtain ⟨l, k1, k2, k3⟩ := open_fields (P := P) (W := W) ih fs.toList 0 (P.cellsOf t) _ _ hok.2 (fun f hf => by simpa using hok.1 f hf) rfl hlen (Nat.zero_le _) fun f hf => by
          obtain ⟨i, hi⟩ := List.getElem?_of_mem hf
          obtain ⟨⟨d', ps'⟩, hm, hy⟩ := l2 i f hi
          exact ⟨d', ps', hy, fun k hk => hwf k (DataW.weights_mem_each (j := i) (t := f.type) (d := d') (by rw [List.getElem?_map, hi]; rfl) (by rw [List.getElem?_map, hm]; rfl) k hk)⟩
        have hll : l.length = P.cellsOf t := by rw [← hlen]; exact (RepCL.length k1)
        have ha : aggT P t = true := by unfold aggT; rw [heq]
        refine ⟨.agg l, ⟨k1, k2, fun _ => ⟨l, rfl⟩, fun h => absurd ha (by rw [h]; decide), ?_, by simp [V.fits, hll], hll⟩⟩
        simp only [typedV, heq]
        exact ⟨l, rfl, hll, fun f hf => by simpa using k3 [] rfl f hf⟩
      · cases h
    all_goals first
      | (cases h; done)
      | (rename_i heq; rw [heq] at hok; cases hok; done)
      | (simp_all; done)
end
end Go.Vm
