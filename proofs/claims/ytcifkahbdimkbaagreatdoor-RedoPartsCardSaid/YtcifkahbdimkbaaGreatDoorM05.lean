/- Part 5 of the ground under the rows: One operation, continued: structs and rows made of parts, conversions, what is read of memory. -/
import Derived.Test.YtcifkahbdimkbaaGreatDoorM04
import Derived.Laws.NewFold
set_option linter.unusedSimpArgs false
set_option linter.unusedVariables false
-- VmT: One operation, continued: structs and rows made of parts, conversions, what is read of memory.
namespace Go.Vm
open Go Go.RowKit

section
variable {P : Program} {w0 : World} {φ : Phi} {g : List GO} {m : Mem} {w : World} {ρ : Operand → Value} {o : Oper}
variable {A : Ann} {F : FAnn} {past : List (Option Tmp)} {e : Opd → V}

theorem lay_list (off : Nat) : ∀ (vs : List Value) (k : Nat) (cells : Array Value), off + k + vs.length ≤ cells.size →
    ((vs.zipIdx k).foldl (fun cs (x : Value × Nat) => cs.setIfInBounds (off + x.2) x.1) cells).toList = cells.toList.take (off + k) ++ vs ++ cells.toList.drop (off + k + vs.length)
  | [], k, cells, h => by simp
  | v :: vs, k, cells, h => by
    simp only [List.zipIdx_cons, List.foldl_cons]
    rw [lay_list off vs (k + 1) _ (by simp at h ⊢; omega)]
    simp only [List.length_cons] at h ⊢
    rw [Array.toList_setIfInBounds, List.set_eq_take_append_cons_drop, if_pos (by simp; omega)]
    have hl : (cells.toList.take (off + k)).length = off + k := by simp; omega
    rw [show off + (k + 1) = (off + k) + 1 by omega]
    rw [List.take_append, hl, List.take_of_length_le (by omega)]
    rw [List.drop_append, hl, List.drop_of_length_le (l := cells.toList.take (off + k)) (by omega)]
    rw [show off + k + 1 - (off + k) = 1 by omega, show off + k + 1 + vs.length - (off + k) = vs.length + 1 by omega]
    simp only [List.take_succ_cons, List.take_zero, List.drop_succ_cons, List.drop_drop, List.nil_append]
    rw [show off + k + 1 + vs.length = off + k + (vs.length + 1) by omega]
    simp

theorem lay_array (off : Nat) (vs : Array Value) (cells : Array Value) (h : off + vs.size ≤ cells.size) :
    (vs.zipIdx.foldl (fun cs (x : Value × Nat) => cs.setIfInBounds (off + x.2) x.1) cells) = (cells.toList.take off ++ vs.toList ++ cells.toList.drop (off + vs.size)).toArray := by
  apply Array.ext'
  rw [← Array.foldl_toList, Array.toList_zipIdx]
  have := lay_list off vs.toList 0 cells (by simpa using h)
  simpa using this

theorem fill_run (place : Nat → Option (Nat × Nat)) : ∀ (ps : List (Nat × Nat × V)) (qs : List (Nat × Value)) (zs : List V) (cells : List Value) {out : List V},
    RepL φ g m zs cells → (∀ v ∈ cells, v.oneCell' = true) → ps.length = qs.length →
    (∀ (i : Nat) (p : Nat × Nat × V) (q : Nat × Value), ps[i]? = some p → qs[i]? = some q → place q.1 = some (p.1, p.2.1) ∧ Rep φ g m p.2.2 q.2) → fill zs ps = some out →
    ∃ l, Instr.fill place cells.toArray qs = some l.toArray ∧ RepL φ g m out l ∧ ∀ v ∈ l, v.oneCell' = true
  | [], [], zs, cells, out, h, h1, _, _, hf => by simp [fill] at hf; subst hf; exact ⟨cells, rfl, h, h1⟩
  | [], _ :: _, _, _, _, _, _, hl, _, _ => by simp at hl
  | _ :: _, [], _, _, _, _, _, hl, _, _ => by simp at hl
  | (off, sz, v) :: ps, (i, c) :: qs, zs, cells, out, h, h1, hl, hp, hf => by
    simp only [fill] at hf
    split at hf
    rotate_left
    · simp at hf
    rename_i hc
    obtain ⟨q1, q2⟩ := hp 0 _ _ rfl rfl
    simp only [] at q1 q2
    obtain ⟨c1, c2, c3, c4⟩ := q2.cells hc.1
    have hlen := h.length
    have hsz : c.cells.size = sz := by simpa using c1
    obtain ⟨l, k1, k2, k3⟩ := fill_run place ps qs (zs.take off ++ v.cells ++ zs.drop (off + sz)) (cells.take off ++ c.cells.toList ++ cells.drop (off + sz)) (out := out)
      (((h.take off).append c2).append (h.drop _)) (fun x hx => by
        rcases List.mem_append.1 hx with hx | hx
        · rcases List.mem_append.1 hx with hx | hx
          · exact h1 x (List.mem_of_mem_take hx)
          · exact c3 x hx
        · exact h1 x (List.mem_of_mem_drop hx)) (by simpa using hl) (fun j p q e1 e2 => hp (j + 1) p q (by simpa using e1) (by simpa using e2)) hf
    refine ⟨l, ?_, k2, k3⟩
    simp only [Instr.fill, q1]
    have e1 : (c.cells.size ≠ sz || off + c.cells.size > cells.toArray.size) = false := by
      simp [hsz]; omega
    simp only [e1, Bool.false_eq_true, if_false]
    rw [lay_array off c.cells cells.toArray (by simp; omega), hsz]
    exact k1

theorem mapM'_length {α β : Type} {f : α → Option β} : ∀ {l : List α} {k : List β}, mapM' f l = some k → k.length = l.length
  | [], k, h => by simp [mapM'] at h; subst h; rfl
  | x :: l, k, h => by
    simp only [mapM'] at h
    obtain ⟨y, _, h⟩ := obind h
    obtain ⟨ys, h2, rfl⟩ := omap h
    simp [mapM'_length h2]

theorem mapM'_get {α β : Type} {f : α → Option β} : ∀ {l : List α} {k : List β}, mapM' f l = some k → ∀ {i : Nat} {x : α}, l[i]? = some x → ∃ y, k[i]? = some y ∧ f x = some y
  | [], k, h, i, x, hi => by simp at hi
  | z :: l, k, h, i, x, hi => by
    simp only [mapM'] at h
    obtain ⟨y, h1, h⟩ := obind h
    obtain ⟨ys, h2, rfl⟩ := omap h
    cases i with
    | zero => simp at hi; subst hi; exact ⟨y, rfl, h1⟩
    | succ i => simpa using mapM'_get h2 (by simpa using hi)

theorem run_sizeOf {t : TypeId} {n : Nat} (h : szOf P t = some n) (w : World) : (sizeOf t).run P w = .ok n w := by
  unfold szOf at h
  obtain ⟨i, hinf, rfl⟩ := omap h
  simp [sizeOf, typeInfo, hinf]

theorem run_mapM_sizes : ∀ (fs : List Field) {k : List Nat} (w : World), mapM' (fun (f : Field) => szOf P f.type) fs = some k →
    (fs.mapM (fun f => do pure (f.offset, ← sizeOf f.type) : Field → Sem (Nat × Nat))).run P w = .ok (fs.map fun f => (f.offset, (szOf P f.type).getD 0)) w
  | [], k, w, h => by simp
  | f :: fs, k, w, h => by
    simp only [mapM'] at h
    obtain ⟨n, h1, h⟩ := obind h
    obtain ⟨ns, h2, rfl⟩ := omap h
    have ih := run_mapM_sizes fs w h2
    rw [List.mapM_cons]
    simp only [Sem.run_bind, run_sizeOf h1, ih, Result.andThen_ok, Sem.run_pure, List.map_cons, h1, Option.getD_some]

theorem zeroT_run {t : TypeId} {z : V} (hz : zeroT P t = some z) (w : World) : ∃ cz, (zeroValue t).run P w = .ok cz w ∧ RepC φ z cz ∧ ∃ i, P.info? t = some i ∧ i.zero = some cz := by
  obtain ⟨i, hi1, hz⟩ := obind hz
  obtain ⟨cz, hi2, hz⟩ := obind hz
  exact ⟨cz, by simp [zeroValue, typeInfo, hi1, hi2], vOf_rep cz z hz, i, hi1, hi2⟩

theorem op_buildS (hi : Inv w0 φ g m w) (ht : Told A F past φ g m e ρ) {t : TypeId} {parts : Array (Nat × Operand)} (ho : o.op = .build t parts) {fs : Array Field} (hu : P.underlying t = some (.struct fs)) {z : List V} (hz : zeroT P t = some (.agg z))
    {ks : List Nat} (hks : mapM' (fun (f : Field) => szOf P f.type) fs.toList = some ks) {ps : List (Nat × Nat × Opd)}
    (hps : mapM' (fun (i, x) => (fs[i]?).bind fun f => (szOf P f.type).bind fun n => (opdOf A F past x).map fun x => (f.offset, n, x)) parts.toList = some ps) {v : V} (hv : pureOp e (.build z ps) = some v) : OpDone P w0 ρ o φ g m w v m := by
  obtain ⟨cz, hzr, hzc, _⟩ := zeroT_run (φ := φ) hz w
  obtain ⟨lz, rfl, hz1, hz2⟩ := hzc
  simp only [pureOp] at hv
  obtain ⟨out, hout, rfl⟩ := omap hv
  have hmap : ((fs.mapM (fun f => do pure (f.offset, ← sizeOf f.type) : Field → Sem (Nat × Nat)))).run P w = .ok (fs.toList.map fun f => (f.offset, (szOf P f.type).getD 0)).toArray w := by
    have := run_mapM_sizes fs.toList w hks
    rw [Array.mapM_eq_mapM_toList]
    simp only [Sem.run_map, this, Result.andThen_ok]
  obtain ⟨l, k1, k2, k3⟩ := fill_run (φ := φ) (g := g) (m := m) (fun i => (fs.toList.map fun f => (f.offset, (szOf P f.type).getD 0)).toArray[i]?) (ps.map fun (i, n, x) => (i, n, e x)) (parts.toList.map fun (i, x) => (i, ρ x)) z lz
    (RepCL.rep z lz hz1) hz2 (by simpa using mapM'_length hps) (fun i p q hp hq => by
      rw [List.getElem?_map] at hp hq
      obtain ⟨q0, hq1, hq2⟩ := Option.map_eq_some_iff.1 hq
      obtain ⟨y, hy1, hy2⟩ := mapM'_get hps hq1
      rw [hy1] at hp
      simp only [Option.map_some, Option.some.injEq] at hp
      obtain ⟨f, hf1, hy2⟩ := obind hy2
      obtain ⟨n, hn, hy2⟩ := obind hy2
      obtain ⟨x, hx, rfl⟩ := omap hy2
      subst hp; subst hq2
      refine ⟨?_, ht _ _ hx⟩
      have hf2 : fs.toList[q0.1]? = some f := by simpa using hf1
      simp [hf2, hn]) hout
  refine OpDone.same hi (cv := .agg l.toArray) ?_ ⟨l, rfl, k2, k3⟩
  simp only [execOp, ho, Instr.build, Sem.run_bind, hzr, Result.andThen_ok, run_underlying hu, hmap, Value.cells]
  have e1 : (parts.map fun (x : Nat × Operand) => (x.1, ρ x.2)).toList = parts.toList.map fun (i, x) => (i, ρ x) := by simp
  rw [e1, k1]
  simp

theorem op_buildA (hi : Inv w0 φ g m w) (ht : Told A F past φ g m e ρ) {t el : TypeId} {len n : Nat} {parts : Array (Nat × Operand)} (ho : o.op = .build t parts) (hu : P.underlying t = some (.array len el)) {z : List V} (hz : zeroT P t = some (.agg z))
    (hn : szOf P el = some n) {ps : List (Nat × Nat × Opd)} (hps : mapM' (fun (i, x) => (opdOf A F past x).map fun x => (i * n, n, x)) parts.toList = some ps) {v : V} (hv : pureOp e (.build z ps) = some v) : OpDone P w0 ρ o φ g m w v m := by
  obtain ⟨cz, hzr, hzc, _⟩ := zeroT_run (φ := φ) hz w
  obtain ⟨lz, rfl, hz1, hz2⟩ := hzc
  simp only [pureOp] at hv
  obtain ⟨out, hout, rfl⟩ := omap hv
  obtain ⟨l, k1, k2, k3⟩ := fill_run (φ := φ) (g := g) (m := m) (fun i => some (i * n, n)) (ps.map fun (i, n, x) => (i, n, e x)) (parts.toList.map fun (i, x) => (i, ρ x)) z lz
    (RepCL.rep z lz hz1) hz2 (by simpa using mapM'_length hps) (fun i p q hp hq => by
      rw [List.getElem?_map] at hp hq
      obtain ⟨q0, hq1, hq2⟩ := Option.map_eq_some_iff.1 hq
      obtain ⟨y, hy1, hy2⟩ := mapM'_get hps hq1
      rw [hy1] at hp
      simp only [Option.map_some, Option.some.injEq] at hp
      obtain ⟨x, hx, rfl⟩ := omap hy2
      subst hp; subst hq2
      exact ⟨rfl, ht _ _ hx⟩) hout
  refine OpDone.same hi (cv := .agg l.toArray) ?_ ⟨l, rfl, k2, k3⟩
  simp only [execOp, ho, Instr.build, Sem.run_bind, hzr, Result.andThen_ok, run_underlying hu, Value.cells, run_sizeOf hn]
  have e1 : (parts.map fun (x : Nat × Operand) => (x.1, ρ x.2)).toList = parts.toList.map fun (i, x) => (i, ρ x) := by simp
  rw [e1, k1]
  simp

theorem strOf_rep : ∀ {xs : List V} {l : List UInt8} {evs : List Value}, strOf xs = some l → RepCL φ xs evs → ∃ ns : List Int, evs = ns.map (Value.int .u8) ∧ ns.map (fun n => UInt8.ofNat n.toNat) = l
  | [], l, evs, h, hr => by simp [strOf] at h; subst h; rw [RepCL] at hr; subst hr; exact ⟨[], rfl, rfl⟩
  | x :: xs, l, evs, h, ⟨c, cs, e, h1, h2⟩ => by
    cases x <;> try (simp [strOf] at h; done)
    rename_i k n
    cases k <;> try (simp [strOf] at h; done)
    simp only [strOf] at h
    obtain ⟨l', h3, rfl⟩ := omap h
    obtain ⟨ns, k1, k2⟩ := strOf_rep h3 h2
    have h1 : c = .int .u8 n := h1
    exact ⟨n :: ns, by simp [e, h1, k1], by simp [k2]⟩

theorem push_foldl (ns : List Int) : ∀ (acc : ByteArray), ns.foldl (fun r n => r.push (UInt8.ofNat n.toNat)) acc = ByteArray.mk (acc.data.toList ++ ns.map fun n => UInt8.ofNat n.toNat).toArray := by
  induction ns with
  | nil => intro acc; apply ByteArray.ext; simp
  | cons n ns ih => intro acc; simp only [List.foldl_cons, ih]; apply ByteArray.ext; simp [ByteArray.push]

theorem op_toStrS (hi : Inv w0 φ g m w) (ht : Told A F past φ g m e ρ) {s d : TypeId} {x : Operand} (ho : o.op = .convert s d x) (hs : P.underlying s = some .string) (hd : P.underlying d = some .string) {y : Opd}
    (hx : opdOf A F past x = some y) {v : V} (hv : pureOp e (.toStr true y) = some v) : OpDone P w0 ρ o φ g m w v m := by
  have h1 := ht x y hx
  simp only [pureOp] at hv
  split at hv <;> try (simp_all; done)
  rename_i s' _ he
  rw [he] at h1
  have h1 := rep_str h1
  cases hv
  exact OpDone.same hi (cv := .string ⟨s'.toArray⟩) (by simp [execOp, ho, h1, convert, run_underlying hs, run_underlying hd]) rfl

theorem toStr_run {s d el : TypeId} (hs : P.underlying s = some (.slice el)) (he : P.underlying el = some (.int .u8)) (hd : P.underlying d = some .string) (hi : Inv w0 φ g m w) {nl : Bool} {sz : Nat} {xs : List V} {c : Value}
    (hr : Rep φ g m (.sl nl sz xs) c) {l : List UInt8} (hl : strOf xs = some l) : (convert s d c).run P w = .ok (.string ⟨l.toArray⟩) w := by
  obtain ⟨a, cap, rfl, hcap, h⟩ := rep_sl hr
  rw [run_convert_bytes_string w s d el _ _ _ hs he hd]
  rcases h with ⟨_, rfl, rfl, _⟩ | ⟨_, ad, rfl, evs, h4, h5, h6⟩
  · simp [strOf] at hl; subst hl
    simp [Conv.bytesToString]; rfl
  · obtain ⟨ns, k1, k2⟩ := strOf_rep hl h4
    have hfl : flat evs = evs := by
      subst k1
      clear h4 k2 h6
      induction ns with
      | nil => rfl
      | cons n ns ih => simp only [flat, List.map_cons, List.flatMap_cons] at ih ⊢; rw [ih]; rfl
    have hlen : xs.length = evs.length := h4.length
    have hload : (loadCells ad xs.length).run P w = .ok (ns.map (Value.int .u8)).toArray w := by
      have := run_loadCells_list (P := P) w ad evs (fun j u hj => hi.known _ _ (h6 j u (by rw [hfl]; exact hj)))
      rw [hlen, ← k1]; exact this
    rw [run_bytesToString w ad xs.length cap ns hload, push_foldl, k2]
    congr 1

theorem op_toStrL (hi : Inv w0 φ g m w) (ht : Told A F past φ g m e ρ) {s d el : TypeId} {x : Operand} (ho : o.op = .convert s d x) (hs : P.underlying s = some (.slice el)) (he' : P.underlying el = some (.int .u8)) (hd : P.underlying d = some .string) {y : Opd}
    (hx : opdOf A F past x = some y) {v : V} (hv : pureOp e (.toStr false y) = some v ∨ readOp m e (.toStr false y) = some v) : OpDone P w0 ρ o φ g m w v m := by
  have h1 := ht x y hx
  rcases hv with hv | hv
  · simp only [pureOp] at hv
    split at hv <;> try (simp_all; done)
    rename_i nl sz xs _ he
    rw [he] at h1
    obtain ⟨l, hl, rfl⟩ := omap hv
    exact OpDone.same hi (cv := .string ⟨l.toArray⟩) (by simp [execOp, ho, toStr_run hs he' hd hi h1 hl]) rfl
  · simp only [readOp] at hv
    split at hv
    · rename_i k n he
      rw [he] at h1
      split at hv
      · rename_i sz born xs hk
        obtain ⟨l, hl, rfl⟩ := omap hv
        have := seal_gs h1 (y := .sl (born && n == 0) sz (xs.take n)) (by simp [V.shut, hk])
        exact OpDone.same hi (cv := .string ⟨l.toArray⟩) (by simp [execOp, ho, toStr_run hs he' hd hi this hl]) rfl
      · simp at hv
    · simp at hv
end
end Go.Vm
-- VmU: One operation, the last: rows that are made, loads, stores, new variables, growing rows.
namespace Go.Vm
open Go Go.RowKit

section
variable {P : Program} {w0 : World} {φ : Phi} {g : List GO} {m : Mem} {w : World} {ρ : Operand → Value} {o : Oper}
variable {A : Ann} {F : FAnn} {past : List (Option Tmp)} {e : Opd → V}

theorem le_grownCap (w : World) (need old : Nat) (el : TypeId) : need ≤ grownCap w need old el := by
  unfold grownCap; simp [Question.cut]

theorem below_bytesWorld (w : World) (el : TypeId) (s : ByteArray) : Below w.heap.size w (Lib.bytesWorld w el s) := by
  refine ⟨?_, ?_, ?_, by rw [Lib.bytesWorld_size]; omega, fun k hk => Lib.bytesWorld_at_old w el s k hk⟩ <;> (simp only [Lib.bytesWorld, World.freeze]; rfl)

theorem bytesV_rep (φ : Phi) : ∀ (l : List UInt8), RepCL φ (bytesV l) (l.map fun b => Value.int .u8 b.toNat)
  | [] => RepCL.nil
  | b :: l => RepCL.cons rfl (bytesV_rep φ l)
theorem flat_bytes : ∀ (l : List UInt8), flat (l.map fun b => Value.int .u8 b.toNat) = l.map fun b => Value.int .u8 b.toNat
  | [] => rfl
  | b :: l => by have := flat_bytes l; simp only [flat, List.map_cons, List.flatMap_cons] at this ⊢; rw [this]; rfl
theorem bytesV_fits {l : List UInt8} {x : V} (hx : x ∈ bytesV l) : x.fits 1 = true := by
  unfold bytesV at hx
  obtain ⟨b, _, rfl⟩ := List.mem_map.1 hx
  rfl

theorem op_toBytes (hi : Inv w0 φ g m w) (ht : Told A F past φ g m e ρ) {s d el : TypeId} {x : Operand} (ho : o.op = .convert s d x) (hs : P.underlying s = some .string) (hd : P.underlying d = some (.slice el)) (he' : P.underlying el = some (.int .u8)) {y : Opd}
    (hx : opdOf A F past x = some y) {v : V} (hv : pureOp e (.toBytes y) = some v) : OpDone P w0 ρ o φ g m w v m := by
  have h1 := ht x y hx
  simp only [pureOp] at hv
  split at hv
  · rename_i l he
    rw [he] at h1
    have h1 := rep_str h1
    split at hv
    · cases hv
      have hb := below_bytesWorld w el ⟨l.toArray⟩
      have hg := hi.knowGoes hb (fun _ => true)
      refine ⟨_, .slice (some ⟨w.heap.size, 0, none⟩) l.length (grownCap w l.length 0 el), Lib.bytesWorld w el ⟨l.toArray⟩, _, g, ?_, .inl rfl, hg, ?_⟩
      · simp [execOp, ho, h1, Lib.run_convert_string_bytes (P := P) w s d el ⟨l.toArray⟩ hs hd he']
      · have hlen : (bytesV l).length = l.length := by simp [bytesV]
        have := sl_rep (φ := know φ w (Lib.bytesWorld w el ⟨l.toArray⟩) fun _ => true) (g := g) (m := m) (sz := 1) (xs := bytesV l) (a := ⟨w.heap.size, 0, none⟩) (cap := grownCap w l.length 0 el) (by rw [hlen]; exact le_grownCap _ _ _ _) ?_
        · rw [hlen] at this; exact this
        · refine ⟨l.map fun b => .int .u8 b.toNat, bytesV_rep _ l, fun x hx => bytesV_fits hx, fun j u hj => ?_⟩
          · rw [flat_bytes] at hj
            have hjl : j < l.length := by have := (List.getElem?_eq_some_iff.1 hj).1; simpa using this
            rw [add_mk, Nat.zero_add, know_new (by simp) rfl, Lib.bytesWorld_cell w el ⟨l.toArray⟩ j (by simpa using hjl)]
            simp [hjl] at hj
            simp [hjl, ← hj]
    · simp at hv
  · simp at hv

/-- Loads. -/
theorem op_load (hi : Inv w0 φ g m w) (ht : Told A F past φ g m e ρ) {t : TypeId} {x : Operand} (ho : o.op = .load t x) {sz : Option Nat} (hs : szT P t = some sz) {y : Opd} (hx : opdOf A F past x = some y) {v : V}
    (hv : readOp m e (.load sz y) = some v) : OpDone P w0 ρ o φ g m w v m := by
  have h1 := ht x y hx
  obtain ⟨d, i, hd, hinf, rfl⟩ := szT_some hs
  -- the load out of cells that are known
  have main : ∀ (a : Addr) (cs : List V) (l : List Value) (off : Nat), RepL φ g m cs l → (∀ x ∈ l, x.oneCell' = true) → (∀ j u, l[j]? = some u → w.cell? (a.add j) = some u) → ρ x = .pointer (some (a.add off)) →
      part cs off (if aggT P t then some i.size else none) = some v → OpDone P w0 ρ o φ g m w v m := by
    intro a cs l off hr h1c hc hp hpart
    have hl := hr.length
    cases ha : aggT P t with
    | true =>
      rw [ha] at hpart
      simp only [if_true, part] at hpart
      split at hpart
      · rename_i hb
        cases hpart
        have hload : (loadCells (a.add off) i.size).run P w = .ok ((l.drop off).take i.size).toArray w := by
          have hlen : ((l.drop off).take i.size).length = i.size := by simp; omega
          have := run_loadCells_list (P := P) w (a.add off) ((l.drop off).take i.size) (fun j u hj => by
            rw [List.getElem?_take] at hj
            split at hj
            · rw [List.getElem?_drop] at hj
              rw [Addr.add_add]; exact hc _ _ hj
            · simp at hj)
          rw [hlen] at this; exact this
        refine OpDone.same hi (cv := .agg ((l.drop off).take i.size).toArray) ?_ ⟨_, rfl, (hr.drop off).take _, fun x hx => h1c x (List.mem_of_mem_drop (List.mem_of_mem_take hx))⟩
        simp [execOp, ho, Instr.loadAt, hp, Instr.sureAddr, loadVar, run_isAgg hd, ha, sizeOf, typeInfo, hinf, hload]
      · simp at hpart
    | false =>
      rw [ha] at hpart
      simp only [Bool.false_eq_true, if_false, part] at hpart
      obtain ⟨c, hc1, hc2⟩ := hr.get hpart
      refine OpDone.same hi (cv := c) ?_ hc2
      simp [execOp, ho, Instr.loadAt, hp, Instr.sureAddr, loadVar, run_isAgg hd, ha, hc _ _ hc1]
  simp only [readOp] at hv
  split at hv
  · rename_i z off he
    rw [he] at h1
    obtain ⟨a, ev, k1, kf, k2, k3⟩ := h1
    exact main a z.cells ev.cells.toList off (RepCL.rep _ _ (k1.cellsC kf)) (k1.cells kf).2 (fun j u hj => hi.known _ _ (k2 j u hj)) k3 hv
  · rename_i r off he
    rw [he] at h1
    obtain ⟨blk, k1, k2⟩ := h1
    split at hv
    · rename_i cs hcs
      obtain ⟨blk', cvs, q1, q2, q3, q4, q5⟩ := hi.cells r cs hcs
      rw [k1] at q1; cases q1
      exact main ⟨blk, 0, none⟩ cs cvs off q2 q3 (fun j u hj => by rw [add_mk, Nat.zero_add]; exact q4 j u hj) (by rw [add_mk, Nat.zero_add]; exact k2) hv
    · simp at hv
  · simp at hv

/-- Stores. -/
theorem op_store (hi : Inv w0 φ g m w) (ht : Told A F past φ g m e ρ) {t : TypeId} {x z : Operand} (ho : o.op = .store t x z) {n b : Nat} (hn : szOf P t = some n) {y y' : Opd} (hx : opdOf A F past x = some y) (hz : opdOf A F past z = some y') {v : V} {m' : Mem}
    (hv : effOp b m e (.store n y y') = some (v, m')) : OpDone P w0 ρ o φ g m w v m' := by
  have h1 := ht x y hx
  have h2 := ht z y' hz
  simp only [effOp] at hv
  split at hv <;> try (simp at hv; done)
  rename_i r off he
  split at hv <;> try (simp at hv; done)
  rename_i cs hcs
  split at hv <;> try (simp at hv; done)
  rename_i hc
  cases hv
  rw [he] at h1
  obtain ⟨blk, k1, k2⟩ := h1
  obtain ⟨c1, c2, c3, c4⟩ := h2.cells hc.1
  obtain ⟨s1, s2⟩ := hi.store hcs k1 off (e y').cells (ρ z).cells.toList c2 c3 (by rw [c4]; exact hc.2.1)
  rw [c4] at s2
  refine ⟨.skip, undef, _, φ, g, ?_, .inr ⟨rfl, rfl⟩, s2, trivial⟩
  have hsz : (ρ z).cells.size = n := by simpa using c1
  have hst := run_storeCells_cells (P := P) blk off (ρ z).cells.toList 0 w (by simpa using fun j hj => (s1 j (by simpa using hj)).1) (by simpa using fun j hj => (s1 j (by simpa using hj)).2) c3
  simp only [Nat.add_zero] at hst
  simp [execOp, ho, Instr.storeAt, k2, Instr.sureAddr, storeVar, run_sizeOf hn, hsz, hst]
end
end Go.Vm
-- VmV: One operation, the last but one: rows out of elements, new variables, walks over strings.
namespace Go.Vm
open Go Go.RowKit

section
variable {P : Program} {w0 : World} {φ : Phi} {g : List GO} {m : Mem} {w : World} {ρ : Operand → Value} {o : Oper}
variable {A : Ann} {F : FAnn} {past : List (Option Tmp)} {e : Opd → V}

theorem fill_flat (sz : Nat) : ∀ (vals : List Value) (k : Nat) (cells : List Value), (∀ v ∈ vals, v.cells.size = sz) → (k + vals.length) * sz ≤ cells.length →
    Instr.fill (fun i => some (i * sz, sz)) cells.toArray ((vals.zipIdx k).map fun x => (x.2, x.1)) = some (cells.take (k * sz) ++ flat vals ++ cells.drop ((k + vals.length) * sz)).toArray
  | [], k, cells, _, h => by simp [Instr.fill, flat]
  | v :: vals, k, cells, hs, h => by
    have hv := hs v (by simp)
    have h' : k * sz + sz + vals.length * sz ≤ cells.length := by
      have : (k + (vals.length + 1)) * sz = k * sz + sz + vals.length * sz := by rw [Nat.add_mul, Nat.add_mul]; omega
      simp only [List.length_cons] at h; omega
    simp only [List.zipIdx_cons, List.map_cons, Instr.fill]
    have e1 : (v.cells.size ≠ sz || k * sz + v.cells.size > cells.toArray.size) = false := by simp [hv]; omega
    simp only [e1, Bool.false_eq_true, if_false]
    rw [lay_array (k * sz) v.cells cells.toArray (by simp; omega), hv]
    have hlen : (cells.take (k * sz)).length = k * sz := by simp; omega
    have hvl : v.cells.toList.length = sz := by simpa using hv
    rw [fill_flat sz vals (k + 1) _ (fun u hu => hs u (by simp [hu])) (by
      have : (k + 1 + vals.length) * sz = k * sz + sz + vals.length * sz := by rw [Nat.add_mul, Nat.add_mul]; omega
      simp; omega)]
    congr 1
    have e2 : (k + 1) * sz = k * sz + sz := by rw [Nat.add_mul]; omega
    have e3 : (k + 1 + vals.length) * sz = k * sz + sz + vals.length * sz := by rw [Nat.add_mul, Nat.add_mul]; omega
    have e4 : (k + (v :: vals).length) * sz = k * sz + sz + vals.length * sz := by simp only [List.length_cons]; rw [Nat.add_mul, Nat.add_mul]; omega
    rw [e2, e3, e4]
    have htk : ((cells.take (k * sz) ++ v.cells.toList) ++ cells.drop (k * sz + sz)).take (k * sz + sz) = cells.take (k * sz) ++ v.cells.toList := by
      rw [List.take_append_of_le_length (by simp [hlen, hvl]), List.take_of_length_le (by simp [hlen, hvl])]
    have hdr : ((cells.take (k * sz) ++ v.cells.toList) ++ cells.drop (k * sz + sz)).drop (k * sz + sz + vals.length * sz) = cells.drop (k * sz + sz + vals.length * sz) := by
      rw [List.drop_append, List.drop_of_length_le (by simp [hlen, hvl])]
      simp only [List.nil_append, List.drop_drop, List.length_append, hlen, hvl]
      congr 1; omega
    simp only [htk, hdr, flat, List.flatMap_cons]
    simp

theorem parts_range {n : Nat} {α : Type} : ∀ (l : List (Nat × α)) (k : Nat), l.map (·.1) = List.range' k n → l.length = n
  | l, k, h => by have := congrArg List.length h; simpa using this

theorem parts_zip : ∀ (l : List (Nat × Operand)) (k n : Nat), l.map (·.1) = List.range' k n → (l.map fun x => (x.1, ρ x.2)) = ((l.map fun x => ρ x.2).zipIdx k).map fun x => (x.2, x.1)
  | [], k, n, _ => by simp
  | x :: l, k, 0, h => by simp at h
  | x :: l, k, n + 1, h => by
    simp only [List.map_cons, List.range'_succ, List.cons.injEq] at h
    have := parts_zip l (k + 1) n h.2
    simp only [List.map_cons, List.zipIdx_cons]
    rw [this, h.1]

/-- A literal of a slice: the world it leaves, and its cells. -/
theorem run_buildSlice {t el : TypeId} {n sz : Nat} {parts : Array (Nat × Operand)} (hu : P.underlying t = some (.slice el)) (hn : szOf P el = some sz) {z : V} (hz : zeroT P el = some z)
    (hp : parts.toList.map (·.1) = List.range n) (hbig : n * sz ≤ 16777216) (hs : ∀ x ∈ parts.toList, (ρ x.2).cells.size = sz) :
    (Instr.buildSlice t n (parts.map fun x => (x.1, ρ x.2))).run P w = .ok (.slice (some ⟨w.heap.size, 0, none⟩) n n) (w.alloc (.cells (flat (parts.toList.map fun x => ρ x.2)).toArray el)) := by
  obtain ⟨cz, hzr, hzc, _⟩ := zeroT_run (φ := fun _ => none) hz w
  have hlen : parts.toList.length = n := by have := congrArg List.length hp; simpa using this
  have hbig' : ¬ (16777216 < n * sz) := by omega
  have hrange : parts.toList.map (·.1) = List.range' 0 n := by rw [hp, List.range_eq_range']
  have e1 : (parts.map fun x => (x.1, ρ x.2)).toList = ((parts.toList.map fun x => ρ x.2).zipIdx 0).map fun x => (x.2, x.1) := by
    rw [Array.toList_map]; exact parts_zip parts.toList 0 n hrange
  have fin : ∀ (zs : Array Value), Instr.fill (fun i => some (i * sz, sz)) ((Array.range (n * sz)).map fun i => zs[i % zs.size]!) (parts.map fun x => (x.1, ρ x.2)).toList = some (flat (parts.toList.map fun x => ρ x.2)).toArray := by
    intro zs
    rw [e1]
    have := fill_flat sz (parts.toList.map fun x => ρ x.2) 0 ((Array.range (n * sz)).map fun i => zs[i % zs.size]!).toList (fun v hv => by
      obtain ⟨x, hx, rfl⟩ := List.mem_map.1 hv
      exact hs x hx) (by simp [hlen])
    simp only [Array.toArray_toList] at this
    rw [this]
    congr 1
    have : ((Array.range (n * sz)).map fun i => zs[i % zs.size]!).toList.drop ((0 + (parts.toList.map fun x => ρ x.2).length) * sz) = [] := by
      apply List.drop_of_length_le
      simp at hlen
      simp [hlen]
    rw [this]; simp
  unfold Instr.buildSlice
  simp only [Sem.run_bind, run_underlying hu, Result.andThen_ok, run_sizeOf hn]
  by_cases h0 : n * sz = 0
  · have := fin #[]
    simp [hbig', h0, newRow] at this ⊢
    rw [this]
    simp
  · have := fin cz.cells
    simp [hbig', h0, newRow, hzr] at this ⊢
    rw [this]
    simp

theorem belowL_all {b : Nat} : ∀ {l : List V}, V.underL b l = true → ∀ x ∈ l, x.under b = true
  | [], _, x, hx => by simp at hx
  | v :: l, h, x, hx => by
    simp [V.underL] at h
    rcases List.mem_cons.1 hx with rfl | hx
    · exact h.1
    · exact belowL_all h.2 x hx

/-- What a literal's elements are. -/
theorem parts_rep (ht : Told A F past φ g m e ρ) {parts : List (Nat × Operand)} {xs : List Opd} (hx : mapM' (fun (x : Nat × Operand) => opdOf A F past x.2) parts = some xs) {sz : Nat}
    (hu : V.underL 0 (xs.map e) = true) (hf : (xs.map e).all (V.fits sz) = true) :
    RepCL φ (xs.map e) (parts.map fun x => ρ x.2) ∧ (∀ x ∈ xs.map e, x.fits sz = true) ∧ ∀ x ∈ parts, (ρ x.2).cells.size = sz := by
  have hr : RepL φ g m (xs.map e) (parts.map fun x => ρ x.2) := by
    clear hu hf
    induction parts generalizing xs with
    | nil => simp [mapM'] at hx; subst hx; exact RepL.nil
    | cons p parts ih =>
      simp only [mapM'] at hx
      obtain ⟨y, h1, hx⟩ := obind hx
      obtain ⟨ys, h2, rfl⟩ := omap hx
      exact RepL.cons (ht _ _ h1) (ih h2)
  have hc := RepL.closed _ _ hu hr
  have hff : ∀ x ∈ xs.map e, x.fits sz = true := fun x hx => List.all_eq_true.1 hf x hx
  refine ⟨hc, hff, fun p hp => ?_⟩
  obtain ⟨i, hi⟩ := List.mem_iff_getElem?.1 hp
  obtain ⟨y, hy1, hy2⟩ := mapM'_get hx hi
  have h1 := ht _ _ hy2
  have h2 := (h1.cells (hff (e y) (List.mem_map.2 ⟨y, List.mem_of_getElem? hy1, rfl⟩))).1
  simpa using h2

theorem op_mksl (hi : Inv w0 φ g m w) (ht : Told A F past φ g m e ρ) {t el : TypeId} {n sz : Nat} {parts : Array (Nat × Operand)} (ho : o.op = .buildSlice t n parts) (hp : parts.toList.map (·.1) = List.range n) (hu : P.underlying t = some (.slice el))
    (hn : szOf P el = some sz) {z : V} (hz : zeroT P el = some z) {xs : List Opd} (hx : mapM' (fun (x : Nat × Operand) => opdOf A F past x.2) parts.toList = some xs) {v : V} (hv : pureOp e (.mksl sz xs) = some v) : OpDone P w0 ρ o φ g m w v m := by
  simp only [pureOp] at hv
  split at hv <;> try (simp at hv; done)
  rename_i hc
  cases hv
  simp only [Bool.and_eq_true, decide_eq_true_eq] at hc
  obtain ⟨h1, h2, h3⟩ := parts_rep ht hx hc.1.1 hc.1.2
  have hlen : parts.toList.length = n := by have := congrArg List.length hp; simpa using this
  have hxl : xs.length = n := by rw [mapM'_length hx, hlen]
  have hrun := run_buildSlice (ρ := ρ) (w := w) hu hn hz hp (by rw [← hxl]; exact hc.2) h3
  have hb := below_alloc w (.cells (flat (parts.toList.map fun x => ρ x.2)).toArray el)
  have hg := hi.knowGoes hb (fun _ => true)
  refine ⟨_, .slice (some ⟨w.heap.size, 0, none⟩) n n, _, _, g, ?_, .inl rfl, hg, ?_⟩
  · simp only [execOp, ho, Sem.run_bind, hrun, Result.andThen_ok, Sem.run_pure]
  · have hl : (xs.map e).length = n := by simp [hxl]
    have := sl_rep (φ := know φ w (w.alloc (.cells (flat (parts.toList.map fun x => ρ x.2)).toArray el)) fun _ => true) (g := g) (m := m) (sz := sz) (xs := xs.map e) (a := ⟨w.heap.size, 0, none⟩) (cap := n) (by omega) ?_
    · rw [hl] at this; exact this
    · refine ⟨_, RepCL.ext hg.ext _ _ h1, h2, fun j u hj => ?_⟩
      rw [add_mk, Nat.zero_add, know_new (by simp) rfl, World.cell?_alloc_new]
      simpa using hj

theorem op_mkbuf (hi : Inv w0 φ g m w) (ht : Told A F past φ g m e ρ) {t el : TypeId} {n sz : Nat} {parts : Array (Nat × Operand)} (ho : o.op = .buildSlice t n parts) (hp : parts.toList.map (·.1) = List.range n) (hu : P.underlying t = some (.slice el))
    (hn : szOf P el = some sz) {z : V} (hz : zeroT P el = some z) {xs : List Opd} (hx : mapM' (fun (x : Nat × Operand) => opdOf A F past x.2) parts.toList = some xs) {v : V} {b : Nat} {m' : Mem} (hv : effOp b m e (.mkbuf sz xs) = some (v, m')) : OpDone P w0 ρ o φ g m w v m' := by
  simp only [effOp] at hv
  split at hv <;> try (simp at hv; done)
  rename_i hc
  cases hv
  simp only [Bool.and_eq_true, decide_eq_true_eq] at hc
  obtain ⟨h1, h2, h3⟩ := parts_rep ht hx hc.1.1 hc.1.2
  have hlen : parts.toList.length = n := by have := congrArg List.length hp; simpa using this
  have hxl : xs.length = n := by rw [mapM'_length hx, hlen]
  have hrun := run_buildSlice (ρ := ρ) (w := w) hu hn hz hp (by rw [← hxl]; exact hc.2) h3
  have hb := below_alloc w (.cells (flat (parts.toList.map fun x => ρ x.2)).toArray el)
  have hl : (xs.map e).length = n := by simp [hxl]
  have hfl := flat_length h1 h2
  obtain ⟨φ', hg, hels⟩ := hi.pushRow hb false sz n (xs.map e) _ h1 h2 (by simp) (by omega) (by simp) (fun j u hj => by rw [World.cell?_alloc_new]; simpa using hj)
    (fun j hj => ⟨fun hlt => by rw [hl] at hj; omega, World.frozen?_alloc_new w _ el j⟩) (fun j => World.frozen?_alloc_new w _ el j)
  refine ⟨_, .slice (some ⟨w.heap.size, 0, none⟩) n n, _, φ', _, ?_, .inl rfl, hg, ?_⟩
  · simp only [execOp, ho, Sem.run_bind, hrun, Result.andThen_ok, Sem.run_pure]
  · refine ⟨sz, false, xs.map e, some ⟨w.heap.size, 0, none⟩, n, look_cons_self _ _, by rw [← hi.len]; exact look_cons_self _ _, by simp, fun _ => by rw [hxl], .inr ⟨by simp, _, _, by rw [hxl], by omega, ?_⟩⟩
    rw [List.take_of_length_le (by simp)]
    exact hels

theorem op_nilbuf (hi : Inv w0 φ g m w) (hc : ∀ v, ρ (.const v) = v) {x : Operand} (ho : o.op = .move x ∨ o.op = .assign x) (hx : x = .const (.slice none 0 0)) {sz b : Nat} {v : V} {m' : Mem}
    (hv : effOp b m e (.nilbuf sz) = some (v, m')) : OpDone P w0 ρ o φ g m w v m' := by
  simp only [effOp] at hv
  cases hv
  subst hx
  have hg := hi.pushNil sz
  refine ⟨_, .slice none 0 0, w, φ, _, ?_, .inl rfl, hg, ⟨sz, true, [], none, 0, look_cons_self _ _, by rw [← hi.len]; exact look_cons_self _ _, by simp, fun _ => rfl, .inl ⟨rfl, rfl, rfl⟩⟩⟩
  rcases ho with ho | ho <;> simp [execOp, ho, hc]

theorem withBufs_rep : ∀ (bufs : List (Nat × Nat)) {φ : Phi} {g : List GO} {m : Mem} {w : World} {cs : List V} {l : List Value} {cs' : List V} {m' : Mem}, Inv w0 φ g m w → RepL φ g m cs l → withBufs m cs bufs = some (cs', m') →
    ∃ g', Goes w0 φ g m φ g' m' w ∧ RepL φ g' m' cs' l ∧ m.length ≤ m'.length
  | [], φ, g, m, w, cs, l, cs', m', hi, hr, h => by simp [withBufs] at h; obtain ⟨rfl, rfl⟩ := h; exact ⟨g, Goes.refl hi, hr, Nat.le_refl _⟩
  | (off, sz) :: r, φ, g, m, w, cs, l, cs', m', hi, hr, h => by
    simp only [withBufs] at h
    split at h
    · rename_i z hcs
      obtain ⟨c, hc1, hc2⟩ := hr.get hcs
      have hg := hi.pushNil sz
      have hcn : c = .slice none 0 0 := by
        obtain ⟨a, cap, hc3, _, h⟩ := rep_sl hc2
        rcases h with ⟨_, _, rfl, rfl⟩ | ⟨h, _⟩
        · exact hc3
        · cases h
      have hr' : RepL φ (.row none 0 :: g) (.buf sz true [] :: m) (cs.set off (.gs m.length 0)) l := by
        have := RepL.set off (hg.repL hi hr) (v := .gs m.length 0) (x := c) (by
          subst hcn
          exact ⟨sz, true, [], none, 0, look_cons_self _ _, by rw [← hi.len]; exact look_cons_self _ _, by simp, fun _ => rfl, .inl ⟨rfl, rfl, rfl⟩⟩)
        have e : l.set off c = l := by
          apply List.ext_getElem?
          intro i
          by_cases hio : off = i
          · subst hio
            have := (List.getElem?_eq_some_iff.1 hc1).1
            rw [List.getElem?_set_self this, hc1]
          · rw [List.getElem?_set_ne hio]
        rw [e] at this; exact this
      obtain ⟨g', k1, k2, k3⟩ := withBufs_rep r hg.inv hr' h
      exact ⟨g', hg.trans k1 (by simp), k2, by simp at k3; omega⟩
    · exact withBufs_rep r hi hr h
    · exact withBufs_rep r hi hr h
    · simp at h

theorem op_new (hi : Inv w0 φ g m w) {cs : List V} {l : List Value} {el : TypeId} (hr : RepL φ g m cs l) (h1 : ∀ v ∈ l, v.oneCell' = true) (hrun : (execOp ρ o).run P w = .ok (.value (.pointer (some ⟨w.heap.size, 0, none⟩))) (w.alloc (.cells l.toArray el)))
    {bufs : List (Nat × Nat)} {cs' : List V} {m' : Mem} (hv : withBufs m cs bufs = some (cs', m')) : OpDone P w0 ρ o φ g m w (.ptr m'.length 0) (.cells cs' :: m') := by
  obtain ⟨g', k1, k2, k3⟩ := withBufs_rep bufs hi hr hv
  have hg := k1.inv.push cs' l el k2 h1
  refine ⟨_, _, _, φ, _, hrun, .inl rfl, k1.trans hg k3, ⟨w.heap.size, by rw [← k1.inv.len]; exact look_cons_self _ _, rfl⟩⟩

theorem op_alloc (hi : Inv w0 φ g m w) {el : TypeId} (ho : o.op = .alloc el) {z : V} (hz : zeroT P el = some z) (hzf : z.fits z.cells.length = true) {bufs : List (Nat × Nat)} {v : V} {b : Nat} {m' : Mem} (hv : effOp b m e (.alloc z.cells bufs) = some (v, m')) : OpDone P w0 ρ o φ g m w v m' := by
  obtain ⟨cz, hzr, hzc, _⟩ := zeroT_run (φ := φ) hz w
  simp only [effOp] at hv
  obtain ⟨⟨cs', m''⟩, h1, h2⟩ := omap hv
  cases h2
  have hc := Rep.cells (g := g) (m := m) (hzc.rep z cz) hzf
  refine op_new (el := el) hi hc.2.1 hc.2.2.1 ?_ h1
  simp [execOp, ho, Instr.alloc, hzr, newVar, newRow]

theorem op_box (hi : Inv w0 φ g m w) (ht : Told A F past φ g m e ρ) {el : TypeId} {x : Operand} (ho : o.op = .box el x) {y : Opd} (hx : opdOf A F past x = some y) {bufs : List (Nat × Nat)} {v : V} {b : Nat} {m' : Mem} (hv : effOp b m e (.box y bufs) = some (v, m')) : OpDone P w0 ρ o φ g m w v m' := by
  have h1 := ht x y hx
  simp only [effOp] at hv
  split at hv <;> try (simp at hv; done)
  rename_i hf
  obtain ⟨⟨cs', m''⟩, h2, h3⟩ := omap hv
  cases h3
  have hc := h1.cells hf
  refine op_new (el := el) hi hc.2.1 hc.2.2.1 ?_ h2
  simp [execOp, ho, Instr.box, newVar, newRow]

theorem op_range (hi : Inv w0 φ g m w) (ht : Told A F past φ g m e ρ) {t : TypeId} {x : Operand} (ho : o.op = .range t x) (hu : P.underlying t = some .string) {y : Opd} (hx : opdOf A F past x = some y) {v : V} {b : Nat} {m' : Mem}
    (hv : effOp b m e (.range y) = some (v, m')) : OpDone P w0 ρ o φ g m w v m' := by
  have h1 := ht x y hx
  simp only [effOp] at hv
  split at hv <;> try (simp at hv; done)
  rename_i s he
  cases hv
  rw [he] at h1
  have h1 := rep_str h1
  have hg := hi.pushIter s 0
  refine ⟨_, .pointer (some ⟨w.heap.size, 0, none⟩), _, φ, _, ?_, .inl rfl, hg, ⟨w.heap.size, by rw [← hi.len]; exact look_cons_self _ _, rfl⟩⟩
  simp [execOp, ho, Instr.range, run_underlying hu, h1]

theorem op_next (hi : Inv w0 φ g m w) (ht : Told A F past φ g m e ρ) {x : Operand} (ho : o.op = .next x true) {y : Opd} (hx : opdOf A F past x = some y) {v : V} {b : Nat} {m' : Mem}
    (hv : effOp b m e (.next y) = some (v, m')) : OpDone P w0 ρ o φ g m w v m' := by
  have h1 := ht x y hx
  simp only [effOp] at hv
  split at hv <;> try (simp at hv; done)
  rename_i r he
  split at hv <;> try (simp at hv; done)
  rename_i s pos hl
  rw [he] at h1
  obtain ⟨blk, k1, k2⟩ := h1
  obtain ⟨blk', q1, q2⟩ := hi.iters r s pos hl
  rw [k1] at q1; cases q1
  have hget : (getObj blk).run P w = .ok (.stringIter ⟨s.toArray⟩ pos) w := by simp [getObj, Sem.run, q2]
  split at hv
  · rename_i hlt
    cases hv
    have hg := hi.next hl k1 (pos + (Utf8.decode ⟨s.toArray⟩ pos).2)
    refine ⟨_, .tuple #[.bool true, .int .i64 pos, .int .i32 (Utf8.decode ⟨s.toArray⟩ pos).1], _, φ, g, ?_, .inl rfl, hg, ⟨[_, _, _], rfl, RepL.cons rfl (RepL.cons rfl (RepL.cons rfl RepL.nil))⟩⟩
    simp [execOp, ho, Instr.next, k2, hget, hlt, setObj, Sem.run, q2, goInt, Result.andThen]
  · rename_i hlt
    cases hv
    refine ⟨_, .tuple #[.bool false], w, φ, g, ?_, .inl rfl, Goes.refl hi, ⟨[_], rfl, RepL.cons rfl RepL.nil⟩⟩
    simp [execOp, ho, Instr.next, k2, hget, hlt]
end
end Go.Vm
-- VmW: One operation, the very last: make, append.
namespace Go.Vm
open Go Go.RowKit

theorem upd_same {α : Type} : ∀ {m : List α} {r : Nat} {o : α}, look m r = some o → upd m r o = m
  | [], _, _, h => by simp [look] at h
  | x :: m, r, o, h => by
    simp only [look] at h
    simp only [upd]
    split at h
    · rename_i e; cases h; rw [if_pos e]
    · rename_i e; rw [if_neg e, upd_same h]

section
variable {P : Program} {w0 : World} {φ : Phi} {g : List GO} {m : Mem} {w w' : World} {ρ : Operand → Value} {o : Oper}
variable {A : Ann} {F : FAnn} {past : List (Option Tmp)} {e : Opd → V}

theorem flat_replicate (c : Value) : ∀ (n : Nat), (List.range (n * c.cells.size)).map (fun i => c.cells[i % c.cells.size]!) = flat (List.replicate n c)
  | 0 => by simp [flat]
  | n + 1 => by
    rw [show (n + 1) * c.cells.size = c.cells.size + n * c.cells.size by rw [Nat.add_mul]; omega, List.range_add, List.map_append]
    rw [List.replicate_succ]
    have ih := flat_replicate c n
    simp only [flat, List.flatMap_cons] at ih ⊢
    congr 1
    · apply List.ext_getElem (by simp)
      intro i h1 h2
      simp at h1
      simp [Nat.mod_eq_of_lt h1, h1]
    · rw [← ih, List.map_map]
      apply List.map_congr_left
      intro i _
      simp

theorem repCL_replicate {z : V} {cz : Value} (h : RepC φ z cz) : ∀ n, RepCL φ (List.replicate n z) (List.replicate n cz)
  | 0 => RepCL.nil
  | n + 1 => RepCL.cons h (repCL_replicate h n)

theorem op_mkslice (hi : Inv w0 φ g m w) (ht : Told A F past φ g m e ρ) {t el : TypeId} {l c : Operand} (ho : o.op = .makeSlice t l c) (hu : P.underlying t = some (.slice el)) {sz bs : Nat} (hn : szOf P el = some sz) (hbs : bytesOf P el = some bs) {z : V} (hz : zeroT P el = some z)
    {y y' : Opd} (hx : opdOf A F past l = some y) (hy : opdOf A F past c = some y') {v : V} (hv : pureOp e (.mkslice sz bs z y y') = some v) : OpDone P w0 ρ o φ g m w v m := by
  have h1 := ht l y hx
  have h2 := ht c y' hy
  obtain ⟨cz, hzr, hzc, i, hinf, hiz⟩ := zeroT_run (φ := φ) hz w
  simp only [pureOp] at hv
  split at hv <;> try (simp at hv; done)
  rename_i k n k' n' he he'
  split at hv <;> try (simp at hv; done)
  rename_i hc
  obtain ⟨e1, h0, hbig, hbytes, hf, hcl⟩ := hc
  subst e1
  cases hv
  rw [he] at h1; rw [he'] at h2
  have h1 := rep_int h1; have h2 := rep_int h2
  obtain ⟨n, rfl⟩ := Int.eq_ofNat_of_zero_le h0
  have hbs' : i.bytes = bs := by simpa [bytesOf, hinf] using hbs
  have hcsz : cz.cells.size = sz := by have := (Rep.cells (g := g) (m := m) (hzc.rep z cz) hf).1; simpa using this
  have hwrap : IntKind.i64.wrap (n : Int) = n := by
    simp [IntKind.wrap, IntKind.bits, IntKind.signed] at *
    omega
  have hb2 : (bs : Int) * n ≤ 140737488355328 := by rw [Int.mul_comm]; exact hbytes
  have hrun : (execOp ρ o).run P w = .ok (.value (.slice (some ⟨w.heap.size, 0, none⟩) n n)) (w.alloc (.cells (flat (List.replicate n cz)).toArray el)) := by
    have hcells : ((Array.range (n * sz)).map fun j => (if n * sz = 0 then #[] else cz.cells)[j % (if n * sz = 0 then #[] else cz.cells).size]!) = (flat (List.replicate n cz)).toArray := by
      apply Array.ext'
      rw [← flat_replicate, hcsz]
      by_cases h0 : n * sz = 0
      · simp [h0]
      · simp [h0, hcsz]
    have hnt : ¬ ((n : Int) < 0) := by omega
    have hnt2 : ¬ ((281474976710656 : Int) < (bs : Int) * n) := by omega
    simp only [execOp, ho, Instr.makeSlice, Sem.run_bind, run_underlying hu, Result.andThen_ok, h1, h2]
    simp only [asInt, asIntOf, Sem.run_bind, Sem.run_pure, Result.andThen_ok, typeInfo, run_program, hinf, hbs', hwrap]
    by_cases h0 : n * sz = 0
    · simp [h0] at hcells
      simp [hnt2, run_sizeOf hn, newRow, h0, ← hcells]
      intro hh; exact absurd hh hnt
    · simp [h0] at hcells
      simp [hnt2, run_sizeOf hn, newRow, h0, hzr, ← hcells]
      intro hh; exact absurd hh hnt
  have hb := below_alloc w (.cells (flat (List.replicate n cz)).toArray el)
  have hg := hi.knowGoes hb (fun _ => true)
  refine ⟨_, _, _, _, g, hrun, .inl rfl, hg, ?_⟩
  have hl : (List.replicate n z).length = n := by simp
  have hrc : RepCL φ (List.replicate n z) (List.replicate n cz) := by
    clear hb hg hrun hb2 hwrap hbytes hbig h0 he he' hl
    exact repCL_replicate hzc n
  have := sl_rep (φ := know φ w (w.alloc (.cells (flat (List.replicate n cz)).toArray el)) fun _ => true) (g := g) (m := m) (sz := sz) (xs := List.replicate n z) (a := ⟨w.heap.size, 0, none⟩) (cap := n) (by omega) ?_
  · rw [hl] at this; simpa using this
  · refine ⟨_, RepCL.ext hg.ext _ _ hrc, fun x hx => by rw [List.eq_of_mem_replicate hx]; exact hf, fun j u hj => ?_⟩
    rw [add_mk, Nat.zero_add, know_new (by simp) rfl, World.cell?_alloc_new]
    simpa using hj

/-- A row that grows moves to a new block. -/
theorem Inv.growNew (hi : Inv w0 φ g m w) {k sz cap : Nat} {born : Bool} {xs : List V} (h : look m k = some (.buf sz born xs)) (hb : Below w.heap.size w w') (ys : List V) (evs : List Value) (hr : RepCL φ (xs ++ ys) evs) (hf : ∀ x ∈ xs ++ ys, x.fits sz = true)
    (hlt : w.heap.size < w'.heap.size) (hcap : (xs ++ ys).length ≤ cap) (hne : ys ≠ [])
    (hcell : ∀ j v, (flat evs)[j]? = some v → w'.cell? ⟨w.heap.size, j, none⟩ = some v)
    (hspare : ∀ j, (xs ++ ys).length * sz ≤ j → (j < cap * sz → (w'.cell? ⟨w.heap.size, j, none⟩).isSome = true) ∧ w'.frozen? ⟨w.heap.size, j, none⟩ = false) (hfz : ∀ j, w'.frozen? ⟨w.heap.size, j, none⟩ = false) :
    ∃ φ', Goes w0 φ g m φ' (upd g k (.row (some ⟨w.heap.size, 0, none⟩) cap)) (upd m k (.buf sz born (xs ++ ys))) w' ∧ Els φ' ⟨w.heap.size, 0, none⟩ sz (xs ++ ys) := by
  let K : Addr → Bool := fun a => a.block == w.heap.size && a.spot.isNone && decide (a.off < (xs ++ ys).length * sz)
  have hg := hi.knowGoes hb K
  have hi' := hg.inv
  obtain ⟨ra0, rc0, hk0, _⟩ := hi.rows k sz born xs h
  have hklt := look_lt h
  have hkg : k < g.length := look_lt hk0
  have hels : Els (Vm.know φ w w' K) ⟨w.heap.size, 0, none⟩ sz (xs ++ ys) := by
    refine ⟨evs, RepCL.ext hg.ext _ _ hr, hf, fun j v hv => ?_⟩
    have hj : j < (xs ++ ys).length * sz := by
      have := (List.getElem?_eq_some_iff.1 hv).1
      rw [flat_length hr hf] at this; exact this
    rw [add_mk, Nat.zero_add, know_new (by simp) (by simp only [K, beq_self_eq_true, Option.isNone_none, Bool.true_and, Bool.and_true, decide_eq_true_eq]; exact hj)]
    exact hcell j v hv
  have hle : Le m.length g m (upd g k (.row (some ⟨w.heap.size, 0, none⟩) cap)) (upd m k (.buf sz born (xs ++ ys))) := by
    refine ⟨fun r hr blk e => ?_, fun q hq sz' born' xs' hx ra rc hg' => ?_⟩
    · have : r ≠ k := fun hh => by subst hh; rw [hk0] at e; cases e
      rw [look_upd_ne this]; exact e
    · by_cases e : q = k
      · subst e
        rw [h] at hx; cases hx
        exact ⟨ys, _, _, look_upd_self hklt, look_upd_self hkg, fun hy => absurd hy hne⟩
      · exact ⟨[], ra, rc, by rw [look_upd_ne e]; simpa using hx, by rw [look_upd_ne e]; exact hg', fun _ => ⟨rfl, rfl⟩⟩
  have up : ∀ {l : List V} {c : List Value}, RepL (Vm.know φ w w' K) g m l c → RepL (Vm.know φ w w' K) (upd g k (.row (some ⟨w.heap.size, 0, none⟩) cap)) (upd m k (.buf sz born (xs ++ ys))) l c := fun hh =>
    RepL.mono (Ext.refl _) hle _ _ (by rw [← hi.len]; exact RepL.under _ _ hh) hh
  have old : ∀ r x b, look g r = some x → x.blk = some b → b < w.heap.size := fun r x b h1 h2 => (hi.blk_lt h1 h2).2
  refine ⟨_, ⟨⟨by simp [hi.len], hi'.base, hi'.known, ?_, ?_, ?_, ?_, ?_, ?_⟩, hg.ext, hle⟩, hels⟩
  · intro q cs' hq
    have e : q ≠ k := fun e => by subst e; rw [look_upd_self hklt] at hq; cases hq
    rw [look_upd_ne e] at hq
    obtain ⟨b, cv, q1, q2, q3⟩ := hi'.cells q cs' hq
    exact ⟨b, cv, by rw [look_upd_ne e]; exact q1, up q2, q3⟩
  · intro q s pos hq
    have e : q ≠ k := fun e => by subst e; rw [look_upd_self hklt] at hq; cases hq
    rw [look_upd_ne e] at hq
    obtain ⟨b, q1, q2⟩ := hi'.iters q s pos hq
    exact ⟨b, by rw [look_upd_ne e]; exact q1, q2⟩
  · intro q ks vs hq
    have e : q ≠ k := fun e => by subst e; rw [look_upd_self hklt] at hq; cases hq
    rw [look_upd_ne e] at hq
    exact hi.maps q ks vs hq
  · intro q sz' born' xs' hq
    by_cases e : q = k
    · subst e
      rw [look_upd_self hklt] at hq; cases hq
      refine ⟨_, _, look_upd_self hkg, .inr ⟨fun hc => hne (List.append_eq_nil_iff.1 hc.2).2, w.heap.size, rfl, hi.size_le, hlt, hcap, hels, fun j hj => ⟨(hspare j hj).1, (hspare j hj).2, ?_⟩, hfz⟩⟩
      have : ¬ (j < (xs ++ ys).length * sz) := by omega
      unfold Vm.know
      rw [if_neg (by simp), if_neg (by simp only [K, beq_self_eq_true, Option.isNone_none, Bool.true_and, decide_eq_true_eq]; exact this)]
    · rw [look_upd_ne e] at hq
      obtain ⟨ra, rc', q1, q2⟩ := hi'.rows q sz' born' xs' hq
      exact ⟨ra, rc', by rw [look_upd_ne e]; exact q1, q2⟩
  · intro q b hq
    have e : q ≠ k := fun e => by subst e; rw [look_upd_self hkg] at hq; cases hq
    rw [look_upd_ne e] at hq
    exact hi'.own q b hq
  · intro r r' x y b h1 h2 h3 h4
    by_cases e : r = k <;> by_cases e' : r' = k
    · omega
    · subst e
      rw [look_upd_self hkg] at h1; rw [look_upd_ne e'] at h2; cases h1
      simp [GO.blk] at h3; have := old r' y b h2 h4; omega
    · subst e'
      rw [look_upd_self hkg] at h2; rw [look_upd_ne e] at h1; cases h2
      simp [GO.blk] at h4; have := old r x b h1 h3; omega
    · rw [look_upd_ne e] at h1; rw [look_upd_ne e'] at h2
      exact hi.apart r r' x y b h1 h2 h3 h4

/-- What is appended. -/
def srcOf (m : Mem) (y : V) : Option (Nat × List V) :=
  match y with
  | .str s => some (1, bytesV s)
  | y => match y.shut m with
    | some (.sl _ sz' ys) => some (sz', ys)
    | _ => none

theorem src_rep (hi : Inv w0 φ g m w) {y : V} {c : Value} (hr : Rep φ g m y c) {sz' : Nat} {ys : List V} (hs : srcOf m y = some (sz', ys)) {u : TypeId} (hk : (∃ e', P.underlying u = some (.slice e')) ∨ P.underlying u = some .string) {size : Nat} (hsz : size = sz' ∨ ys = []) :
    ∃ evs, RepCL φ ys evs ∧ (∀ x ∈ ys, x.fits size = true) ∧ Src P size u c ys.length (flat evs) w := by
  have fromSl : ∀ nl sz'' zs, Rep φ g m (.sl nl sz'' zs) c → (size = sz'' ∨ zs = []) → ∃ evs, RepCL φ zs evs ∧ (∀ x ∈ zs, x.fits size = true) ∧ Src P size u c zs.length (flat evs) w := by
    intro nl sz'' zs hr hsz
    obtain ⟨a, cap, rfl, hcap, h⟩ := rep_sl hr
    rcases h with ⟨_, rfl, rfl, rfl⟩ | ⟨_, ad, rfl, evs, h4, h5, h6⟩
    · exact ⟨[], RepCL.nil, by simp, ⟨hk, fun _ => rfl, by simp [run_firstCells_none, flat], by simp [run_firstCells_none, flat], by simp [flat], by simp [flat]⟩⟩
    · have h5' : ∀ x ∈ zs, x.fits size = true := by
        rcases hsz with hsz | hsz
        · subst hsz; exact h5
        · subst hsz; simp
      have hfl := flat_length h4 h5'
      have hc : ∀ j u, (flat evs)[j]? = some u → w.cell? (ad.add j) = some u := fun j u hj => hi.known _ _ (h6 j u hj)
      exact ⟨evs, h4, h5', ⟨hk, fun _ => rfl, run_firstCells_some w size zs.length ad _ _ (flat evs) hfl hc, run_firstCells_some w.drew size zs.length ad _ _ (flat evs) hfl (by simpa using hc), hfl, flat_oneCell h4 h5'⟩⟩
  unfold srcOf at hs
  split at hs
  · rename_i s
    cases hs
    have hr := rep_str hr
    subst hr
    have h5' : ∀ x ∈ bytesV s, x.fits size = true := by
      rcases hsz with hsz | hsz
      · subst hsz; exact fun x hx => bytesV_fits hx
      · rw [hsz]; simp
    refine ⟨s.map fun b => .int .u8 b.toNat, bytesV_rep φ s, h5', ?_⟩
    have hfl := flat_length (bytesV_rep φ s) h5'
    have e1 : flat (s.map fun b => Value.int .u8 b.toNat) = byteCells ⟨s.toArray⟩ := by rw [flat_bytes]; simp [byteCells]
    have hlen : (bytesV s).length = (⟨s.toArray⟩ : ByteArray).size := by simp [bytesV]
    have hfc : ∀ w' : World, (Builtin.firstCells size (bytesV s).length (.string ⟨s.toArray⟩)).run P w' = .ok (flat (s.map fun b => Value.int .u8 b.toNat)).toArray w' := fun w' => by
      rw [e1, hlen]; exact firstCells_string _ w'
    exact ⟨hk, fun _ => by rw [hlen]; rfl, hfc w, hfc w.drew, hfl, flat_oneCell (bytesV_rep φ s) h5'⟩
  · rename_i y hns
    split at hs
    · rename_i nl sz'' zs hz
      cases hs
      exact fromSl nl _ _ (Rep.shut _ _ _ hr hz) hsz
    · simp at hs

theorem zeroCells_size (z : Array Value) (n : Nat) : (Builtin.zeroCells z n).size = n * z.size := by simp [Builtin.zeroCells]

theorem grown_new {el : TypeId} {cz : Value} {news : List Value} {n cap sz : Nat} (hcz : cz.cells.size = sz) (hl : news.length = n * sz) :
    (∀ j v, news[j]? = some v → (w.drew.alloc (.cells (news.toArray ++ Builtin.zeroCells cz.cells (cap - n)) el)).cell? ⟨w.heap.size, j, none⟩ = some v) ∧
    ∀ j, n * sz ≤ j → (j < cap * sz → ((w.drew.alloc (.cells (news.toArray ++ Builtin.zeroCells cz.cells (cap - n)) el)).cell? ⟨w.heap.size, j, none⟩).isSome = true) ∧
      (w.drew.alloc (.cells (news.toArray ++ Builtin.zeroCells cz.cells (cap - n)) el)).frozen? ⟨w.heap.size, j, none⟩ = false := by
  refine ⟨fun j v hj => ?_, fun j hj => ⟨fun hlt => ?_, World.frozen?_alloc_new w.drew _ el j⟩⟩
  · have h1 := (List.getElem?_eq_some_iff.1 hj).1
    show (w.drew.alloc _).cell? ⟨w.drew.heap.size, j, none⟩ = some v
    rw [World.cell?_alloc_new, Array.getElem?_append_left (by simpa using h1)]
    simpa using hj
  · show ((w.drew.alloc _).cell? ⟨w.drew.heap.size, j, none⟩).isSome = true
    rw [World.cell?_alloc_new]
    have hsz : (news.toArray ++ Builtin.zeroCells cz.cells (cap - n)).size = n * sz + (cap - n) * sz := by rw [Array.size_append, zeroCells_size, hcz]; simp [hl]
    have : j < (news.toArray ++ Builtin.zeroCells cz.cells (cap - n)).size := by
      rw [hsz, ← Nat.add_mul]
      refine Nat.lt_of_lt_of_le hlt (Nat.mul_le_mul_right _ (by omega))
    rw [Array.getElem?_eq_getElem this]; rfl

theorem app_eq {b sz bs : Nat} {x y : Opd} : effOp b m e (.app sz bs x y) = (match srcOf m (e y) with
    | none => none
    | some (sz', ys) =>
      match e x with
      | .gs k n => match look m k with
        | some (.buf sz'' born xs) =>
          if n = xs.length ∧ sz = sz'' ∧ (sz = sz' ∨ ys = []) ∧ (n + ys.length) * bs ≤ 140737488355328 ∧ n + ys.length ≤ 140737488355328 then
            some (.gs k (n + ys.length), upd m k (.buf sz'' born (xs ++ ys))) else none
        | _ => none
      | .sl true _ [] =>
        if (sz = sz' ∨ ys = []) ∧ ys.length * bs ≤ 140737488355328 ∧ ys.length ≤ 140737488355328 then
          some (.gs m.length ys.length, .buf sz true ys :: m) else none
      | _ => none) := by
  simp only [effOp, srcOf]
  rfl

theorem op_app (hi : Inv w0 φ g m w) (ht : Told A F past φ g m e ρ) {c : Call} {x z : Operand} {t u el : TypeId} (ho : o.op = .call c) (hc : c.callee = .builtin .append) (ha : c.args = #[x, z]) (hty : c.argTypes = #[t, u]) (hu : P.underlying t = some (.slice el))
    (hk : (∃ e', P.underlying u = some (.slice e')) ∨ P.underlying u = some .string) {sz bs : Nat} (hn : szOf P el = some sz) (hbs : bytesOf P el = some bs) {zz : V} (hz : zeroT P el = some zz) (hzf : zz.fits sz = true) {y y' : Opd} (hx : opdOf A F past x = some y) (hy : opdOf A F past z = some y')
    {v : V} {b : Nat} {m' : Mem} (hv : effOp b m e (.app sz bs y y') = some (v, m')) : OpDone P w0 ρ o φ g m w v m' := by
  have h1 := ht x y hx
  have h2 := ht z y' hy
  obtain ⟨cz, hzr, hzc, i, hinf, hiz⟩ := zeroT_run (φ := φ) hz w
  have hbs' : i.bytes = bs := by simpa [bytesOf, hinf] using hbs
  have hsz' : i.size = sz := by simpa [szOf, hinf] using hn
  have exec : ∀ (cv : Value) (w' : World), (Builtin.append_ #[t, u] o.type #[ρ x, ρ z]).run P w = .ok cv w' → (execOp ρ o).run P w = .ok (.value cv) w' := fun cv w' h => by
    simp [execOp, ho, hc, ha, hty, resolve, invoke, builtin, h]
  rw [app_eq] at hv
  split at hv
  · simp at hv
  rename_i sz' ys hsrc
  split at hv
  · -- onto a row that grows
    rename_i k n he
    split at hv
    rotate_left
    · simp at hv
    rename_i sz'' born xs hbuf
    split at hv
    rotate_left
    · simp at hv
    rename_i hcond
    obtain ⟨hnl, hs1, hs2, hfit, hmax⟩ := hcond
    subst hs1
    cases hv
    rw [he] at h1
    obtain ⟨evs, r1, r2, src⟩ := src_rep (P := P) (u := u) hi h2 hsrc hk (size := sz) hs2
    obtain ⟨szb, bornb, xsb, ra, rc, k1, k2, k3, k4, k5⟩ := h1
    rw [hbuf] at k1; cases k1
    have hx' : ρ x = .slice ra n rc := k4 hnl
    obtain ⟨ra', rc', q1, q2⟩ := hi.rows k sz born xs hbuf
    rw [k2] at q1; cases q1
    have hlk := look_lt hbuf
    by_cases hys : ys = []
    · -- nothing is appended
      subst hys
      have hev : evs = [] := by simpa [RepCL] using r1
      subst hev
      have hsrc0 : Src P i.size u (ρ z) 0 [] w := by rw [hsz']; exact src
      have hcap : n ≤ rc := by
        rcases q2 with ⟨_, rfl, rfl, _⟩ | ⟨_, blk, _, _, _, h, _⟩
        · simp at hnl; omega
        · omega
      have hrun := run_append_nothing (P := P) w t u o.type el i hu hinf ra n rc hcap (ρ z) hsrc0
      rw [List.append_nil, upd_same hbuf]
      refine OpDone.same hi (exec _ _ (by rw [hx']; exact hrun)) ⟨sz, born, xs, ra, rc, hbuf, k2, by simpa using k3, fun _ => rfl, ?_⟩
      rw [hx'] at k5
      simpa using k5
    · have hne : ys.length ≠ 0 := fun h => hys (List.eq_nil_of_length_eq_zero h)
      by_cases hroom : n + ys.length ≤ rc
      · -- in its place
        rcases q2 with ⟨_, rfl, _, _⟩ | ⟨q0, blk, rfl, q3, q4, q5, q6, q7⟩
        · omega
        obtain ⟨c1, φ', c2, c3⟩ := hi.growIn hbuf k2 ys evs r1 r2 (by rw [← hnl]; exact hroom)
        have hrun := run_append_room_src (P := P) w t u o.type el i hu hinf blk 0 n rc (ρ z) ys.length (flat evs) (by rw [hsz']; exact src) hroom (fun j hj => by
          rw [hsz', Nat.zero_add, hnl]; exact (c1 j hj).1) (fun j hj => by rw [hsz', Nat.zero_add, hnl]; exact (c1 j hj).2)
        rw [hsz', Nat.zero_add, hnl] at hrun
        refine ⟨_, _, _, φ', g, exec _ _ (by rw [hx', hnl]; exact hrun), .inl rfl, c2, ⟨sz, born, xs ++ ys, _, rc, look_upd_self hlk, k2, by simp [hnl], fun _ => by rw [hnl], .inr ⟨fun hh => by have := hh.2; omega, _, rc, by rw [hnl], by omega, ?_⟩⟩⟩
        rw [List.take_of_length_le (by simp [hnl])]
        exact c3
      · -- in a new block
        have holds : ∃ olds, RepCL φ xs olds ∧ (∀ x ∈ xs, x.fits sz = true) ∧ (Builtin.firstCells i.size n (.slice ra n rc)).run P w.drew = .ok (flat olds).toArray w.drew := by
          rcases q2 with ⟨rfl, rfl, rfl, _⟩ | ⟨q0, blk, rfl, q3, q4, q5, ⟨olds, q6, q6', q6''⟩, q7⟩
          · exact ⟨[], RepCL.nil, by simp, by simp [run_firstCells_none, flat]⟩
          · refine ⟨olds, q6, q6', ?_⟩
            have := run_firstCells_some (P := P) w.drew i.size n ⟨blk, 0, none⟩ n rc (flat olds) (by rw [flat_length q6 q6', hnl, hsz']) (fun j v hj => by rw [World.cell?_drew]; exact hi.known _ _ (q6'' j v hj))
            exact this
        obtain ⟨olds, o1, o2, o3⟩ := holds
        have hrun := run_append_grow_src (P := P) w t u o.type el i cz hu hinf hiz ra n rc (flat olds) o3 (ρ z) ys.length (flat evs) (by rw [hsz']; exact src) (by omega) (by omega) (growslice_fits (by omega) (by rw [hbs']; exact hfit))
        have hb : Below w.heap.size w (w.drew.alloc (.cells ((flat olds ++ flat evs).toArray ++ Builtin.zeroCells cz.cells (grownCap w (n + ys.length) rc el - (n + ys.length))) el)) :=
          ((Below.refl _ _).drew).alloc (Nat.le_refl _) _
        have hall : ∀ x ∈ xs ++ ys, x.fits sz = true := fun x hx => (List.mem_append.1 hx).elim (o2 x) (r2 x)
        have hcapg : n + ys.length ≤ grownCap w (n + ys.length) rc el := le_grownCap _ _ _ _
        have hfl : (flat (olds ++ evs)).length = (xs ++ ys).length * sz := flat_length (o1.append r1) hall
        have hczs : cz.cells.size = sz := by have := (Rep.cells (g := g) (m := m) (hzc.rep zz cz) hzf).1; simpa using this
        have hnew := grown_new (w := w) (el := el) (cz := cz) (news := flat olds ++ flat evs) (n := n + ys.length) (cap := grownCap w (n + ys.length) rc el) hczs (by
          have := hfl; rw [flat_append] at this; rw [this, List.length_append, hnl])
        rw [← flat_append] at hnew
        obtain ⟨φ', c2, c3⟩ := hi.growNew (cap := grownCap w (n + ys.length) rc el) hbuf hb ys (olds ++ evs) (o1.append r1) hall (by simp) (by simp; omega) hys (by rw [← flat_append]; exact hnew.1)
          (fun j hj => by rw [← flat_append]; exact hnew.2 j (by rw [List.length_append, ← hnl] at hj; exact hj)) (fun j => World.frozen?_alloc_new _ _ el j)
        refine ⟨_, _, _, φ', _, exec _ _ (by rw [hx']; exact hrun), .inl rfl, c2, ⟨sz, born, xs ++ ys, _, _, look_upd_self hlk, look_upd_self (look_lt k2), by simp [hnl], fun _ => rfl, .inr ⟨fun hh => by have := hh.2; omega, _, _, rfl, hcapg, ?_⟩⟩⟩
        rw [List.take_of_length_le (by simp [hnl])]
        exact c3
  · -- onto nil
    rename_i sz0 he
    split at hv
    rotate_left
    · simp at hv
    rename_i hcond
    obtain ⟨hs2, hfit, hmax⟩ := hcond
    cases hv
    rw [he] at h1
    have hx' : ρ x = .slice none 0 0 := by
      obtain ⟨a, cap, h3, _, h⟩ := rep_sl h1
      rcases h with ⟨_, _, rfl, rfl⟩ | ⟨h, _⟩
      · exact h3
      · cases h
    obtain ⟨evs, r1, r2, src⟩ := src_rep (P := P) (u := u) hi h2 hsrc hk (size := sz) hs2
    by_cases hys : ys = []
    · subst hys
      have hev : evs = [] := by simpa [RepCL] using r1
      subst hev
      have hsrc0 : Src P i.size u (ρ z) 0 [] w := by rw [hsz']; exact src
      have hrun := run_append_nothing (P := P) w t u o.type el i hu hinf none 0 0 (Nat.le_refl _) (ρ z) hsrc0
      have hg := hi.pushNil sz
      exact ⟨_, .slice none 0 0, w, φ, _, exec _ _ (by rw [hx']; exact hrun), .inl rfl, hg, ⟨sz, true, [], none, 0, look_cons_self _ _, by rw [← hi.len]; exact look_cons_self _ _, by simp, fun _ => rfl, .inl ⟨rfl, rfl, rfl⟩⟩⟩
    · have hne : ys.length ≠ 0 := fun h => hys (List.eq_nil_of_length_eq_zero h)
      have hrun := run_append_grow_src (P := P) w t u o.type el i cz hu hinf hiz none 0 0 [] (by simp [run_firstCells_none]) (ρ z) ys.length (flat evs) (by rw [hsz']; exact src) (by omega) (by omega) (growslice_fits (by omega) (by rw [hbs', Nat.zero_add]; exact hfit))
      simp only [List.nil_append, Nat.zero_add] at hrun
      have hb : Below w.heap.size w (w.drew.alloc (.cells ((flat evs).toArray ++ Builtin.zeroCells cz.cells (grownCap w ys.length 0 el - ys.length)) el)) :=
        ((Below.refl _ _).drew).alloc (Nat.le_refl _) _
      have hczs : cz.cells.size = sz := by have := (Rep.cells (g := g) (m := m) (hzc.rep zz cz) hzf).1; simpa using this
      have hcapg : ys.length ≤ grownCap w ys.length 0 el := le_grownCap _ _ _ _
      have hnew := grown_new (w := w) (el := el) (cz := cz) (news := flat evs) (n := ys.length) (cap := grownCap w ys.length 0 el) hczs (flat_length r1 r2)
      obtain ⟨φ', c2, c3⟩ := hi.pushRow hb true sz (grownCap w ys.length 0 el) ys evs r1 r2 (by simp) hcapg (fun hh => hys hh.2) hnew.1 hnew.2 (fun j => World.frozen?_alloc_new _ _ el j)
      refine ⟨_, _, _, φ', _, exec _ _ (by rw [hx']; exact hrun), .inl rfl, c2, ⟨sz, true, ys, _, _, look_cons_self _ _, by rw [← hi.len]; exact look_cons_self _ _, Nat.le_refl _, fun _ => rfl, .inr ⟨fun hh => hne hh.2, _, _, rfl, hcapg, ?_⟩⟩⟩
      rw [List.take_of_length_le (Nat.le_refl _)]
      exact c3
  · simp at hv
end
end Go.Vm
-- VmX: One operation, all together.
namespace Go.Vm
open Go Go.RowKit

section
variable {P : Program} {w0 : World} {φ : Phi} {g : List GO} {m : Mem} {w : World} {ρ : Operand → Value} {o : Oper}
variable {A : Ann} {F : FAnn} {past : List (Option Tmp)} {e : Opd → V}

/-- What a run of one operation without a call says. -/
inductive Plain (b : Nat) (m : Mem) (e : Opd → V) (op : VOp) : V → Mem → Prop
  | pure {v : V} (h : pureOp e op = some v) : Plain b m e op v m
  | read {v : V} (h : readOp m e op = some v) : Plain b m e op v m
  | eff {v : V} {m' : Mem} (h : effOp b m e op = some (v, m')) : Plain b m e op v m'

theorem elemT_some {t el : TypeId} (h : elemT P t = some el) : P.underlying t = some (.slice el) := by
  unfold elemT at h
  split at h
  · rename_i e' hu; cases h; exact hu
  · simp at h

theorem isNilSlice_eq {x : Operand} (h : isNilSlice x = true) : x = .const (.slice none 0 0) := by
  unfold isNilSlice at h
  split at h
  · rfl
  · simp at h

theorem Plain.pure_of {b : Nat} {op : VOp} {v : V} {m' : Mem} (h : Plain b m e op v m') (h1 : readOp m e op = none) (h2 : effOp b m e op = none) : pureOp e op = some v ∧ m' = m := by
  cases h with
  | pure h => exact ⟨h, rfl⟩
  | read h => rw [h1] at h; cases h
  | eff h => rw [h2] at h; cases h

theorem Plain.none_of {b : Nat} {op : VOp} {v : V} {m' : Mem} (h : Plain b m e op v m') (h0 : pureOp e op = none) (h1 : readOp m e op = none) (h2 : effOp b m e op = none) : False := by
  cases h with
  | pure h => rw [h0] at h; cases h
  | read h => rw [h1] at h; cases h
  | eff h => rw [h2] at h; cases h

theorem op_move' (hi : Inv w0 φ g m w) (ht : Told A F past φ g m e ρ) (hc : ∀ v, ρ (.const v) = v) {x : Operand} (ho : o.op = .move x ∨ o.op = .assign x) {op : VOp}
    (hop : (match o.dst with
      | some d => if F.nilbufs.contains d && isNilSlice x then (elemT P o.type).bind fun e => (szOf P e).map .nilbuf else (opdOf A F past x).map .mov
      | none => (opdOf A F past x).map .mov) = some op) {b : Nat} {v : V} {m' : Mem} (hp : Plain b m e op v m') : OpDone P w0 ρ o φ g m w v m' := by
  have hm : ∀ {y : Opd}, opdOf A F past x = some y → Plain b m e (.mov y) v m' → OpDone P w0 ρ o φ g m w v m' := fun hy hp => by
    obtain ⟨h, rfl⟩ := hp.pure_of rfl rfl
    exact op_move hi ht ho hy h
  split at hop
  · split at hop
    · rename_i hnb
      obtain ⟨el, _, hop⟩ := obind hop
      obtain ⟨sz, _, rfl⟩ := omap hop
      have hx := isNilSlice_eq (by simp at hnb; exact hnb.2)
      cases hp with
      | pure h => simp [pureOp] at h
      | read h => simp [readOp] at h
      | eff h => exact op_nilbuf hi hc ho hx h
    · obtain ⟨y, hy, rfl⟩ := omap hop
      exact hm hy hp
  · obtain ⟨y, hy, rfl⟩ := omap hop
    exact hm hy hp

theorem op_bin' (hi : Inv w0 φ g m w) (ht : Told A F past φ g m e ρ) (hc : ∀ v, ρ (.const v) = v) {p : BinOp} {t t' : TypeId} {x y : Operand} (ho : o.op = .binOp p t x y t') {op : VOp}
    (hop : (if isNilConst y then
      (nilT P t y).bind fun k => match p with
        | .eql => (opdOf A F past x).map (.eqnil k · false)
        | .neq => (opdOf A F past x).map (.eqnil k · true)
        | _ => none
    else match p, P.underlying t with
      | .eql, some (.int _) | .neq, some (.int _) | .eql, some .string | .neq, some .string => (opdOf A F past x).bind fun x => (opdOf A F past y).map fun y => .bin p x y
      | .eql, _ => (etyOf P 10 t).bind fun e => (opdOf A F past x).bind fun x => (opdOf A F past y).map fun y => .eqs e false x y
      | .neq, _ => (etyOf P 10 t).bind fun e => (opdOf A F past x).bind fun x => (opdOf A F past y).map fun y => .eqs e true x y
      | _, _ => (opdOf A F past x).bind fun x => (opdOf A F past y).map fun y => .bin p x y) = some op) {b : Nat} {v : V} {m' : Mem} (hp : Plain b m e op v m') : OpDone P w0 ρ o φ g m w v m' := by
  have nil : ∀ {k : NK} {neg : Bool} {z : Opd}, p = (if neg then .neq else .eql) → nilT P t y = some k → opdOf A F past x = some z → Plain b m e (.eqnil k z neg) v m' → OpDone P w0 ρ o φ g m w v m' := fun {k neg z} e1 e2 e3 hp => by
    subst e1
    cases hp with
    | pure h => exact op_eqnil hi ht hc ho e2 e3 (.inl h)
    | read h => exact op_eqnil hi ht hc ho e2 e3 (.inr h)
    | eff h => cases k <;> simp [effOp] at h
  have bin : (opdOf A F past x).bind (fun x => (opdOf A F past y).map fun y => VOp.bin p x y) = some op → OpDone P w0 ρ o φ g m w v m' := fun hop => by
    obtain ⟨y1, h1, hop⟩ := obind hop
    obtain ⟨y2, h2, rfl⟩ := omap hop
    obtain ⟨h, rfl⟩ := hp.pure_of rfl rfl
    exact op_bin hi ht ho h1 h2 h
  have eqs : ∀ {neg : Bool}, p = (if neg then .neq else .eql) → (∀ k, P.underlying t ≠ some (.int k)) → P.underlying t ≠ some .string →
      (etyOf P 10 t).bind (fun e => (opdOf A F past x).bind fun x => (opdOf A F past y).map fun y => VOp.eqs e neg x y) = some op → OpDone P w0 ρ o φ g m w v m' := fun {neg} e1 n1 n2 hop => by
    obtain ⟨E, hE, hop⟩ := obind hop
    obtain ⟨y1, h1, hop⟩ := obind hop
    obtain ⟨y2, h2, rfl⟩ := omap hop
    obtain ⟨h, rfl⟩ := hp.pure_of rfl rfl
    subst e1
    exact op_eqs hi ht ho hE n1 n2 h1 h2 h
  split at hop
  · obtain ⟨k, hk, hop⟩ := obind hop
    split at hop
    · obtain ⟨z, hz, rfl⟩ := omap hop
      exact nil (neg := false) rfl hk hz hp
    · obtain ⟨z, hz, rfl⟩ := omap hop
      exact nil (neg := true) rfl hk hz hp
    · simp at hop
  · split at hop
    · exact bin hop
    · exact bin hop
    · exact bin hop
    · exact bin hop
    · rename_i n1 n2
      exact eqs (neg := false) rfl (fun k hk => n1 k hk) (fun hk => n2 hk) hop
    · rename_i n1 n2
      exact eqs (neg := true) rfl (fun k hk => n1 k hk) (fun hk => n2 hk) hop
    · exact bin hop

theorem op_conv' (hi : Inv w0 φ g m w) (ht : Told A F past φ g m e ρ) {s d : TypeId} {x : Operand} (ho : o.op = .convert s d x) {op : VOp}
    (hop : (match P.underlying s, P.underlying d with
    | some (.int _), some (.int k) => (opdOf A F past x).map (.conv k)
    | some (.int _), some .string => (opdOf A F past x).map .chr
    | some .string, some .string => (opdOf A F past x).map (.toStr true)
    | some (.slice e), some .string => match P.underlying e with
      | some (.int .u8) => (opdOf A F past x).map (.toStr false)
      | _ => none
    | some .string, some (.slice e) => match P.underlying e with
      | some (.int .u8) => (opdOf A F past x).map .toBytes
      | _ => none
    | _, _ => none) = some op) {b : Nat} {v : V} {m' : Mem} (hp : Plain b m e op v m') : OpDone P w0 ρ o φ g m w v m' := by
  split at hop
  · rename_i k' k h1 h2
    obtain ⟨y, hy, rfl⟩ := omap hop
    obtain ⟨h, rfl⟩ := hp.pure_of rfl rfl
    exact op_conv hi ht ho h1 h2 hy h
  · rename_i k' h1 h2
    obtain ⟨y, hy, rfl⟩ := omap hop
    obtain ⟨h, rfl⟩ := hp.pure_of rfl rfl
    exact op_chr hi ht ho h1 h2 hy h
  · rename_i h1 h2
    obtain ⟨y, hy, rfl⟩ := omap hop
    obtain ⟨h, rfl⟩ := hp.pure_of rfl rfl
    exact op_toStrS hi ht ho h1 h2 hy h
  · rename_i el h1 h2
    split at hop
    · rename_i h3
      obtain ⟨y, hy, rfl⟩ := omap hop
      cases hp with
      | pure h => exact op_toStrL hi ht ho h1 h3 h2 hy (.inl h)
      | read h => exact op_toStrL hi ht ho h1 h3 h2 hy (.inr h)
      | eff h => simp [effOp] at h
    · simp at hop
  · rename_i el h1 h2
    split at hop
    · rename_i h3
      obtain ⟨y, hy, rfl⟩ := omap hop
      obtain ⟨h, rfl⟩ := hp.pure_of rfl rfl
      exact op_toBytes hi ht ho h1 h2 h3 hy h
    · simp at hop
  · simp at hop

theorem op_call' (hi : Inv w0 φ g m w) (ht : Told A F past φ g m e ρ) {c : Call} (ho : o.op = .call c) {op : VOp}
    (hop : (match c.callee, c.args.toList with
    | .builtin .len, [x] => match (c.argTypes[0]?).bind P.underlying with
      | some .string => (opdOf A F past x).map (.len true)
      | some (.slice _) => (opdOf A F past x).map (.len false)
      | _ => none
    | .builtin .min, [x, y] => (opdOf A F past x).bind fun x => (opdOf A F past y).map fun y => .min x y
    | .builtin .max, [x, y] => (opdOf A F past x).bind fun x => (opdOf A F past y).map fun y => .max x y
    | .builtin .append, [x, y] => match c.argTypes.toList with
      | [t, u] => (elemT P t).bind fun e => (szOf P e).bind fun sz => (bytesOf P e).bind fun bs => (zeroT P e).bind fun z =>
        if !z.fits sz then none else if t == u || isStrT P u || (elemT P u == some e) then (opdOf A F past x).bind fun x => (opdOf A F past y).map fun y => .app sz bs x y else none
      | _ => none
    | _, _ => none) = some op) {b : Nat} {v : V} {m' : Mem} (hp : Plain b m e op v m') : OpDone P w0 ρ o φ g m w v m' := by
  split at hop
  · rename_i x hc ha
    have ha : c.args = #[x] := Array.ext' ha
    split at hop
    · rename_i hu
      obtain ⟨t, ht1, ht2⟩ := obind hu
      obtain ⟨y, hy, rfl⟩ := omap hop
      obtain ⟨h, rfl⟩ := hp.pure_of rfl rfl
      exact op_lenS hi ht ho hc ha ht1 ht2 hy h
    · rename_i el hu
      obtain ⟨t, ht1, ht2⟩ := obind hu
      obtain ⟨y, hy, rfl⟩ := omap hop
      obtain ⟨h, rfl⟩ := hp.pure_of rfl rfl
      exact op_lenL hi ht ho hc ha ht1 ht2 hy h
    · simp at hop
  · rename_i x y hc ha
    have ha : c.args = #[x, y] := Array.ext' ha
    obtain ⟨y1, h1, hop⟩ := obind hop
    obtain ⟨y2, h2, rfl⟩ := omap hop
    obtain ⟨h, rfl⟩ := hp.pure_of rfl rfl
    exact op_min hi ht ho hc ha h1 h2 h
  · rename_i x y hc ha
    have ha : c.args = #[x, y] := Array.ext' ha
    obtain ⟨y1, h1, hop⟩ := obind hop
    obtain ⟨y2, h2, rfl⟩ := omap hop
    obtain ⟨h, rfl⟩ := hp.pure_of rfl rfl
    exact op_max hi ht ho hc ha h1 h2 h
  · rename_i x y hc ha
    have ha : c.args = #[x, y] := Array.ext' ha
    split at hop
    · rename_i t u hty
      have hty : c.argTypes = #[t, u] := Array.ext' hty
      obtain ⟨el, hel, hop⟩ := obind hop
      obtain ⟨sz, hsz, hop⟩ := obind hop
      obtain ⟨bs, hbs, hop⟩ := obind hop
      obtain ⟨z, hz, hop⟩ := obind hop
      split at hop
      · simp at hop
      · rename_i hzf
        split at hop
        · rename_i hcond
          obtain ⟨y1, h1, hop⟩ := obind hop
          obtain ⟨y2, h2, rfl⟩ := omap hop
          have hu := elemT_some hel
          have hk : (∃ e', P.underlying u = some (.slice e')) ∨ P.underlying u = some .string := by
            simp only [Bool.or_eq_true, beq_iff_eq] at hcond
            rcases hcond with (hcond | hcond) | hcond
            · subst hcond; exact .inl ⟨el, hu⟩
            · refine .inr ?_
              unfold isStrT at hcond
              split at hcond
              · rename_i h; exact h
              · simp at hcond
            · exact .inl ⟨el, elemT_some hcond⟩
          cases hp with
          | pure h => simp [pureOp] at h
          | read h => simp [readOp] at h
          | eff h => exact op_app hi ht ho hc ha hty hu hk hsz hbs hz (by simpa using hzf) h1 h2 h
        · simp at hop
    · simp at hop
  · simp at hop

theorem op_plain (hi : Inv w0 φ g m w) (ht : Told A F past φ g m e ρ) (hc : ∀ v, ρ (.const v) = v) {op : VOp} (hop : plainOf P A F past o = some op) {b : Nat} {v : V} {m' : Mem} (hp : Plain b m e op v m') : OpDone P w0 ρ o φ g m w v m' := by
  unfold plainOf at hop
  simp only [] at hop
  split at hop
  · rename_i x ho; exact op_move' hi ht hc (.inl ho) hop hp
  · rename_i x ho; exact op_move' hi ht hc (.inr ho) hop hp
  · rename_i c a b ho
    obtain ⟨y1, h1, hop⟩ := obind hop
    obtain ⟨y2, h2, hop⟩ := obind hop
    obtain ⟨y3, h3, rfl⟩ := omap hop
    obtain ⟨h, rfl⟩ := hp.pure_of rfl rfl
    exact op_pick hi ht ho h1 h2 h3 h
  · rename_i el ho
    split at hop
    · rename_i z hz
      split at hop
      · rename_i hzf
        cases hop
        cases hp with
        | pure h => simp [pureOp] at h
        | read h => simp [readOp] at h
        | eff h => exact op_alloc hi ho hz hzf h
      · simp at hop
    · simp at hop
  · rename_i el x ho
    obtain ⟨y, hy, rfl⟩ := omap hop
    cases hp with
    | pure h => simp [pureOp] at h
    | read h => simp [readOp] at h
    | eff h => exact op_box hi ht ho hy h
  · rename_i t parts ho
    split at hop
    · rename_i fs z hu hz
      obtain ⟨ks, hks, hop⟩ := obind hop
      obtain ⟨ps, hps, rfl⟩ := omap hop
      obtain ⟨h, rfl⟩ := hp.pure_of rfl rfl
      exact op_buildS hi ht ho hu hz hks hps h
    · rename_i len el z hu hz
      obtain ⟨n, hn, hop⟩ := obind hop
      obtain ⟨ps, hps, rfl⟩ := omap hop
      obtain ⟨h, rfl⟩ := hp.pure_of rfl rfl
      exact op_buildA hi ht ho hu hz hn hps h
    · simp at hop
  · rename_i t n parts ho
    split at hop
    · rename_i hrange
      obtain ⟨el, hel, hop⟩ := obind hop
      obtain ⟨sz, hsz, hop⟩ := obind hop
      obtain ⟨z, hz, hop⟩ := obind hop
      obtain ⟨xs, hxs, hop⟩ := omap hop
      have hu := elemT_some hel
      have hrange : parts.toList.map (·.1) = List.range n := by simpa using hrange
      by_cases hb : isBufDst F o.dst = true
      · rw [if_pos hb] at hop
        subst hop
        cases hp with
        | pure h => simp [pureOp] at h
        | read h => simp [readOp] at h
        | eff h => exact op_mkbuf hi ht ho hrange hu hsz hz hxs h
      · rw [if_neg hb] at hop
        subst hop
        obtain ⟨h, rfl⟩ := hp.pure_of rfl rfl
        exact op_mksl hi ht ho hrange hu hsz hz hxs h
    · simp at hop
  · rename_i t a ho
    obtain ⟨n, hn, hop⟩ := obind hop
    obtain ⟨y, hy, rfl⟩ := omap hop
    cases hp with
    | pure h => simp [pureOp] at h
    | read h => exact op_load hi ht ho hn hy h
    | eff h => simp [effOp] at h
  · rename_i t a x ho
    obtain ⟨n, hn, hop⟩ := obind hop
    obtain ⟨y1, h1, hop⟩ := obind hop
    obtain ⟨y2, h2, rfl⟩ := omap hop
    cases hp with
    | pure h => simp [pureOp] at h
    | read h => simp [readOp] at h
    | eff h => exact op_store hi ht ho hn h1 h2 h
  · rename_i x ho
    obtain ⟨y, hy, rfl⟩ := omap hop
    obtain ⟨h, rfl⟩ := hp.pure_of rfl rfl
    exact op_nilck hi ht ho hy h
  · rename_i p t x y t' ho
    exact op_bin' hi ht hc ho hop hp
  · rename_i t x ho
    obtain ⟨y, hy, rfl⟩ := omap hop
    obtain ⟨h, rfl⟩ := hp.pure_of rfl rfl
    exact op_not hi ht ho hy h
  · rename_i t x ho
    obtain ⟨y, hy, rfl⟩ := omap hop
    obtain ⟨h, rfl⟩ := hp.pure_of rfl rfl
    exact op_neg hi ht ho hy h
  · rename_i s d x ho
    exact op_conv' hi ht ho hop hp
  · rename_i t x ho
    split at hop
    · simp at hop
    · simp at hop
    · rename_i n1 n2
      obtain ⟨y, hy, rfl⟩ := omap hop
      obtain ⟨h, rfl⟩ := hp.pure_of rfl rfl
      obtain ⟨d, hd⟩ : ∃ d, P.underlying t = some d := Option.ne_none_iff_exists'.1 n2
      exact op_mkifc hi ht ho hd (fun ms hms => n1 ms (by rw [hd, hms])) hy h
  · rename_i f first cap ho
    obtain ⟨y1, h1, hop⟩ := obind hop
    obtain ⟨y2, h2, rfl⟩ := omap hop
    obtain ⟨h, rfl⟩ := hp.pure_of rfl rfl
    exact op_mkfn hi ht ho h1 h2 h
  · rename_i t l c ho
    obtain ⟨el, hel, hop⟩ := obind hop
    obtain ⟨sz, hsz, hop⟩ := obind hop
    obtain ⟨bs, hbs, hop⟩ := obind hop
    obtain ⟨z, hz, hop⟩ := obind hop
    obtain ⟨y1, h1, hop⟩ := obind hop
    obtain ⟨y2, h2, rfl⟩ := omap hop
    obtain ⟨h, rfl⟩ := hp.pure_of rfl rfl
    exact op_mkslice hi ht ho (elemT_some hel) hsz hbs hz h1 h2 h
  · rename_i t x lo hi' mx ho
    obtain ⟨s, hs, hop⟩ := obind hop
    obtain ⟨y, hy, hop⟩ := obind hop
    obtain ⟨lo2, h1, hop⟩ := obind hop
    obtain ⟨hi2, h2, hop⟩ := obind hop
    obtain ⟨mx2, h3, rfl⟩ := omap hop
    split at hs
    · rename_i hu
      split at hs
      · rename_i hmx
        cases hs
        have hmx : mx = none := by simpa using hmx
        subst hmx
        obtain ⟨h, rfl⟩ := hp.pure_of rfl rfl
        exact op_sliceS hi ht ho hu hy h1 h2 h
      · simp at hs
    · rename_i el hu
      obtain ⟨z, hz, rfl⟩ := omap hs
      cases hp with
      | pure h => exact op_sliceL hi ht ho hu hz hy h1 h2 h3 (.inl h)
      | read h => exact op_sliceL hi ht ho hu hz hy h1 h2 h3 (.inr h)
      | eff h => simp [effOp] at h
    · simp at hs
  · rename_i s x f ho
    obtain ⟨fl, hfl, hop⟩ := obind hop
    obtain ⟨n, hn, hop⟩ := obind hop
    split at hop
    · simp at hop
    · rename_i h0
      obtain ⟨y, hy, rfl⟩ := omap hop
      obtain ⟨h, rfl⟩ := hp.pure_of rfl rfl
      exact op_faddr hi ht ho hfl hn h0 hy h
  · rename_i s x f ho
    obtain ⟨fl, hfl, hop⟩ := obind hop
    obtain ⟨n, hn, hop⟩ := obind hop
    obtain ⟨y, hy, rfl⟩ := omap hop
    obtain ⟨h, rfl⟩ := hp.pure_of rfl rfl
    exact op_field hi ht ho hfl hn hy h
  · rename_i t x i ho
    obtain ⟨el, hel, hop⟩ := obind hop
    obtain ⟨sz, hsz, hop⟩ := obind hop
    obtain ⟨y1, h1, hop⟩ := obind hop
    obtain ⟨y2, h2, rfl⟩ := omap hop
    cases hp with
    | pure h => exact op_iaddr hi ht ho hel hsz h1 h2 (.inl h)
    | read h => exact op_iaddr hi ht ho hel hsz h1 h2 (.inr h)
    | eff h => simp [effOp] at h
  · rename_i t x i ho
    split at hop
    · rename_i hu
      obtain ⟨y1, h1, hop⟩ := obind hop
      obtain ⟨y2, h2, rfl⟩ := omap hop
      obtain ⟨h, rfl⟩ := hp.pure_of rfl rfl
      exact op_idxs hi ht ho hu h1 h2 h
    · rename_i n el hu
      obtain ⟨sz, hsz, hop⟩ := obind hop
      obtain ⟨d, hd, hop⟩ := obind hop
      obtain ⟨y1, h1, hop⟩ := obind hop
      obtain ⟨y2, h2, rfl⟩ := omap hop
      obtain ⟨h, rfl⟩ := hp.pure_of rfl rfl
      exact op_idxa hi ht ho hu hsz (by rw [hd]; rfl) h1 h2 h
    · simp at hop
  · rename_i x i ho
    obtain ⟨y, hy, rfl⟩ := omap hop
    obtain ⟨h, rfl⟩ := hp.pure_of rfl rfl
    exact op_ext hi ht ho hy h
  · rename_i x t0 t ho
    split at hop
    · simp at hop
    · simp at hop
    · rename_i n1 n2
      obtain ⟨z, hz, hop⟩ := obind hop
      obtain ⟨y, hy, rfl⟩ := omap hop
      obtain ⟨h, rfl⟩ := hp.pure_of rfl rfl
      obtain ⟨d, hd⟩ : ∃ d, P.underlying t = some d := Option.ne_none_iff_exists'.1 n2
      exact op_tassert hi ht ho hd (fun ms hms => n1 ms (by rw [hd, hms])) hz hy h
  · rename_i t x ho
    split at hop
    · rename_i hu
      obtain ⟨y, hy, rfl⟩ := omap hop
      cases hp with
      | pure h => simp [pureOp] at h
      | read h => simp [readOp] at h
      | eff h => exact op_range hi ht ho hu hy h
    · simp at hop
  · rename_i x ho
    obtain ⟨y, hy, rfl⟩ := omap hop
    cases hp with
    | pure h => simp [pureOp] at h
    | read h => simp [readOp] at h
    | eff h => exact op_next hi ht ho hy h
  · rename_i c ho
    exact op_call' hi ht ho hop hp
  · simp at hop

theorem callOf_is {op : VOp} (h : callOf A F past o = some op) : isCallOp op = true := by
  unfold callOf at h
  split at h
  · obtain ⟨_, _, rfl⟩ := omap h; rfl
  · split at h
    · split at h
      · obtain ⟨_, _, rfl⟩ := omap h; rfl
      · simp at h
    · split at h <;> (obtain ⟨_, _, rfl⟩ := omap h; rfl)
    · obtain ⟨_, _, h⟩ := obind h; obtain ⟨_, _, rfl⟩ := omap h; rfl
    · simp at h
  · simp at h

theorem opOf_cases {op : VOp} (h : opOf P A F past o = some op) : (callOf A F past o = some op ∧ isCallOp op = true) ∨ (plainOf P A F past o = some op ∧ isCallOp op = false) := by
  unfold opOf at h
  split at h
  · rename_i op' hc; cases h; exact .inl ⟨hc, callOf_is hc⟩
  · obtain ⟨op', h1, h⟩ := obind h
    split at h
    · simp at h
    · rename_i hn; cases h; exact .inr ⟨h1, by simpa using hn⟩

theorem op_done (hi : Inv w0 φ g m w) (ht : Told A F past φ g m e ρ) (hc : ∀ v, ρ (.const v) = v) {op : VOp} (hop : opOf P A F past o = some op) {b : Nat} {v : V} {m' : Mem} (hp : Plain b m e op v m') : OpDone P w0 ρ o φ g m w v m' := by
  rcases opOf_cases hop with ⟨_, h⟩ | ⟨h, _⟩
  · exfalso
    cases op <;> simp [isCallOp] at h <;> exact hp.none_of rfl rfl rfl
  · exact op_plain hi ht hc h hp
end
end Go.Vm
-- VmY: Operations with calls; what a frame's variables are.
namespace Go.Vm
open Go Go.RowKit

def Globs (A : Ann) (φ : Phi) : Prop := ∀ g v, A.globals g = some v → RepC φ (.ep v 0) (.pointer (some ⟨g, 0, none⟩))

theorem Globs.ext {A : Ann} {φ φ' : Phi} (h : Globs A φ) (e : Ext φ φ') : Globs A φ' := fun g v hv => RepC.ext e _ _ (h g v hv)

/-- How a call ends. -/
def OutPost (w0 : World) (φ : Phi) (g : List GO) (m : Mem) (out : Out) (e : Ending) (w' : World) : Prop :=
  match out with
  | .ret vs m' => ∃ cv φ' g', e = .returned cv ∧ Goes w0 φ g m φ' g' m' w' ∧ Rep φ' g' m' (retVal vs) cv
  | .pan v m' => ∃ cv φ' g', e = .panicked [{ v := cv, recovered := false }] ∧ Goes w0 φ g m φ' g' m' w' ∧ Rep φ' g' m' v cv

def CallOK (P : Program) (w0 : World) (A : Ann) (f : FuncId) (args : List V) (m : Mem) (out : Out) : Prop :=
  ∀ φ g w (cargs : List Value), Inv w0 φ g m w → Globs A φ → RepL φ g m args cargs → Calls P f cargs.toArray w (OutPost w0 φ g m out)

def Entered (P : Program) (f : FuncId) : Prop := ∃ fn, P.funcs[f]? = some fn ∧ (fn.name == "runtime.NumGoroutine") = false ∧ fn.body.isNone = false

/-- Calls of the pure machine are calls of the model. -/
def CFok (P : Program) (w0 : World) (A : Ann) (cf : CF) : Prop := ∀ f args m out, cf f args m = some out → Entered P f ∧ CallOK P w0 A f args m out

section
variable {P : Program} {w0 : World} {φ : Phi} {g : List GO} {m : Mem} {w : World} {o : Oper} {a : Act}
variable {A : Ann} {F : FAnn} {past : List (Option Tmp)} {e : Opd → V} {cf : CF}

/-- What must follow an operation. -/
def OpNext (w0 : World) (φ : Phi) (g : List GO) (m : Mem) (dst : Option Tmp) (a : Act) (next : Act → World → Prop) (Q : Exit → Act → World → Prop) : OpOut → Prop
  | .val v m' => ∀ cv w' φ' g', Goes w0 φ g m φ' g' m' w' → Rep φ' g' m' v cv → next (a.put dst cv) w'
  | .pan v m' => ∀ cv w' φ' g', Goes w0 φ g m φ' g' m' w' → Rep φ' g' m' v cv → Q (.panic [{ v := cv, recovered := false }]) a w'

theorem run_callFunc {f : FuncId} (hE : Entered P f) (args : Array Value) : (callFunc f args).run P w = .ok (.enter f args) w := by
  obtain ⟨fn, h1, h2, h3⟩ := hE
  unfold callFunc
  simp only [Sem.run_bind, run_program, Result.andThen_ok, h1, h2, h3, Bool.false_eq_true, if_false]
  rfl

theorem call_next (hcf : CFok P w0 A cf) (hi : Inv w0 φ g m w) (hg : Globs A φ) {f : FuncId} {args : List V} {cargs : List Value} (hr : RepL φ g m args cargs) {r : OpOut} (h : callOp cf m f args = some r)
    (hex : ∀ ar, (callFunc f ar).run P w = .ok (.enter f ar) w → ar = cargs.toArray → (execOp a.eval o).run P w = .ok (.enter f ar) w) {next : Act → World → Prop} {Q : Exit → Act → World → Prop}
    (hn : OpNext w0 φ g m o.dst a next Q r) : o.wp P a w next Q := by
  unfold callOp at h
  obtain ⟨sargs, hs, h⟩ := obind h
  obtain ⟨out, ho, hr'⟩ := omap h
  obtain ⟨hE, hok⟩ := hcf f sargs m out ho
  have hrs := RepL.shut _ _ _ hr hs
  have hcall := hok φ g w cargs hi hg hrs
  unfold Oper.wp
  rw [hex _ (run_callFunc hE cargs.toArray) rfl]
  simp only [Oper.upon]
  refine Calls.mono hcall fun en w'' hpost => ?_
  unfold OutPost at hpost
  cases out with
  | ret vs m' =>
    simp only [] at hr' hpost
    subst hr'
    obtain ⟨cv, φ', g', rfl, h1, h2⟩ := hpost
    exact hn cv w'' φ' g' h1 h2
  | pan v m' =>
    simp only [] at hr' hpost
    subst hr'
    obtain ⟨cv, φ', g', rfl, h1, h2⟩ := hpost
    exact hn cv w'' φ' g' h1 h2

theorem callg_next (hcf : CFok P w0 A cf) (hi : Inv w0 φ g m w) (hg : Globs A φ) {f : FuncId} {args : List V} {cargs : List Value} {sz : Nat} (hr : RepL φ g m args cargs) {r : OpOut} (h : callgOp cf m sz f args = some r)
    (hex : ∀ ar, (callFunc f ar).run P w = .ok (.enter f ar) w → ar = cargs.toArray → (execOp a.eval o).run P w = .ok (.enter f ar) w) {next : Act → World → Prop} {Q : Exit → Act → World → Prop}
    (hn : OpNext w0 φ g m o.dst a next Q r) : o.wp P a w next Q := by
  unfold callgOp at h
  obtain ⟨⟨args', m1⟩, hb, h⟩ := obind h
  obtain ⟨g1, hgo, hr1, hlen⟩ := withBufs_rep _ hi hr hb
  simp only [] at h
  match args', cargs, hr1, h with
  | x :: rest, cargs, hr1, h =>
    obtain ⟨sargs, hs, h⟩ := obind h
    obtain ⟨out, ho, hr'⟩ := omap h
    obtain ⟨hE, hok⟩ := hcf f (x :: sargs) m1 out ho
    obtain ⟨c, cs, rfl, hx, hrest⟩ := hr1
    have hrs : RepL φ g1 m1 (x :: sargs) (c :: cs) := ⟨c, cs, rfl, hx, RepL.shut _ _ _ hrest hs⟩
    have hcall := hok φ g1 w (c :: cs) hgo.inv hg hrs
    unfold Oper.wp
    rw [hex _ (run_callFunc hE (c :: cs).toArray) rfl]
    simp only [Oper.upon]
    refine Calls.mono hcall fun en w'' hpost => ?_
    unfold OutPost at hpost
    cases out with
    | ret vs m' =>
      simp only [] at hr' hpost
      subst hr'
      obtain ⟨cv, φ', g', rfl, h1, h2⟩ := hpost
      exact hn cv w'' φ' g' (hgo.trans h1 hlen) h2
    | pan v m' =>
      simp only [] at hr' hpost
      subst hr'
      obtain ⟨cv, φ', g', rfl, h1, h2⟩ := hpost
      exact hn cv w'' φ' g' (hgo.trans h1 hlen) h2
  | [], cargs, hr1, h => cases h

theorem OpDone.wp {v : V} {m' : Mem} (h : OpDone P w0 a.eval o φ g m w v m') {next : Act → World → Prop} {Q : Exit → Act → World → Prop} (hn : OpNext w0 φ g m o.dst a next Q (.val v m')) : o.wp P a w next Q := by
  obtain ⟨nx, cv, w', φ', g', h1, h2, h3, h4⟩ := h
  unfold Oper.wp
  rw [h1]
  rcases h2 with rfl | ⟨rfl, rfl⟩
  · simp only [Oper.upon]; exact hn cv w' φ' g' h3 h4
  · simp only [Oper.upon]; exact hn undef w' φ' g' h3 h4

theorem eval_const (v : Value) : a.eval (.const v) = v := rfl

theorem opRun_ok (hcf : CFok P w0 A cf) (hi : Inv w0 φ g m w) (hg : Globs A φ) (ht : Told A F past φ g m e a.eval) {op : VOp} (hop : opOf P A F past o = some op) {b : Nat} {r : OpOut} (h : opRun cf b m e op = some r)
    {next : Act → World → Prop} {Q : Exit → Act → World → Prop} (hn : OpNext w0 φ g m o.dst a next Q r) : o.wp P a w next Q := by
  unfold opRun at h
  split at h
  · rename_i v hv; cases h; exact (op_done hi ht eval_const hop (b := b) (.pure hv)).wp hn
  · split at h
    · rename_i v hv; cases h; exact (op_done hi ht eval_const hop (b := b) (.read hv)).wp hn
    · split at h
      · rename_i v m' hv; cases h; exact (op_done hi ht eval_const hop (.eff hv)).wp hn
      · rename_i hp hr he
        -- a call, or a panic
        rcases opOf_cases hop with ⟨hop, _⟩ | ⟨_, hnc⟩
        rotate_left
        · cases op <;> simp [isCallOp] at hnc <;> simp at h
        have panic : ∀ {x : Operand} {y : Opd}, opdOf A F past x = some y → op = .panic y → (execOp a.eval o).run P w = ((do pure (.value (← Instr.panic (a.eval x))) : Sem Next)).run P w → o.wp P a w next Q := fun {x y} hx ho hex => by
          subst ho
          simp only [] at h
          split at h
          · rename_i t v hs
            cases h
            have h1 := Rep.shut _ _ _ (ht x y hx) hs
            obtain ⟨cv, h2, h3⟩ := h1
            unfold Oper.wp
            rw [hex, h2]
            simp only [Instr.panic, Sem.run_bind, run_goPanic, Result.andThen_halt, Oper.upon]
            exact hn _ w φ g (Goes.refl hi) ⟨cv, rfl, h3⟩
          · simp at h
        unfold callOf at hop
        split at hop
        · rename_i x ho
          obtain ⟨y, hy, rfl⟩ := omap hop
          exact panic hy rfl (by simp [execOp, ho])
        · rename_i c ho
          split at hop
          · rename_i hc
            split at hop
            · rename_i x ha
              have ha : c.args = #[x] := Array.ext' ha
              obtain ⟨y, hy, rfl⟩ := omap hop
              exact panic hy rfl (by simp [execOp, ho, hc, ha, resolve, invoke, builtin])
            · simp at hop
          · rename_i f hc
            have fin : ∀ ar, (callFunc f ar).run P w = .ok (.enter f ar) w → ar = (c.args.toList.map a.eval).toArray → (execOp a.eval o).run P w = .ok (.enter f ar) w := fun ar h1 h2 => by
              subst h2
              have e1 : (c.args.toList.map a.eval).toArray = c.args.map a.eval := by apply Array.ext'; simp
              rw [e1] at h1 ⊢
              simp only [execOp, ho, resolve, hc, Sem.run_bind, Act.eval, Deferred.ofValue, Sem.run_pure, Result.andThen_ok, invoke]
              simpa using h1
            split at hop
            · obtain ⟨ys, hys, rfl⟩ := omap hop
              simp only [] at h
              exact call_next hcf hi hg (told_map ht hys) h fin hn
            · obtain ⟨ys, hys, rfl⟩ := omap hop
              simp only [] at h
              exact callg_next hcf hi hg (told_map ht hys) h fin hn
          · rename_i f hnf hc
            obtain ⟨fy, hf, hop⟩ := obind hop
            obtain ⟨ys, hys, rfl⟩ := omap hop
            simp only [] at h
            split at h
            · rename_i gf first cap hfe
              have h1 := ht f fy hf
              rw [hfe] at h1
              obtain ⟨l, k, h2, h3, h4⟩ := h1
              refine call_next hcf hi hg ((h3.append (told_map ht hys)).append h4) (by simpa using h) (fun ar h5 h6 => ?_) hn
              subst h6
              have e1 : (l ++ c.args.toList.map a.eval ++ k).toArray = l.toArray ++ c.args.map a.eval ++ k.toArray := by apply Array.ext'; simp
              rw [e1] at h5 ⊢
              simp only [execOp, ho, resolve, hc, Sem.run_bind, h2, Deferred.ofValue, Sem.run_pure, Result.andThen_ok, invoke]
              simpa using h5
            · simp at h
          · simp at hop
        · simp at hop
end
end Go.Vm
-- VmZ: What runs do to memory's length, and to who leads to whom.
namespace Go.Vm
open Go Go.RowKit

/-- The objects below B lead to objects below B. -/
def Closed (B : Nat) (m : Mem) : Prop := ∀ r, r < B → ∀ cs, look m r = some (.cells cs) → V.underL B cs = true

mutual
theorem under_mono {b c : Nat} (h : b ≤ c) : ∀ (v : V), v.under b = true → v.under c = true
  | .ptr r _, hv => by simp [V.under] at hv ⊢; omega
  | .gs k _, hv => by simp [V.under] at hv ⊢; omega
  | .gm k, hv => by simp [V.under] at hv ⊢; omega
  | .fn _ a b, hv => by simp [V.under] at hv ⊢; exact ⟨underL_mono h a hv.1, underL_mono h b hv.2⟩
  | .ifc _ v, hv => by simp [V.under] at hv ⊢; exact under_mono h v hv
  | .agg cs, hv => by simp [V.under] at hv ⊢; exact underL_mono h cs hv
  | .tup vs, hv => by simp [V.under] at hv ⊢; exact underL_mono h vs hv
  | .undef, _ => rfl
  | .bool _, _ => rfl
  | .int _ _, _ => rfl
  | .str _, _ => rfl
  | .nilp, _ => rfl
  | .ep _ _, _ => rfl
  | .sl _ _ _, _ => rfl
  | .nilf, _ => rfl
  | .nili, _ => rfl
  | .nilm, _ => rfl
  | .mp _ _, _ => rfl
theorem underL_mono {b c : Nat} (h : b ≤ c) : ∀ (l : List V), V.underL b l = true → V.underL c l = true
  | [], _ => rfl
  | v :: l, hl => by simp [V.underL] at hl ⊢; exact ⟨under_mono h v hl.1, underL_mono h l hl.2⟩
end

theorem underL_iff {b : Nat} : ∀ {l : List V}, V.underL b l = true ↔ ∀ x ∈ l, x.under b = true
  | [] => by simp [V.underL]
  | v :: l => by simp [V.underL, underL_iff (l := l)]

theorem under_cells {b : Nat} {v : V} (h : v.under b = true) : V.underL b v.cells = true := by
  cases v <;> simp_all [V.cells, V.underL, V.under]

theorem Closed.cons {B : Nat} {m : Mem} (h : Closed B m) (hB : B ≤ m.length) (o : O) : Closed B (o :: m) := fun r hr cs hl => by
  rw [look_cons_lt (by omega)] at hl; exact h r hr cs hl

theorem Closed.drop {B L : Nat} {m : Mem} (h : Closed B m) (hB : B ≤ L) : Closed B (dropTo L m) := fun r hr cs hl => by
  rw [look_dropTo (by omega)] at hl; exact h r hr cs hl

theorem Closed.upd {B r : Nat} {m : Mem} {o : O} (h : Closed B m) (ho : r < B → ∀ cs, o = .cells cs → V.underL B cs = true) : Closed B (upd m r o) := fun q hq cs hl => by
  by_cases e : q = r
  · subst e
    have hlt := look_lt hl
    rw [length_upd] at hlt
    rw [look_upd_self hlt] at hl
    exact ho hq cs (Option.some.inj hl)
  · rw [look_upd_ne e] at hl; exact h q hq cs hl

theorem withBufs_pure : ∀ (bufs : List (Nat × Nat)) {m : Mem} {cs : List V} {cs' : List V} {m' : Mem}, withBufs m cs bufs = some (cs', m') → m.length ≤ m'.length ∧ ∀ B, B ≤ m.length → Closed B m → Closed B m'
  | [], m, cs, cs', m', h => by simp [withBufs] at h; obtain ⟨_, rfl⟩ := h; exact ⟨Nat.le_refl _, fun _ _ h => h⟩
  | (off, sz) :: r, m, cs, cs', m', h => by
    simp only [withBufs] at h
    split at h
    · obtain ⟨h1, h2⟩ := withBufs_pure r h
      exact ⟨by simp at h1; omega, fun B hB hc => h2 B (by simp; omega) (hc.cons hB _)⟩
    · exact withBufs_pure r h
    · exact withBufs_pure r h
    · simp at h

theorem effOp_pure {b : Nat} {m m' : Mem} {e : Opd → V} {op : VOp} {v : V} (h : effOp b m e op = some (v, m')) : m.length ≤ m'.length ∧ ∀ B, B ≤ b → B ≤ m.length → Closed B m → Closed B m' := by
  cases op <;> simp only [effOp] at h <;> try (simp at h; done)
  case store n a x =>
    split at h <;> try (simp at h; done)
    rename_i r off _
    split at h <;> try (simp at h; done)
    rename_i cs hcs
    split at h <;> try (simp at h; done)
    rename_i hc
    cases h
    refine ⟨by simp, fun B hb hB hcl => hcl.upd fun hr cs' he => ?_⟩
    cases he
    have hu := hcl r hr cs hcs
    have hv : (e x).under B = true := by
      rcases hc.2.2 with h1 | h1
      · omega
      · exact under_mono (by omega) _ h1
    rw [underL_iff] at hu ⊢
    have hcx := underL_iff.1 (under_cells hv)
    intro y hy
    rcases List.mem_append.1 hy with hy | hy
    · rcases List.mem_append.1 hy with hy | hy
      · exact hu y (List.mem_of_mem_take hy)
      · exact hcx y hy
    · exact hu y (List.mem_of_mem_drop hy)
  case alloc zero bufs =>
    obtain ⟨⟨cs', m''⟩, h1, h2⟩ := omap h
    cases h2
    obtain ⟨k1, k2⟩ := withBufs_pure bufs h1
    exact ⟨by simp; omega, fun B _ hB hc => (k2 B hB hc).cons (by omega) _⟩
  case box x bufs =>
    split at h <;> try (simp at h; done)
    obtain ⟨⟨cs', m''⟩, h1, h2⟩ := omap h
    cases h2
    obtain ⟨k1, k2⟩ := withBufs_pure bufs h1
    exact ⟨by simp; omega, fun B _ hB hc => (k2 B hB hc).cons (by omega) _⟩
  case nilbuf sz => cases h; exact ⟨by simp, fun B _ hB hc => hc.cons hB _⟩
  case mkbuf sz xs =>
    split at h <;> try (simp at h; done)
    cases h; exact ⟨by simp, fun B _ hB hc => hc.cons hB _⟩
  case range x =>
    split at h <;> try (simp at h; done)
    cases h; exact ⟨by simp, fun B _ hB hc => hc.cons hB _⟩
  case next x =>
    split at h <;> try (simp at h; done)
    split at h <;> try (simp at h; done)
    split at h
    · cases h; exact ⟨by simp, fun B _ _ hc => hc.upd fun _ cs he => by cases he⟩
    · cases h; exact ⟨Nat.le_refl _, fun _ _ _ h => h⟩
  case app sz bs x y =>
    split at h <;> try (simp at h; done)
    split at h
    · split at h <;> try (simp at h; done)
      split at h <;> try (simp at h; done)
      cases h; exact ⟨by simp, fun B _ _ hc => hc.upd fun _ cs he => by cases he⟩
    · split at h <;> try (simp at h; done)
      cases h; exact ⟨by simp, fun B _ hB hc => hc.cons hB _⟩
    · simp at h

def Out.mem : Out → Mem
  | .ret _ m => m
  | .pan _ m => m
def OpOut.mem : OpOut → Mem
  | .val _ m => m
  | .pan _ m => m
def Rs.mem : Rs → Mem
  | .nrm _ m => m
  | .exit _ _ m => m
  | .ret _ m => m
  | .pan _ m => m

/-- What calls do to memory's length, and to who leads to whom. -/
def CFpure (cf : CF) : Prop := ∀ f args m out, cf f args m = some out → m.length ≤ out.mem.length ∧ ∀ B, B ≤ m.length → Closed B m → Closed B out.mem

section
variable {cf : CF} {b : Nat}

theorem callOp_pure (hcf : CFpure cf) {m : Mem} {f : FuncId} {args : List V} {r : OpOut} (h : callOp cf m f args = some r) : m.length ≤ r.mem.length ∧ ∀ B, B ≤ m.length → Closed B m → Closed B r.mem := by
  unfold callOp at h
  obtain ⟨sargs, _, h⟩ := obind h
  obtain ⟨out, ho, rfl⟩ := omap h
  have := hcf f sargs m out ho
  cases out <;> exact this

theorem callgOp_pure (hcf : CFpure cf) {m : Mem} {sz : Nat} {f : FuncId} {args : List V} {r : OpOut} (h : callgOp cf m sz f args = some r) : m.length ≤ r.mem.length ∧ ∀ B, B ≤ m.length → Closed B m → Closed B r.mem := by
  unfold callgOp at h
  obtain ⟨⟨args', m1⟩, hb, h⟩ := obind h
  obtain ⟨k1, k2⟩ := withBufs_pure _ hb
  simp only [] at h
  match args', h with
  | x :: rest, h =>
    obtain ⟨sargs, _, h⟩ := obind h
    obtain ⟨out, ho, rfl⟩ := omap h
    have := hcf f (x :: sargs) m1 out ho
    cases out with
    | ret vs m' => exact ⟨Nat.le_trans k1 this.1, fun B hB hc => this.2 B (Nat.le_trans hB k1) (k2 B hB hc)⟩
    | pan v m' => exact ⟨Nat.le_trans k1 this.1, fun B hB hc => this.2 B (Nat.le_trans hB k1) (k2 B hB hc)⟩
  | [], h => cases h

theorem opRun_pure (hcf : CFpure cf) {m : Mem} {e : Opd → V} {op : VOp} {r : OpOut} (h : opRun cf b m e op = some r) : m.length ≤ r.mem.length ∧ ∀ B, B ≤ b → B ≤ m.length → Closed B m → Closed B r.mem := by
  unfold opRun at h
  split at h
  · cases h; exact ⟨Nat.le_refl _, fun _ _ _ h => h⟩
  · split at h
    · cases h; exact ⟨Nat.le_refl _, fun _ _ _ h => h⟩
    · split at h
      · rename_i v m' he; cases h; exact effOp_pure he
      · split at h
        · obtain ⟨h1, h2⟩ := callOp_pure hcf h
          exact ⟨h1, fun B _ => h2 B⟩
        · split at h
          · obtain ⟨h1, h2⟩ := callOp_pure hcf h
            exact ⟨h1, fun B _ => h2 B⟩
          · simp at h
        · obtain ⟨h1, h2⟩ := callgOp_pure hcf h
          exact ⟨h1, fun B _ => h2 B⟩
        · split at h
          · cases h; exact ⟨Nat.le_refl _, fun _ _ _ h => h⟩
          · simp at h
        · simp at h

theorem runOps_pure (hcf : CFpure cf) : ∀ {l : List VOper} {ov vars : List V} {m : Mem} {rs : Rs}, runOps cf b l ov vars m = some rs → m.length ≤ rs.mem.length ∧ ∀ B, B ≤ b → B ≤ m.length → Closed B m → Closed B rs.mem
  | [], ov, vars, m, rs, h => by simp [runOps] at h; subst h; exact ⟨Nat.le_refl _, fun _ _ _ h => h⟩
  | o :: l, ov, vars, m, rs, h => by
    simp only [runOps] at h
    split at h
    · split at h
      · rename_i v m' ho
        obtain ⟨h1, h2⟩ := opRun_pure hcf ho
        obtain ⟨k1, k2⟩ := runOps_pure hcf h
        simp only [OpOut.mem] at h1 h2
        exact ⟨by omega, fun B hb hB hc => k2 B hb (by omega) (h2 B hb hB hc)⟩
      · rename_i v m' ho
        cases h
        exact opRun_pure hcf ho
      · simp at h
    · exact runOps_pure hcf h
    · simp at h

theorem drawStep_pure (hcf : CFpure cf) {pre : List Nat} {i : Nat} {o : VOper} {s s' : DS} (h : drawStep cf b pre i o s = some s') : s.m.length ≤ s'.m.length ∧ ∀ B, B ≤ b → B ≤ s.m.length → Closed B s.m → Closed B s'.m := by
  have triv : s.m.length ≤ s.m.length ∧ ∀ B, B ≤ b → B ≤ s.m.length → Closed B s.m → Closed B s.m := ⟨Nat.le_refl _, fun _ _ _ h => h⟩
  unfold drawStep at h
  split at h
  · cases h; exact triv
  · split at h
    · simp at h
    · cases h; exact triv
    · split at h
      · cases h; exact triv
      · split at h
        · cases h; exact triv
        · split at h
          · simp at h
          · split at h
            · rename_i ho; cases h; exact opRun_pure hcf ho
            · rename_i ho; cases h; exact opRun_pure hcf ho
            · simp at h

theorem runDraw_pure (hcf : CFpure cf) {pre : List Nat} : ∀ {l : List VOper} {i : Nat} {s s' : DS}, runDraw cf b pre i l s = some s' → s.m.length ≤ s'.m.length ∧ ∀ B, B ≤ b → B ≤ s.m.length → Closed B s.m → Closed B s'.m
  | [], i, s, s', h => by simp [runDraw] at h; subst h; exact ⟨Nat.le_refl _, fun _ _ _ h => h⟩
  | o :: l, i, s, s', h => by
    simp only [runDraw] at h
    obtain ⟨s1, h1, h2⟩ := obind h
    obtain ⟨k1, k2⟩ := drawStep_pure hcf h1
    obtain ⟨q1, q2⟩ := runDraw_pure hcf h2
    exact ⟨by omega, fun B hb hB hc => q2 B hb (by omega) (k2 B hb hB hc)⟩

theorem drawEnd_mem {pairs : List (Nat × Nat)} {s : DS} {rs : Rs} (h : drawEnd pairs s = some rs) : rs.mem = s.m := by
  unfold drawEnd at h
  split at h
  · split at h <;> (cases h; rfl)
  · simp at h

theorem fresh_some {L : Nat} {kill : List Nat} {vars vars' : List V} {m m' : Mem} (h : fresh b L kill vars m = some (vars', m')) : vars' = killed kill vars ∧ m' = dropTo L m ∧ V.underL L vars' = true ∧ objsOK b L m = true := by
  unfold fresh at h
  split at h
  · rename_i hc
    cases h
    simp only [Bool.and_eq_true] at hc
    exact ⟨rfl, rfl, hc.1, hc.2⟩
  · simp at h

theorem rounds_pure {L : Nat} {kill : List Nat} {f : List V → Mem → Option Rs} (hf : ∀ vars m rs, b ≤ m.length → f vars m = some rs → m.length ≤ rs.mem.length ∧ ∀ B, B ≤ b → Closed B m → Closed B rs.mem) (hbL : b ≤ L) :
    ∀ {n : Nat} {vars : List V} {m : Mem} {rs : Rs}, L ≤ m.length → rounds b L kill f n vars m = some rs → L ≤ rs.mem.length ∧ ∀ B, B ≤ b → Closed B m → Closed B rs.mem
  | 0, vars, m, rs, _, h => by simp [rounds] at h
  | n + 1, vars, m, rs, hL, h => by
    simp only [rounds] at h
    split at h
    · simp at h
    · rename_i vars' m' hfr
      obtain ⟨_, rfl, _, _⟩ := fresh_some hfr
      have hlen : (dropTo L m).length = L := by rw [length_dropTo]; omega
      split at h
      · rename_i vars2 m2 hr
        obtain ⟨k1, k2⟩ := hf _ _ _ (by omega) hr
        simp only [Rs.mem] at k1 k2
        obtain ⟨q1, q2⟩ := rounds_pure hf hbL (by omega) h
        exact ⟨q1, fun B hb hc => q2 B hb (k2 B hb (hc.drop (by omega)))⟩
      · obtain ⟨k1, k2⟩ := hf _ _ _ (by omega) h
        exact ⟨by omega, fun B hb hc => k2 B hb (hc.drop (by omega))⟩

theorem exec_pure (hcf : CFpure cf) (n : Nat) : ∀ (c : VC) (vars : List V) (m : Mem) (rs : Rs), b ≤ m.length → exec cf b n c vars m = some rs → m.length ≤ rs.mem.length ∧ ∀ B, B ≤ b → Closed B m → Closed B rs.mem
  | .skip, vars, m, rs, _, h => by simp [exec] at h; subst h; exact ⟨Nat.le_refl _, fun _ _ h => h⟩
  | .reg ops, vars, m, rs, hb, h => by
    simp only [exec] at h
    obtain ⟨h1, h2⟩ := runOps_pure hcf h
    exact ⟨h1, fun B hB => h2 B hB (by omega)⟩
  | .draw ops d, vars, m, rs, hb, h => by
    simp only [exec] at h
    obtain ⟨s, h1, h2⟩ := obind h
    obtain ⟨k1, k2⟩ := runDraw_pure hcf h1
    rw [drawEnd_mem h2]
    exact ⟨k1, fun B hB => k2 B hB (by show B ≤ m.length; omega)⟩
  | .seq x y, vars, m, rs, hb, h => by
    simp only [exec] at h
    split at h
    · rename_i vars' m' hx
      obtain ⟨h1, h2⟩ := exec_pure hcf n x vars m _ hb hx
      simp only [Rs.mem] at h1 h2
      obtain ⟨k1, k2⟩ := exec_pure hcf n y vars' m' rs (by omega) h
      exact ⟨by omega, fun B hB hc => k2 B hB (h2 B hB hc)⟩
    · exact exec_pure hcf n x vars m rs hb h
  | .cond c x y, vars, m, rs, hb, h => by
    simp only [exec] at h
    split at h
    · exact exec_pure hcf n x vars m rs hb h
    · exact exec_pure hcf n y vars m rs hb h
    · simp at h
  | .block id c, vars, m, rs, hb, h => by
    simp only [exec] at h
    split at h
    · rename_i id' vars' m' hc
      have := exec_pure hcf n c vars m _ hb hc
      split at h <;> (cases h; exact this)
    · exact exec_pure hcf n c vars m rs hb h
  | .loop kill c, vars, m, rs, hb, h => by
    simp only [exec] at h
    exact rounds_pure (b := b) (fun vars m rs hb hr => exec_pure hcf n c vars m rs hb hr) hb (Nat.le_refl _) h
  | .exit id, vars, m, rs, _, h => by simp [exec] at h; subst h; exact ⟨Nat.le_refl _, fun _ _ h => h⟩
  | .ret, vars, m, rs, _, h => by simp [exec] at h; subst h; exact ⟨Nat.le_refl _, fun _ _ h => h⟩
end
end Go.Vm
-- VmR: Variables of a frame, and regions in their order.
namespace Go.Vm
open Go Go.RowKit

def VarsOK (F : FAnn) (φ : Phi) (g : List GO) (m : Mem) (vars : List V) (a : Act) : Prop :=
  a.tmps.size = F.n ∧ a.defers = [] ∧ ∀ t i, F.slots.idxOf? t = some i → Rep φ g m (vars.getD i .undef) (a.tmps.getD t undef)

def OvOK (F : FAnn) (past : List (Option Tmp)) (φ : Phi) (g : List GO) (m : Mem) (ov : List V) (a : Act) : Prop :=
  ∀ t d, F.slots.idxOf? t = none → past.idxOf? (some t) = some d → Rep φ g m (ov.getD d .undef) (a.tmps.getD t undef)

/-- What must follow a piece of code. -/
def RsOK (w0 : World) (φ : Phi) (g : List GO) (m : Mem) (F : FAnn) (Q : Exit → Act → World → Prop) : Rs → Prop
  | .nrm vars m' => ∀ a w φ' g', Goes w0 φ g m φ' g' m' w → VarsOK F φ' g' m' vars a → Q .normal a w
  | .exit id vars m' => ∀ a w φ' g', Goes w0 φ g m φ' g' m' w → VarsOK F φ' g' m' vars a → Q (.exit id) a w
  | .ret vars m' => ∀ a w φ' g', Goes w0 φ g m φ' g' m' w → VarsOK F φ' g' m' vars a → Q .ret a w
  | .pan v m' => ∀ a w φ' g' cv, Goes w0 φ g m φ' g' m' w → a.tmps.size = F.n → a.defers = [] → Rep φ' g' m' v cv → Q (.panic [{ v := cv, recovered := false }]) a w

theorem RsOK.after {w0 : World} {φ φ' : Phi} {g g' : List GO} {m m' : Mem} {w' : World} {F : FAnn} {Q : Exit → Act → World → Prop} {rs : Rs} (h : RsOK w0 φ g m F Q rs) (k : Goes w0 φ g m φ' g' m' w')
    (hl : m.length ≤ m'.length) : RsOK w0 φ' g' m' F Q rs := by
  cases rs with
  | nrm vars m'' => exact fun a w φ'' g'' h1 h2 => h a w φ'' g'' (k.trans h1 hl) h2
  | exit id vars m'' => exact fun a w φ'' g'' h1 h2 => h a w φ'' g'' (k.trans h1 hl) h2
  | ret vars m'' => exact fun a w φ'' g'' h1 h2 => h a w φ'' g'' (k.trans h1 hl) h2
  | pan v m'' => exact fun a w φ'' g'' cv h1 h2 h3 h4 => h a w φ'' g'' cv (k.trans h1 hl) h2 h3 h4

section
variable {P : Program} {w0 : World} {φ φ' : Phi} {g g' : List GO} {m m' : Mem} {w w' : World} {a : Act}
variable {A : Ann} {F : FAnn} {past : List (Option Tmp)} {cf : CF} {ov vars : List V}

theorem told_of (hg : Globs A φ) (hv : VarsOK F φ g m vars a) (ho : OvOK F past φ g m ov a) : Told A F past φ g m (opd ov vars) a.eval := by
  intro x y h
  cases x with
  | tmp t =>
    simp only [opdOf] at h
    split at h
    · rename_i i hi; cases h; exact hv.2.2 t i hi
    · rename_i hn
      obtain ⟨d, hd, rfl⟩ := omap h
      exact ho t d hn hd
  | const v =>
    simp only [opdOf] at h
    obtain ⟨d, hd, rfl⟩ := omap h
    exact RepC.rep _ _ (vOf_rep _ _ hd)
  | global gl =>
    simp only [opdOf] at h
    obtain ⟨d, hd, rfl⟩ := omap h
    exact RepC.rep _ _ (hg _ _ hd)
  | func f =>
    simp only [opdOf, Option.some.injEq] at h
    subst h
    exact ⟨[], [], rfl, RepL.nil, RepL.nil⟩

theorem VarsOK.mono (h : VarsOK F φ g m vars a) (hi : Inv w0 φ g m w) (k : Goes w0 φ g m φ' g' m' w') : VarsOK F φ' g' m' vars a :=
  ⟨h.1, h.2.1, fun t i hs => k.rep hi (h.2.2 t i hs)⟩
theorem OvOK.mono (h : OvOK F past φ g m ov a) (hi : Inv w0 φ g m w) (k : Goes w0 φ g m φ' g' m' w') : OvOK F past φ' g' m' ov a :=
  fun t d h1 h2 => k.rep hi (h t d h1 h2)

theorem rep_undef {c : Value} : Rep φ g m .undef c := True.intro

theorem getD_set {l : List V} {i j : Nat} {v : V} : (l.set i v).getD j .undef = if i = j ∧ i < l.length then v else l.getD j .undef := by
  simp only [List.getD, List.getElem?_set]
  by_cases h : i = j
  · subst h
    by_cases h2 : i < l.length
    · simp [h2]
    · simp [h2]
  · simp [h]

theorem put_getD {dst : Option Tmp} {v : Value} {t : Tmp} : (a.put dst v).tmps.getD t undef = if dst = some t ∧ t < a.tmps.size then v else a.tmps.getD t undef := by
  cases dst with
  | none => simp [Act.put]
  | some d =>
    simp only [Act.put, Array.getD_eq_getD_getElem?, Array.getElem?_setIfInBounds, Option.some.injEq]
    by_cases h : d = t
    · subst h
      by_cases h2 : d < a.tmps.size
      · simp [h2]
      · simp [h2]
    · simp [h]

theorem put_size {dst : Option Tmp} {v : Value} : (a.put dst v).tmps.size = a.tmps.size := by cases dst <;> simp [Act.put]
theorem put_defers {dst : Option Tmp} {v : Value} : (a.put dst v).defers = a.defers := by cases dst <;> simp [Act.put]

theorem idxOf?_inj {l : List Nat} {s t i : Nat} (h : l.idxOf? s = some i) (k : l.idxOf? t = some i) : s = t := by
  simp only [List.idxOf?, List.findIdx?_eq_some_iff_getElem, beq_iff_eq] at h k
  obtain ⟨h1, h2, _⟩ := h
  obtain ⟨k1, k2, _⟩ := k
  exact h2.symm.trans k2

theorem VarsOK.put {dst : Option Tmp} {v : V} {cv : Value} (h : VarsOK F φ g m vars a) (hk : dstOk F dst = true) (hr : Rep φ g m v cv) : VarsOK F φ g m (setv vars (dst.bind fun d => F.slots.idxOf? d) v) (a.put dst cv) := by
  refine ⟨put_size.trans h.1, put_defers.trans h.2.1, fun t i hs => ?_⟩
  rw [put_getD]
  cases dst with
  | none => simpa [setv] using h.2.2 t i hs
  | some d =>
    simp only [Option.bind_some, Option.some.injEq]
    cases hd : F.slots.idxOf? d with
    | none =>
      have hne : ¬ d = t := fun e => by subst e; simp [hd] at hs
      simpa [setv, hne] using h.2.2 t i hs
    | some j =>
      simp only [setv, getD_set]
      by_cases e : d = t
      · subst e
        have : j = i := by rw [hd] at hs; exact Option.some.inj hs
        subst this
        by_cases h3 : j < vars.length
        · by_cases h4 : d < a.tmps.size
          · simpa [h3, h4] using hr
          · simp only [dstOk, decide_eq_true_eq] at hk
            exact absurd (h.1 ▸ hk) h4
        · have : vars.getD j V.undef = .undef := by simp [List.getD, List.getElem?_eq_none (Nat.le_of_not_lt h3)]
          simp only [h3, and_false, if_false, this]
          exact rep_undef
      · have hji : ¬ j = i := fun e' => e (idxOf?_inj hd (e' ▸ hs))
        simpa [e, hji] using h.2.2 t i hs

theorem OvOK.put {dst : Option Tmp} {v : V} {cv : Value} (h : OvOK F past φ g m ov a) (hz : a.tmps.size = F.n) (hk : dstOk F dst = true) (hr : Rep φ g m v cv) : OvOK F (dst :: past) φ g m (v :: ov) (a.put dst cv) := by
  intro t d h1 h2
  rw [put_getD]
  simp only [List.idxOf?_cons] at h2
  by_cases e : dst = some t
  · subst e
    simp only [beq_self_eq_true, if_true, Option.some.injEq] at h2
    subst h2
    simp only [dstOk, decide_eq_true_eq] at hk
    have : t < a.tmps.size := hz ▸ hk
    simpa [this] using hr
  · have e' : (dst == some t) = false := by simpa using e
    simp only [e', Bool.false_eq_true, if_false] at h2
    obtain ⟨d', h3, rfl⟩ := omap h2
    simpa [e] using h t d' h1 h3

theorem OvOK.nil {ov : List V} : OvOK F [] φ g m [] a := fun t d _ h => by simp [List.idxOf?] at h

theorem wanted_ok {ops : Array Oper} {o : Oper} {vo : VOper} (ho : ∀ t d want, vo.guard = some (d, want) → opdOf A F past (.tmp t) = some (.l d) → Rep φ g m (ov.getD d .undef) (a.tmps.getD t undef)) (h : operOf P A F past o ops = some vo) {b : Bool} (hw : wanted ov vo.guard = some b) :
    Region.wanted o (yielded ops a.tmps) = b := by
  unfold operOf at h
  split at h
  · obtain ⟨op, _, h⟩ := obind h
    split at h
    · rename_i hg
      cases h
      simp only [wanted, Option.some.injEq] at hw
      simp [Region.wanted, hg, ← hw]
    · rename_i j want hg
      split at h
      · rename_i t ht
        split at h
        · rename_i d hd
          cases h
          have hr := ho t d want rfl hd
          · simp only [wanted] at hw
            simp only [Region.wanted, hg]
            have hy : ∀ {x : Value}, a.tmps.getD t undef = x → x ≠ undef → a.tmps[t]? = some x := by
              intro x hx hne
              rw [Array.getD_eq_getD_getElem?] at hx
              cases hq : a.tmps[t]? with
              | none => rw [hq] at hx; exact absurd hx.symm hne
              | some z => rw [hq] at hx; simpa using hx
            split at hw
            · rename_i x hx
              rw [hx] at hr
              have e1 := hy (rep_bool hr) (by simp [undef])
              cases hw
              unfold yielded
              rw [ht]
              simp only [Option.bind_some]
              rw [e1]
              cases x <;> cases want <;> rfl
            · rename_i hx
              rw [hx] at hr
              obtain ⟨l, h2, h3⟩ := hr
              have h3 : l = [] := h3
              subst h3
              cases hw
              have e1 : yielded ops a.tmps j = none := by
                unfold yielded
                rw [ht]
                simp only [Option.bind_some]
                cases hq : a.tmps[t]? with
                | none => rfl
                | some z =>
                  rw [Array.getD_eq_getD_getElem?, hq] at h2
                  simp only [Option.getD_some] at h2
                  subst h2
                  rfl
              rw [e1]; rfl
            · simp at hw
        · simp at h
      · simp at h
  · simp at h

theorem operOf_parts {ops : Array Oper} {o : Oper} {vo : VOper} (h : operOf P A F past o ops = some vo) : dstOk F o.dst = true ∧ opOf P A F past o = some vo.op ∧ vo.dst = o.dst.bind fun d => F.slots.idxOf? d := by
  unfold operOf at h
  split at h
  · rename_i hd
    obtain ⟨op, h1, h⟩ := obind h
    split at h
    · cases h; exact ⟨hd, h1, rfl⟩
    · split at h
      · split at h
        · cases h; exact ⟨hd, h1, rfl⟩
        · simp at h
      · simp at h
  · simp at h

theorem rep_skip : Rep φ g m (.tup []) undef := ⟨[], rfl, rfl⟩

theorem runOps_ok (hcf : CFok P w0 A cf) (hcp : CFpure cf) {b : Nat} {ops : Array Oper} {Q : Exit → Act → World → Prop} {rs : Rs} :
    ∀ (l : List VOper) (k : Nat) (past : List (Option Tmp)) (ov vars : List V) (m : Mem) (g : List GO) (φ : Phi) (a : Act) (w : World),
      opersOf P A F ops past (ops.toList.drop k) = some l → k ≤ ops.size → runOps cf b l ov vars m = some rs → Inv w0 φ g m w → Globs A φ → VarsOK F φ g m vars a → OvOK F past φ g m ov a →
      RsOK w0 φ g m F Q rs → wpOps P ops Q (List.range' k (ops.size - k)) a w := by
  intro l
  induction l with
  | nil =>
    intro k past ov vars m g φ a w hl hk h hi hg hv ho hq
    have hk2 : k = ops.size := by
      by_cases hlt : k < ops.size
      · have : ops.toList.drop k = ops[k] :: ops.toList.drop (k + 1) := by simp [List.drop_eq_getElem_cons (show k < ops.toList.length by simpa using hlt)]
        rw [this] at hl
        simp only [opersOf] at hl
        obtain ⟨_, _, hl⟩ := obind hl
        obtain ⟨_, _, hl⟩ := omap hl
        simp at hl
      · omega
    subst hk2
    simp only [Nat.sub_self, List.range'_zero, wpOps]
    simp only [runOps, Option.some.injEq] at h
    subst h
    exact hq a w φ g (Goes.refl hi) hv
  | cons o l ih =>
    intro k past ov vars m g φ a w hl hk h hi hg hv ho hq
    have hlt : k < ops.size := by
      apply Classical.byContradiction
      intro hge
      rw [List.drop_eq_nil_of_le (by simp; omega)] at hl
      simp [opersOf] at hl
    have e1 : ops.toList.drop k = ops[k] :: ops.toList.drop (k + 1) := by simp [List.drop_eq_getElem_cons (show k < ops.toList.length by simpa using hlt)]
    rw [e1] at hl
    simp only [opersOf] at hl
    obtain ⟨vo, h1, hl⟩ := obind hl
    obtain ⟨l', h2, hl⟩ := omap hl
    cases hl
    obtain ⟨hd, hop, hdst⟩ := operOf_parts h1
    have e2 : ops.size - k = (ops.size - (k + 1)) + 1 := by omega
    rw [e2, List.range'_succ]
    have e3 : ops[k]? = some ops[k] := by simp [hlt]
    simp only [wpOps, e3]
    simp only [runOps] at h
    split at h
    · rename_i hw
      rw [wanted_ok (fun t d _ _ h => told_of hg hv ho (.tmp t) (.l d) h) h1 hw]
      simp only [if_true]
      refine .inl ?_
      split at h
      · rename_i v m' hr
        refine opRun_ok hcf hi hg (told_of hg hv ho) hop hr ?_
        intro cv w' φ' g' hgo hrep
        have hlen := (opRun_pure hcp hr).1
        have hv' := hv.mono hi hgo
        have := hv'.put hd hrep
        rw [← hdst] at this
        exact ih (k + 1) _ _ _ m' g' φ' _ w' h2 (by omega) h hgo.inv (hg.ext hgo.ext) this ((ho.mono hi hgo).put hv.1 hd hrep) (hq.after hgo hlen)
      · rename_i v m' hr
        cases h
        refine opRun_ok hcf hi hg (told_of hg hv ho) hop hr ?_
        intro cv w' φ' g' hgo hrep
        exact hq a w' φ' g' cv hgo hv.1 hv.2.1 hrep
      · simp at h
    · rename_i hw
      rw [wanted_ok (fun t d _ _ h => told_of hg hv ho (.tmp t) (.l d) h) h1 hw]
      simp only [Bool.false_eq_true, if_false]
      have := hv.put hd rep_undef (cv := undef)
      rw [← hdst] at this
      exact ih (k + 1) _ _ _ m g φ _ w h2 (by omega) h hi hg this (ho.put hv.1 hd rep_skip) hq
    · simp at h
end
end Go.Vm
