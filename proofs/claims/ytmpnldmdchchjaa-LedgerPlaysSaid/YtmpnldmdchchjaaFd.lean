import Derived.Test.YtmpnldmdchchjaaFc
import Derived.Laws.BytesString
import Derived.Laws.BitsLemmas
namespace Go.Ideal
open Go Go.RowKit
section ops
variable {P : Program} {N M : Nat} {ι : Ren} {h : Heap} {w : World} {Q : Value × Heap → Prop} {tm : List Value} {a : Act}
theorem Res.allocCells (s : Sim P N M ι h w) (hM : h.next < M) {c : List Value} {z k : Nat} {tl : Bool} {C : Array Value} {e : TypeId} {fr : Nat × Nat} (hC : C.size = c.length + k * z) (ht : tl = false → k = 0)
    (hv : ∀ (i : Nat) (v : Value), c[i]? = some v → ∃ v', C[i]? = some v' ∧ VR ι v v') (hfr : fr.1 = fr.2 ∨ C.size ≤ fr.1) :
    Res P N M ι h w (ι.put (2 * h.next) (.live ⟨w.heap.size, 0, z, c.length, k⟩)) (h.alloc (.cells c z tl)) (w.alloc (.cells C e fr)) := by
  have hle : ι.le (ι.put (2 * h.next) (.live ⟨w.heap.size, 0, z, c.length, k⟩)) := Ren.le_born (s.unborn h.next (Nat.le_refl _) hM)
  refine Res.alloc s hM (by rfl) ⟨rfl, rfl, C, e, fr, World.alloc_heap_new w _, by simp; omega, ?_, fun _ => ⟨by simp; omega, ht, hfr⟩⟩
  intro i v hi
  obtain ⟨v', h1, h2⟩ := hv i v hi
  exact ⟨v', by simpa using h1, h2.mono hle⟩
theorem VRs.toCells {c : List Value} {C : Array Value} (h : VRs ι c C.toList) : ∀ (i : Nat) (v : Value), c[i]? = some v → ∃ v', C[i]? = some v' ∧ VR ι v v' := fun i v hi =>
  let ⟨v', h1, h2⟩ := h.get i v hi
  ⟨v', by simpa using h1, h2⟩
theorem new_ptr {L : Loc} {b : Nat} (h0 : L.off = 0) : VR (ι.put b (.live L)) (.pointer (some ⟨b, 0, none⟩)) (.pointer (some ⟨L.b, 0, none⟩)) := by
  refine .ptr ?_
  simp [PR, Ren.put_same, h0]
theorem good_box (s : Sim P N M ι h w) (g : GI P ι) (t : VRs ι tm a.tmps.toList) (hQ : ∀ p, Q p → p.2.next ≤ M) {ty : TypeId} {x : Operand} (ox : okOpd P x = true) (hr : ((IOp.box (.of x)).run tm h).All Q)
    {o : Oper} (ho : o.op = .box ty x) : Good P N M ι h w Q ((execOp a.eval o).run P w) := by
  have hx := (opd_rel g t ox).cellsOf
  simp only [IOp.run, T.All] at hr
  have hM : h.next < M := by have := hQ _ hr; simp [Heap.alloc] at this; omega
  have hl := hx.length
  refine ⟨_, .pointer (some ⟨w.heap.size, 0, none⟩), _, _, _, .inl ?_, hr, new_ptr (L := ⟨w.heap.size, 0, 1, _, 0⟩) rfl, Res.allocCells (k := 0) (e := ty) (fr := (0, 0)) (C := (a.eval x).cells) s hM (by simp; simpa using hl.symm) (fun _ => rfl) hx.toCells (.inl rfl)⟩
  simp [execOp, ho, Instr.box, newVar, newRow]
theorem good_allocVar (s : Sim P N M ι h w) (hQ : ∀ p, Q p → p.2.next ≤ M) {ty : TypeId} {v : Value} (hz : zero? P ty = some v) (hr : ((IOp.box (.const v)).run tm h).All Q)
    {o : Oper} (ho : o.op = .alloc ty) : Good P N M ι h w Q ((execOp a.eval o).run P w) := by
  obtain ⟨hz1, hz2⟩ := run_zero (P := P) (w := w) hz
  have hx := (VR.clean (ι := ι) _ _ hz2).cellsOf
  simp only [IOp.run, T.All, Opd.eval] at hr
  have hM : h.next < M := by have := hQ _ hr; simp [Heap.alloc] at this; omega
  have hl := hx.length
  refine ⟨_, .pointer (some ⟨w.heap.size, 0, none⟩), _, _, _, .inl ?_, hr, new_ptr (L := ⟨w.heap.size, 0, 1, _, 0⟩) rfl, Res.allocCells (k := 0) (e := ty) (fr := (0, 0)) (C := v.cells) s hM (by simp; simpa using hl.symm) (fun _ => rfl) hx.toCells (.inl rfl)⟩
  simp [execOp, ho, Instr.alloc, hz1, newVar, newRow]
theorem good_load (s : Sim P N M ι h w) (g : GI P ι) (t : VRs ι tm a.tmps.toList) {ty : TypeId} {m : Option Nat} {x : Operand} (ox : okOpd P x = true) (hl : ld P ty = some m) (hr : ((IOp.load m (.of x)).run tm h).All Q)
    {o : Oper} (ho : o.op = .load ty x) : Good P N M ι h w Q ((execOp a.eval o).run P w) := by
  have hx := opd_rel g t ox
  simp only [IOp.run] at hr
  simp only [execOp, ho]
  generalize (Opd.of x).eval tm = vx at *
  generalize a.eval x = vx' at *
  cases hx <;> first | exact hr.elim | skip
  rename_i b off a' hp
  obtain ⟨n, h1, h2 | h2⟩ := ld_spec hl
  · obtain ⟨rfl, h2⟩ := h2
    simp only at hr
    split at hr
    · rename_i cs hc
      simp only [T.All] at hr
      obtain ⟨cs', k1, k2, _⟩ := s.read hc hp
      exact good_v s (v' := .agg cs'.toArray) (by simp [Instr.loadAt, Instr.sureAddr, loadVar, run_isAgg? h2, run_size h1, k1]) hr (.agg (by simpa using k2))
    · exact hr.elim
  · obtain ⟨rfl, h2⟩ := h2
    simp only at hr
    split at hr
    · rename_i v hc
      simp only [T.All] at hr
      obtain ⟨cs', k1, k2, k3⟩ := s.read hc hp
      cases k2 with
      | cons hv hs =>
        rename_i v' _
        have hcell : w.cell? a' = some v' := by
          have := k3 0 v' rfl
          simpa [Addr.add] using this
        exact good_v s (v' := v') (by simp [Instr.loadAt, Instr.sureAddr, loadVar, run_isAgg? h2, hcell]) hr hv
    · exact hr.elim
theorem good_store (s : Sim P N M ι h w) (g : GI P ι) (t : VRs ι tm a.tmps.toList) {ty : TypeId} {n : Nat} {x y : Operand} (ox : okOpd P x = true) (oy : okOpd P y = true) (hz : sz P ty = some n) (hr : ((IOp.store n (.of x) (.of y)).run tm h).All Q)
    {o : Oper} (ho : o.op = .store ty x y) : Good P N M ι h w Q ((execOp a.eval o).run P w) := by
  have hx := opd_rel g t ox
  have hy := opd_rel g t oy
  simp only [IOp.run] at hr
  simp only [execOp, ho]
  generalize (Opd.of x).eval tm = vx at *
  generalize a.eval x = vx' at *
  generalize (Opd.of y).eval tm = vy at *
  generalize a.eval y = vy' at *
  cases hx <;> first | exact hr.elim | skip
  rename_i b off a' hp
  simp only at hr
  split at hr
  · rename_i hlen
    split at hr
    · rename_i h' hw
      simp only [T.All] at hr
      have hc := hy.cellsOf
      obtain ⟨w', k1, k2⟩ := s.write hw hp hc
      have hcl := hc.length
      have hsz : vy'.cells.size = n := by
        have : vy'.cells.toList.length = n := by omega
        simpa using this
      refine ⟨_, undef, ι, h', w', .inr ⟨?_, rfl⟩, hr, VR.undefV ι, k2⟩
      simp only [Instr.storeAt, Instr.sureAddr, storeVar, Sem.run_bind, Sem.run_pure, Result.andThen_ok, run_size hz, hsz]
      simp [k1]
    · exact hr.elim
  · exact hr.elim
theorem zeros_list (zero : List Value) (n : Nat) : ((List.range (n * zero.length)).map fun i => zero.toArray[i % zero.length]!) = (List.replicate n zero).flatten := by
  induction n with
  | zero => simp
  | succ n ih =>
    rw [List.replicate_succ', List.flatten_append, ← ih, Nat.succ_mul, List.range_add, List.map_append]
    congr 1
    simp only [List.map_map, List.flatten_cons, List.flatten_nil, List.append_nil]
    apply List.ext_getElem
    · simp
    · intro i h1 h2
      simp at h1
      simp [Nat.mul_add_mod_self_right, Nat.mod_eq_of_lt h1, h2]
theorem zeros_array (zero : List Value) (z n : Nat) (hz : zero.length = z) : ((Array.range (n * z)).map fun i => zero.toArray[i % zero.toArray.size]!).toList = (List.replicate n zero).flatten := by
  subst hz
  rw [← zeros_list]
  simp [Array.toList_range]
theorem new_slice {L : Loc} {b len cap cap' : Nat} {sp : Option Nat} (hb : L.off = 0) (hlen : len ≤ cap) (hs : sp = none ∨ sp = some L.z) (hc : cap' = cap + (if sp.isSome = true ∧ cap * L.z = L.size then L.slack else 0)) : VR (ι.put b (.live L)) (.slice (some ⟨b, 0, sp⟩) len cap) (.slice (some ⟨L.b, 0, none⟩) len cap') := by
  refine .slice hlen ?_
  simp only [SR, Ren.put_same, hb, Nat.zero_add]
  exact ⟨hs, hc, by simp⟩
theorem good_buildSlice (s : Sim P N M ι h w) (g : GI P ι) (t : VRs ι tm a.tmps.toList) (hQ : ∀ p, Q p → p.2.next ≤ M) {ty : TypeId} {z b len : Nat} {zero : List Value} {ps : Array (Nat × Operand)} (op : ((ps.toList.map (·.2)).toArray).toList.all (okOpd P) = true) (he : elem? P ty = some (z, b, zero)) (h24 : len * z ≤ 2 ^ 24)
    (hr : ((IOp.buildSlice z len zero (ps.toList.map fun p => (p.1, .of p.2))).run tm h).All Q)
    {o : Oper} (ho : o.op = .buildSlice ty len ps) : Good P N M ι h w Q ((execOp a.eval o).run P w) := by
  obtain ⟨e, v, hu, hz, _, hv, hzv, hz0, hzl, _⟩ := elem_spec he
  obtain ⟨hz1, hz2⟩ := run_zero (P := P) (w := w) hv
  simp only [IOp.run, List.map_map] at hr
  split at hr
  · rename_i cs hl
    simp only [T.All] at hr
    have hM : h.next < M := by have := hQ _ hr; simp [Heap.alloc] at this; omega
    have hvv := (VR.clean (ι := ι) _ _ hz2).cellsOf
    rw [← hzv] at hvv
    have hzs : v.cells.toList.length = z := by rw [← hvv.length]; exact hzl
    -- the model's zeros
    have hzc : ∃ Z : Array Value, (if len * z = 0 then Z = #[] else Z = v.cells) ∧ ((Array.range (len * z)).map (Z[· % Z.size]!)).toList = (List.replicate len v.cells.toList).flatten := by
      by_cases h0 : len * z = 0
      · refine ⟨#[], by simp [h0], ?_⟩
        have : len = 0 := by
          rcases Nat.mul_eq_zero.1 h0 with e | e
          · exact e
          · omega
        subst this
        simp
      · refine ⟨v.cells, by simp [h0], ?_⟩
        have := zeros_array v.cells.toList z len hzs
        simpa using this
    obtain ⟨Z, hZ1, hZ2⟩ := hzc
    obtain ⟨C', h1, h2⟩ := fill_sound (ι := ι) (place := fun i => some (i * z, z)) (off := fun i => i * z) (size := fun _ => z) (fun x => (Opd.of x).eval tm) a.eval ps.toList (List.replicate len zero).flatten ((Array.range (len * z)).map (Z[· % Z.size]!)) cs
      (by rw [hZ2]; exact VRs.flatten_replicate len hvv) hl (fun p hpp => rfl) (parts_rel g t op)
    have hcl := h2.length
    refine ⟨_, .slice (some ⟨w.heap.size, 0, none⟩) len len, _, _, _, .inl ?_, hr, new_slice (L := ⟨w.heap.size, 0, z, cs.length, 0⟩) (sp := none) rfl (Nat.le_refl _) (.inl rfl) (by simp), Res.allocCells (k := 0) (e := e) (fr := (0, 0)) (C := C') s hM (by simp; simpa using hcl.symm) (fun _ => rfl) h2.toCells (.inl rfl)⟩
    simp only [execOp, ho, Instr.buildSlice, Sem.run_bind, run_under hu, Result.andThen_ok, run_size hz, Sem.run_pure]
    rw [if_neg (by omega)]
    have h1' : Instr.fill (fun i => some (i * z, z)) ((Array.range (len * z)).map (Z[· % Z.size]!)) (ps.map fun p => (p.1, a.eval p.2)).toList = some C' := by simpa using h1
    by_cases h0 : len * z = 0
    · simp only [h0, if_true] at hZ1
      subst hZ1
      rw [if_pos h0]
      simp only [Sem.run_bind, Sem.run_pure, Result.andThen_ok]
      rw [h1']
      simp [newRow]
    · simp only [h0, if_false] at hZ1
      subst hZ1
      rw [if_neg h0]
      simp only [Sem.run_bind, Sem.run_pure, Result.andThen_ok, hz1]
      rw [h1']
      simp [newRow]
  · exact hr.elim
end ops
end Go.Ideal
namespace Go.Ideal
open Go Go.RowKit
section ops
variable {P : Program} {N M : Nat} {ι : Ren} {h : Heap} {w : World} {Q : Value × Heap → Prop} {tm : List Value} {a : Act}
theorem good_makeMap (s : Sim P N M ι h w) (hQ : ∀ p, Q p → p.2.next ≤ M) {ty : TypeId} {res : Option Operand} (hres : res = none ∨ ∃ k n k' e, res = some (.const (.int k n)) ∧ P.underlying ty = some (.map k' e)) (hr : (IOp.makeMap.run tm h).All Q)
    {o : Oper} (ho : o.op = .makeMap ty res) : Good P N M ι h w Q ((execOp a.eval o).run P w) := by
  simp only [IOp.run, T.All] at hr
  have hM : h.next < M := by have := hQ _ hr; simp [Heap.alloc] at this; omega
  have r := Res.alloc (o := .map [] 0) (O := .map #[] 0) (L := ⟨w.heap.size, 0, 0, 0, 0⟩) s hM rfl ⟨by omega, #[], World.alloc_heap_new w _, .nil⟩
  refine ⟨_, .map (some w.heap.size), _, _, _, .inl ?_, hr, .map (by simp [MR, Ren.put_same]), r⟩
  rcases hres with rfl | ⟨k, n, k', e, rfl, hu⟩
  · simp [execOp, ho, Instr.makeMap]
  · simp [execOp, ho, Instr.makeMap, Act.eval, run_under hu, asInt, asIntOf]
theorem wrap_small {n : Int} (h0 : 0 ≤ n) (h1 : n ≤ 140737488355328) : IntKind.i64.wrap n = n := by
  rw [IntKind.wrap_i64]; omega
theorem good_makeSlice (s : Sim P N M ι h w) (g : GI P ι) (t : VRs ι tm a.tmps.toList) (hQ : ∀ p, Q p → p.2.next ≤ M) {ty : TypeId} {z b : Nat} {zero : List Value} {x y : Operand} (ox : okOpd P x = true) (oy : okOpd P y = true) (he : elem? P ty = some (z, b, zero))
    (hr : ((IOp.makeSlice z b zero (.of x) (.of y)).run tm h).All Q) {o : Oper} (ho : o.op = .makeSlice ty x y) : Good P N M ι h w Q ((execOp a.eval o).run P w) := by
  have hx := opd_rel g t ox
  have hy := opd_rel g t oy
  obtain ⟨e, v, hu, hz, hbt, hv, hzv, hz0, hzl, hb0⟩ := elem_spec he
  obtain ⟨hz1, hz2⟩ := run_zero (P := P) (w := w) hv
  obtain ⟨ti, hti, htb⟩ := run_bytes (P := P) (w := w) hbt
  simp only [IOp.run] at hr
  simp only [execOp, ho]
  generalize (Opd.of x).eval tm = vx at *
  generalize a.eval x = vx' at *
  generalize (Opd.of y).eval tm = vy at *
  generalize a.eval y = vy' at *
  cases hl : asInt? vx with
  | none => simp only [hl] at hr; exact hr.elim
  | some l =>
    cases hc : asInt? vy with
    | none => simp only [hl, hc] at hr; exact hr.elim
    | some c =>
      simp only [hl, hc] at hr
      split at hr
      · rename_i hcond
        obtain ⟨c0, c1, c2, c3⟩ := hcond
        unfold roomMost at c2 c3
        simp only [T.All] at hr
        obtain ⟨k1, rfl, rfl⟩ := asInt_spec hx hl
        obtain ⟨k2, rfl, rfl⟩ := asInt_spec hy hc
        have hM : h.next < M := by have := hQ _ hr; simp [Heap.alloc] at this; omega
        have hvv := (VR.clean (ι := ι) _ _ hz2).cellsOf
        rw [← hzv] at hvv
        have hzs : v.cells.toList.length = z := by rw [← hvv.length]; exact hzl
        have hwl := wrap_small (n := l) c0 (by omega)
        have hwc := wrap_small (n := c) (by omega) (by omega)
        have hzc : ∃ Z : Array Value, (if c.toNat * z = 0 then Z = #[] else Z = v.cells) ∧ ((Array.range (c.toNat * z)).map (Z[· % Z.size]!)).toList = (List.replicate c.toNat v.cells.toList).flatten := by
          by_cases h0 : c.toNat * z = 0
          · refine ⟨#[], by simp [h0], ?_⟩
            have : c.toNat = 0 := by
              rcases Nat.mul_eq_zero.1 h0 with e | e
              · exact e
              · omega
            rw [this]
            simp
          · refine ⟨v.cells, by simp [h0], ?_⟩
            have := zeros_array v.cells.toList z c.toNat hzs
            simpa using this
        obtain ⟨Z, hZ1, hZ2⟩ := hzc
        have hcells : VRs ι (List.replicate c.toNat zero).flatten ((Array.range (c.toNat * z)).map (Z[· % Z.size]!)).toList := by rw [hZ2]; exact VRs.flatten_replicate _ hvv
        have hcl := hcells.length
        refine ⟨_, .slice (some ⟨w.heap.size, 0, none⟩) l.toNat c.toNat, _, _, _, .inl ?_, hr, new_slice (L := ⟨w.heap.size, 0, z, _, 0⟩) (sp := none) rfl (by omega) (.inl rfl) (by simp), Res.allocCells (k := 0) (e := e) (fr := (0, 0)) s hM (by rw [Nat.zero_mul, Nat.add_zero, hcl, Array.length_toList]) (fun _ => rfl) hcells.toCells (.inl rfl)⟩
        have hbt2 : ¬ ((ti.bytes : Int) * c > 2 ^ 48) := by rw [htb, Int.mul_comm]; omega
        simp only [Instr.makeSlice, Sem.run_bind, run_under hu, Result.andThen_ok, asInt, asIntOf, Sem.run_pure, hti, hwl, hwc]
        have htl : (decide (c < 0) || decide ((ti.bytes : Int) * c > 2 ^ 48) || decide (l < 0) || decide (l > c)) = false := by
          simp only [Bool.or_eq_false_iff, decide_eq_false_iff_not]
          refine ⟨⟨⟨by omega, hbt2⟩, by omega⟩, by omega⟩
        rw [htl, if_neg (by simp)]
        simp only [Sem.run_bind, run_askRoom, Result.andThen_ok, run_size hz]
        by_cases h0 : c.toNat * z = 0
        · simp only [h0, if_true] at hZ1
          subst hZ1
          rw [if_pos h0]
          simp [newRow]
        · simp only [h0, if_false] at hZ1
          subst hZ1
          rw [if_neg h0]
          simp [newRow, hz1]
      · exact hr.elim
theorem freeze_new (w : World) (C : Array Value) (e : TypeId) : (w.alloc (.cells C e)).freeze ⟨w.heap.size, C.size, none⟩ 1 = w.alloc (.cells C e (C.size, C.size + 1)) := by
  unfold World.freeze
  rw [if_neg (by omega)]
  simp only [← World.alloc_eq]
  congr 1
  apply Array.ext_getElem?
  intro i
  rw [Array.getElem?_modify]
  by_cases hi : w.heap.size = i
  · subst hi; simp
  · rw [if_neg hi, Array.getElem?_push, Array.getElem?_push, if_neg (Ne.symm hi), if_neg (Ne.symm hi)]
theorem good_strBytes (s : Sim P N M ι h w) (g : GI P ι) (t : VRs ι tm a.tmps.toList) (hQ : ∀ p, Q p → p.2.next ≤ M) {src dst e : TypeId} {x : Operand} (ox : okOpd P x = true) (h1 : P.underlying src = some .string) (h2 : P.underlying dst = some (.slice e)) (h3 : P.underlying e = some (.int .u8))
    (hr : ((IOp.strBytes (.of x)).run tm h).All Q) {o : Oper} (ho : o.op = .convert src dst x) : Good P N M ι h w Q ((execOp a.eval o).run P w) := by
  have hx := opd_rel g t ox
  simp only [IOp.run] at hr
  simp only [execOp, ho]
  generalize (Opd.of x).eval tm = vx at *
  generalize a.eval x = vx' at *
  cases hx <;> first | exact hr.elim | skip
  rename_i st
  simp only [T.All] at hr
  have hM : h.next < M := by have := hQ _ hr; simp [Heap.alloc] at this; omega
  -- the capacity that is drawn
  obtain ⟨cap, hcap, hge⟩ : ∃ cap, (choose (.appendCap st.size 0 e)).run P w = .ok cap { w with drawn := w.drawn + 1 } ∧ st.size ≤ cap := by
    refine ⟨_, by rw [run_choose]; simp [Question.forced]; rfl, ?_⟩
    simp [Question.cut]
  have rd := Res.drew (s := s) (w.drawn + 1)
  generalize hw1 : ({ w with drawn := w.drawn + 1 } : World) = w1 at *
  have hsz1 : w1.heap.size = w.heap.size := by subst hw1; rfl
  have hsize : st.data.toList.length = st.size := by simp
  obtain ⟨C, hCd⟩ : ∃ C : Array Value, C = (st.data.map fun (b : UInt8) => (Value.int .u8 b.toNat : Value)) ++ Array.replicate (cap - st.size) (Value.int .u8 0) := ⟨_, rfl⟩
  have hC : C.size = (st.data.toList.map fun (b : UInt8) => (Value.int .u8 b.toNat : Value)).length + (cap - st.size) * 1 := by subst hCd; simp
  have hcells : ∀ (i : Nat) (v : Value), (st.data.toList.map fun (b : UInt8) => (Value.int .u8 b.toNat : Value))[i]? = some v → ∃ v', C[i]? = some v' ∧ VR ι v v' := by
    intro i v hi
    have hlt := (List.getElem?_eq_some_iff.1 hi).1
    simp only [List.length_map, hsize] at hlt
    refine ⟨v, ?_, ?_⟩
    · subst hCd
      rw [Array.getElem?_append_left (by simpa using hlt)]
      simpa using hi
    · simp at hi
      obtain ⟨b, _, rfl⟩ := hi
      exact .int _ _
  have ra := Res.allocCells (ι := ι) (k := cap - st.size) (z := 1) (tl := true) (e := e) (fr := (C.size, C.size + 1)) rd.sim hM hC (fun e => by cases e) hcells
    (.inr (Nat.le_refl _))
  refine ⟨_, .slice (some ⟨w1.heap.size, 0, none⟩) st.size cap, _, _, _, .inl ?_, hr, new_slice (L := ⟨w1.heap.size, 0, 1, _, cap - st.size⟩) (sp := some 1) rfl (Nat.le_refl _) (.inr rfl) ?_, rd.trans ra⟩
  · simp only [convert, Sem.run_bind, run_under h1, run_under h2, run_under h3, Result.andThen_ok, Conv.stringToBytes, hcap, newRow, run_newObj, Sem.run_pure, markStringish, run_shape, ← hCd]
    have hsh : World.shape? (w1.alloc (.cells C e)) w1.heap.size = some (e, C.size) := by
      simp only [World.shape?, World.alloc_heap_new]
    rw [World.alloc_eq, hsh]
    simp only [run_freeze, Result.andThen_ok, freeze_new]
  · simp [hsize]; omega
theorem u8_list {ι : Ren} : ∀ {cs cs' : List Value}, VRs ι cs cs' → cs.all (fun c => match c with | .int .u8 _ => true | _ => false) = true → ∃ ns : List Int, cs = ns.map (Value.int .u8) ∧ cs' = ns.map (Value.int .u8)
  | _, _, .nil, _ => ⟨[], rfl, rfl⟩
  | _, _, .cons hv hs, h => by
    simp only [List.all_cons, Bool.and_eq_true] at h
    obtain ⟨ns, rfl, rfl⟩ := u8_list hs h.2
    cases hv <;> first | (simp at h; done) | skip
    rename_i k n
    cases k <;> first | (simp at h; done) | exact ⟨n :: ns, rfl, rfl⟩
theorem push_bytes : ∀ (ns : List Int) (s : ByteArray), ns.foldl (fun (r : ByteArray) n => r.push (UInt8.ofNat n.toNat)) s = ⟨s.data ++ (ns.map fun n => UInt8.ofNat n.toNat).toArray⟩
  | [], s => by simp
  | n :: ns, s => by
    rw [List.foldl_cons, push_bytes ns]
    congr 1
    simp [ByteArray.push]
theorem good_bytesStr (s : Sim P N M ι h w) (g : GI P ι) (t : VRs ι tm a.tmps.toList) {src dst e : TypeId} {x : Operand} (ox : okOpd P x = true) (h1 : P.underlying src = some (.slice e)) (h2 : P.underlying e = some (.int .u8)) (h3 : P.underlying dst = some .string)
    (hr : ((IOp.bytesStr (.of x)).run tm h).All Q) {o : Oper} (ho : o.op = .convert src dst x) : Good P N M ι h w Q ((execOp a.eval o).run P w) := by
  have hx := opd_rel g t ox
  simp only [IOp.run] at hr
  simp only [execOp, ho]
  generalize (Opd.of x).eval tm = vx at *
  generalize a.eval x = vx' at *
  cases hx <;> first | exact hr.elim | skip
  · simp only [T.All] at hr
    refine good_v s (v' := .string .empty) ?_ hr (.string _)
    rw [run_convert_bytes_string w src dst e none 0 0 h1 h2 h3]
    simp [Conv.bytesToString]
  · rename_i ad len cap a' cap' hl hs
    simp only at hr
    split at hr
    · rename_i h0
      subst h0
      simp only [T.All] at hr
      refine good_v s (v' := .string .empty) ?_ hr (.string _)
      rw [run_convert_bytes_string w src dst e (some a') 0 cap' h1 h2 h3]
      have := run_bytesToString (P := P) w a' 0 cap' [] (by simp [loadCells, loadCellsFrom])
      simpa using this
    · rename_i h0
      split at hr
      · rename_i cs hc
        split at hr
        · rename_i hall
          simp only [T.All] at hr
          obtain ⟨cs', k1, k2, _⟩ := s.read hc (slice_addr hs (by omega))
          obtain ⟨ns, rfl, rfl⟩ := u8_list k2 hall
          refine good_v s ?_ hr (.string _)
          rw [run_convert_bytes_string w src dst e (some a') len cap' h1 h2 h3, run_bytesToString (P := P) w a' len cap' ns k1, push_bytes]
          simp
        · exact hr.elim
      · exact hr.elim
end ops
end Go.Ideal
namespace Go.Ideal
open Go Go.RowKit
section ops
variable {P : Program} {N M : Nat} {ι : Ren} {h : Heap} {w : World} {Q : Value × Heap → Prop} {tm : List Value} {a : Act}
theorem lenOf_sound {x x' : Value} (hx : VR ι x x') {n : Nat} (hn : lenOf? x = some n) : (Builtin.lenOf x').run P w = .ok n w := by
  cases hx <;> simp [lenOf?] at hn <;> subst hn <;> simp [Builtin.lenOf]
theorem firstN_length {z n : Nat} {x : Value} {cs : List Value} (hr : firstN h z n x = some cs) (hn : ∀ m, lenOf? x = some m → n ≤ m) (hnil : ∀ l c, x = .slice none l c → n = 0) : cs.length = n * z := by
  unfold firstN at hr
  split at hr
  · split at hr
    · rename_i h0; cases hr; simp [h0]
    · unfold Heap.read at hr
      split at hr
      · simp only [Option.isNone_none, if_true] at hr
        obtain ⟨h1, rfl⟩ := readN_spec hr
        simp; omega
      · cases hr
  · cases hr
    rw [hnil _ _ rfl]; simp
  · rename_i s
    split at hr
    · rename_i hz
      cases hr
      have := hn s.size rfl
      subst hz
      simp; omega
    · cases hr
  · cases hr
theorem zeroCells_size (zero : Array Value) (n : Nat) : (Builtin.zeroCells zero n).size = n * zero.size := by simp [Builtin.zeroCells]
theorem cap_ge (need old : Nat) (e : TypeId) (t : Nat) : need ≤ (Question.appendCap need old e).cut t := by simp [Question.cut]
theorem Res.drew' (s : Sim P N M ι h w) : Res P N M ι h w ι h w.drew := Res.drew s _
theorem append_cells {old new : List Value} {old' new' rest : Array Value} (ho : VRs ι old old'.toList) (hn : VRs ι new new'.toList) : ∀ (i : Nat) (v : Value), (old ++ new)[i]? = some v → ∃ v', (old' ++ new' ++ rest)[i]? = some v' ∧ VR ι v v' := by
  intro i v hi
  have hall : VRs ι (old ++ new) (old' ++ new').toList := by simpa using VRs.append ho hn
  obtain ⟨v', h1, h2⟩ := hall.get i v hi
  have hlt := (List.getElem?_eq_some_iff.1 h1).1
  refine ⟨v', ?_, h2⟩
  rw [Array.getElem?_append_left (by simpa using hlt), ← Array.getElem?_toList]
  exact h1
theorem run_append_in {ts : Array TypeId} {e ty sT xT : TypeId} {z : Nat} (ht0 : ts[0]? = some sT) (ht1 : ts[1]? = some xT) (hu : P.underlying sT = some (.slice e)) {dx : TypeDesc} (hx : P.underlying xT = some dx) (hdx : ∀ k, dx ≠ .int k) (hz : sz P e = some z) {x' : Value} {n len cap : Nat} {base : Option Addr}
    (hl : (Builtin.lenOf x').run P w = .ok n w) (hle : len + n ≤ cap) {new' : Array Value} (hn : (Builtin.firstCells z n x').run P w = .ok new' w) {w' : World}
    (hst : (match base with | some a => (storeCells (a.add (len * z)) new'.toList).run P w | none => .ok () w) = .ok () w') :
    (Builtin.append_ ts ty #[.slice base len cap, x']).run P w = .ok (.slice base (len + n) cap) w' := by
  have hm : (match dx with | .int _ => true | _ => false) = false := by
    cases dx <;> first | rfl | exact absurd rfl (hdx _)
  unfold Builtin.append_
  simp [ht0, ht1, run_under hu, run_under hx, run_size hz, hm, hl, hle, hn]
  cases base with
  | none => simp at hst; simp [hst]
  | some a => simp only at hst; simp [hst]
theorem run_append_grow {ts : Array TypeId} {e ty sT xT : TypeId} {z b : Nat} {zv : Value} {ti : TypeInfo} (ht0 : ts[0]? = some sT) (ht1 : ts[1]? = some xT) (hu : P.underlying sT = some (.slice e)) {dx : TypeDesc} (hx : P.underlying xT = some dx) (hdx : ∀ k, dx ≠ .int k) (hz : sz P e = some z) (hti : ∀ w, (typeInfo e).run P w = .ok ti w) (hb : ti.bytes = b)
    (hzv : ∀ w, (zeroValue e).run P w = .ok zv w) {x' : Value} {n len cap : Nat} {base : Option Addr}
    (hl : (Builtin.lenOf x').run P w = .ok n w) (hgt : cap < len + n) (hroom : (len + n) * b ≤ 140737488355328) (hroom2 : len + n ≤ 140737488355328) {c : Nat} (hc : c = (Question.appendCap (len + n) cap e).cut (w.tape w.drawn (.appendCap (len + n) cap e)))
    {old' new' : Array Value} (ho : (Builtin.firstCells z len (.slice base len cap)).run P w.drew = .ok old' w.drew) (hn : (Builtin.firstCells z n x').run P w.drew = .ok new' w.drew) :
    (Builtin.append_ ts ty #[.slice base len cap, x']).run P w = .ok (.slice (some ⟨w.heap.size, 0, none⟩) (len + n) c) (w.drew.alloc (.cells (old' ++ new' ++ Builtin.zeroCells zv.cells (c - (len + n))) e)) := by
  have hm : (match dx with | .int _ => true | _ => false) = false := by
    cases dx <;> first | rfl | exact absurd rfl (hdx _)
  have hfit := growslice_fits hgt hroom
  unfold Builtin.append_
  simp [-run_choose, ht0, ht1, run_under hu, run_under hx, run_size hz, hm, hl, Nat.not_le.2 hgt, hti, hb, hzv]
  rw [if_neg (by omega), if_neg (by omega), if_neg (by simp [Question.forced]), ← hc]
  simp only [Result.andThen_ok, ho, hn]
  simp [newRow]
theorem grow_res (s : Sim P N M ι h w) (hM : h.next < M) {e : TypeId} {zv : Value} {z need c : Nat} (hzs : zv.cells.size = z) {old new : List Value} {old' new' : Array Value} (ho : VRs ι old old'.toList) (hn : VRs ι new new'.toList) :
    Res P N M ι h w (ι.put (2 * h.next) (.live ⟨w.heap.size, 0, z, (old ++ new).length, c - need⟩)) (h.alloc (.cells (old ++ new) z true)) (w.drew.alloc (.cells (old' ++ new' ++ Builtin.zeroCells zv.cells (c - need)) e)) := by
  have hol := ho.length
  have hnl := hn.length
  refine (Res.drew' s).trans (Res.allocCells (fr := (0, 0)) (Res.drew' s).sim hM ?_ (fun e => by cases e) (append_cells ho hn) (.inl rfl))
  simp only [Array.size_append, zeroCells_size, hzs, List.length_append]
  simp at hol hnl
  omega
theorem append_sound (s : Sim P N M ι h w) {ts : Array TypeId} {e ty : TypeId} {sT xT : TypeId} (ht0 : ts[0]? = some sT) (ht1 : ts[1]? = some xT) {z b : Nat} {zero : List Value} (he : elem? P sT = some (z, b, zero)) (hu : P.underlying sT = some (.slice e)) {dx : TypeDesc} (hx : P.underlying xT = some dx) (hdx : ∀ k, dx ≠ .int k)
    {vs vx vs' vx' v : Value} {h' : Heap} (rs : VR ι vs vs') (rx : VR ι vx vx') (hi : iappend h z b vs vx = some (v, h')) (hM : h'.next ≤ M) :
    ∃ v' ι' w', (Builtin.append_ ts ty #[vs', vx']).run P w = .ok v' w' ∧ VR ι' v v' ∧ Res P N M ι h w ι' h' w' := by
  obtain ⟨e', zv, hu', hz, hbt, hv, hzv, hz0, hzl, hb0⟩ := elem_spec he
  obtain rfl : e' = e := by rw [hu] at hu'; cases hu'; rfl
  have hz1 : ∀ w, (zeroValue e').run P w = .ok zv w := fun w => (run_zero (P := P) (w := w) hv).1
  have hz2 := (run_zero (P := P) (w := w) hv).2
  obtain ⟨ti, hti, htb⟩ : ∃ i, (∀ w, (typeInfo e').run P w = .ok i w) ∧ i.bytes = b := by
    unfold bytesOf? at hbt
    cases hi : P.info? e' with
    | none => simp [hi] at hbt
    | some i => simp [hi] at hbt; exact ⟨i, fun w => by simp [typeInfo, hi], hbt⟩
  have hzs : zv.cells.size = z := by
    have := (VR.clean (ι := ι) _ _ hz2).cellsOf.length
    rw [← hzv, hzl] at this
    simpa using this.symm
  unfold iappend at hi
  cases hlx : lenOf? vx with
  | none => cases vs <;> simp [hlx] at hi
  | some n =>
    have hlrun := lenOf_sound (P := P) (w := w) rx hlx
    have hlrun' := lenOf_sound (P := P) (w := w.drew) rx hlx
    have hfx : ∀ l le c, vx = .slice l le c → n = le := fun l le c hc => by subst hc; simp [lenOf?] at hlx; exact hlx.symm
    have hfx0 : ∀ le c, vx = .slice none le c → n = 0 := fun le c hc => by
      subst hc
      cases rx
      simp [lenOf?] at hlx; exact hlx.symm
    -- the first argument
    have hshape : ∃ base len cap, vs = .slice base len cap := by
      cases vs <;> simp [hlx] at hi
      exact ⟨_, _, _, rfl⟩
    obtain ⟨base, len, cap, rfl⟩ := hshape
    simp only [hlx] at hi
    by_cases hn0 : n = 0
    · -- nothing is appended
      rw [if_pos hn0] at hi
      subst hn0
      have hi' : v = .slice base len cap ∧ h' = h := by
        cases rx <;> simp at hi <;> exact ⟨hi.1.symm, hi.2.symm⟩
      obtain ⟨rfl, rfl⟩ := hi'
      obtain ⟨new', hnew, hnv⟩ : ∃ new', (Builtin.firstCells z 0 vx').run P w = .ok new' w ∧ new'.toList = [] := by
        cases rx <;> simp [lenOf?] at hlx
        · exact ⟨_, rfl, by simp⟩
        · exact ⟨#[], by simp [Builtin.firstCells], rfl⟩
        · exact ⟨#[], by simp [Builtin.firstCells, loadCells, loadCellsFrom], rfl⟩
      cases rs with
      | sliceNil => exact ⟨.slice none 0 0, ι, w, run_append_in ht0 ht1 hu hx hdx hz (base := none) (len := 0) (cap := 0) hlrun (by omega) hnew rfl, .sliceNil, .refl s⟩
      | slice hlen hsr =>
        rename_i ad a' cap'
        exact ⟨.slice (some a') (len + 0) cap', ι, w, run_append_in ht0 ht1 hu hx hdx hz (base := some a') hlrun (by have := hsr.le; omega) hnew (by rw [hnv]; simp [storeCells]), .slice hlen hsr, .refl s⟩
    · rw [if_neg hn0] at hi
      cases hf : firstN h z n vx with
      | none => simp [hf] at hi
      | some new =>
        simp only [hf] at hi
        obtain ⟨new', hnew, hnv⟩ := s.firstN rx hf (fun a l c hc => by rw [hfx a l c hc]; exact Nat.le_refl _)
        have hnl : new.length = n * z := firstN_length hf (fun m hm => by rw [hlx] at hm; cases hm; exact Nat.le_refl _) (fun l c hc => hfx0 l c hc)
        by_cases hfit : len + n ≤ cap
        · -- in place
          rw [if_pos hfit] at hi
          cases rs with
          | sliceNil => simp at hi
          | slice hlen hsr =>
            rename_i ad a' cap'
            simp only at hi
            cases hw : h.write { block := ad.block, off := ad.off + len * z, spot := none } new with
            | none => simp [hw] at hi
            | some h1 =>
              simp [hw] at hi
              obtain ⟨rfl, rfl⟩ := hi
              obtain ⟨w', k1, k2⟩ := s.write hw ((slice_addr hsr (by omega)).add (len * z)) hnv
              exact ⟨.slice (some a') (len + n) cap', ι, w', run_append_in ht0 ht1 hu hx hdx hz (base := some a') hlrun (by have := hsr.le; omega) hnew k1, .slice (by omega) hsr, k2⟩
        · rw [if_neg hfit] at hi
          by_cases hroom : (len + n) * b ≤ roomMost ∧ len + n ≤ roomMost
          · rw [if_pos hroom] at hi
            obtain ⟨hr1, hr2⟩ := hroom
            unfold roomMost at hr1 hr2
            cases hfo : firstN h z len (.slice base len cap) with
            | none => simp [hfo] at hi
            | some old =>
              simp only [hfo] at hi
              cases rs with
              | sliceNil =>
                simp at hi
                obtain ⟨rfl, rfl⟩ := hi
                have hMn : h.next < M := by simp [Heap.alloc] at hM; omega
                have sd := (Res.drew' s).sim
                obtain ⟨new2, hnew2, hnv2⟩ := sd.firstN rx hf (fun a l c hc => by rw [hfx a l c hc]; exact Nat.le_refl _)
                have hold : old = [] := by simp [firstN] at hfo; exact hfo
                subst hold
                have hg := run_append_grow (ty := ty) ht0 ht1 hu hx hdx hz hti htb hz1 (base := none) (len := 0) (cap := 0) hlrun (by omega) (by simpa using hr1) (by simpa using hr2) rfl (old' := #[]) (by simp [Builtin.firstCells]) hnew2
                refine ⟨_, _, _, hg, ?_, grow_res (need := 0 + n) s hMn hzs .nil hnv2⟩
                simp only [Nat.zero_add]
                refine new_slice (L := ⟨w.heap.size, 0, z, _, _⟩) rfl (Nat.le_refl _) (.inr rfl) ?_
                have := cap_ge n 0 e' (w.tape w.drawn (.appendCap n 0 e'))
                simp [hnl]; omega
              | slice hlen hsr =>
                rename_i ad a' cap'
                simp only at hi
                have hvs : VR ι (.slice (some ad) len cap) (.slice (some a') len cap') := .slice hlen hsr
                have sd := (Res.drew' s).sim
                obtain ⟨new2, hnew2, hnv2⟩ := sd.firstN rx hf (fun a l c hc => by rw [hfx a l c hc]; exact Nat.le_refl _)
                obtain ⟨old2, hold2, hov2⟩ := sd.firstN hvs hfo (fun a l c hc => by cases hc; exact Nat.le_refl _)
                have hol : old.length = len * z := firstN_length hfo (fun m hm => by simp [lenOf?] at hm; omega) (fun l c hc => by cases hc)
                have hcl : (old ++ new).length = (len + n) * z := by rw [List.length_append, hol, hnl, Nat.add_mul]
                split at hi
                · cases hi
                · rename_i hok
                  simp only [Bool.or_eq_true, Bool.not_eq_true', not_or, Bool.not_eq_false] at hok
                  obtain ⟨hsp, hce⟩ := hok
                  -- the block lives
                  have hgc : ∃ c zb t, h.get ad.block = some (.cells c zb t) := by
                    unfold isCells at hce
                    split at hce
                    · rename_i c zb t hg; exact ⟨c, zb, t, hg⟩
                    · cases hce
                  obtain ⟨c, zb, tl, hg⟩ := hgc
                  obtain ⟨L, hlive, hLs, hLz, C, eC, fr, hC1, hC2, hC3, hC4⟩ := s.cells hg
                  have hsr' := hsr
                  simp only [SR, hlive] at hsr'
                  obtain ⟨q1, q2, q3⟩ := hsr'
                  simp only [spotOk, Bool.or_eq_true, beq_iff_eq] at hsp
                  have hcapge := cap_ge (len + n) cap' e' (w.tape w.drawn (.appendCap (len + n) cap' e'))
                  split at hi
                  · -- memory may lie behind it
                    rename_i hre
                    simp only [reaches, hg, Bool.and_eq_true, beq_iff_eq] at hre
                    obtain ⟨⟨r1, r2⟩, r3⟩ := hre
                    have hzz : L.z = z := by rcases q1 with e | e <;> rw [r2] at e <;> cases e; rfl
                    rw [r2, hzz, hLs] at q2
                    simp only [Option.isSome_some, true_and, r3, if_true] at q2
                    split at hi
                    · cases hi
                    rename_i hone
                    simp only [Bool.not_eq_true', Bool.not_eq_false] at hone
                    cases hp : h.put ad.block none with
                    | none => simp [hp] at hi
                    | some h1 =>
                      simp [hp] at hi
                      obtain ⟨rfl, rfl⟩ := hi
                      have hnx : h1.next = h.next := by rw [(put_spec hp).2.2.2]
                      have hMn : h.next < M := by simp [Heap.alloc, hnx] at hM; omega
                      have heven := (put_spec hp).1
                      obtain ⟨f1, f2, f3⟩ := hC4 heven
                      by_cases hle : len + n ≤ cap'
                      · -- the model writes in place
                        have ha' : a' = ⟨L.b, L.off + ad.off, none⟩ := by
                          rcases q3 with e | e
                          · omega
                          · exact e
                        subst ha'
                        have hzb : zb = z := by rw [← hLz, hzz]
                        subst hzb
                        have hlz : (len + n) * zb ≤ cap' * zb := Nat.mul_le_mul_right _ hle
                        have hcapz : cap' * zb = cap * zb + L.slack * zb := by rw [q2, Nat.add_mul]
                        have hsplit : (len + n) * zb = len * zb + n * zb := Nat.add_mul _ _ _
                        have hlc : len * zb ≤ cap * zb := Nat.mul_le_mul_right _ hlen
                        have hnvl := hnv.length
                        obtain ⟨w', hrun, hput⟩ := run_storeCells_put (P := P) (b := L.b) (e := eC) (fr := fr) new'.toList C.toList (L.off + ad.off + len * zb) 0 w (by simpa using hC1) (by simp at hnvl ⊢; omega)
                          (hnv.oneCells hone)
                          (fun i _ hi2 => fr_free f3 i (by simpa using hi2))
                        rw [Nat.add_zero] at hput
                        have hCl : C.toList.length = C.size := by simp
                        have hres := Res.reuse s hMn hp hlive (o := .cells (old ++ new) zb true) (K := ⟨L.b, L.off + ad.off, zb, (old ++ new).length, cap' - (len + n)⟩) rfl hput.size hput.other hput.os hput.tape hput.output ?_
                        · refine ⟨.slice (some ⟨L.b, L.off + ad.off, none⟩) (len + n) cap', _, w', run_append_in ht0 ht1 hu hx hdx hz (base := some ⟨L.b, L.off + ad.off, none⟩) hlrun (by omega) hnew (by simp only [Addr.add_mk]; exact hrun), ?_, hres⟩
                          rw [hnx]
                          refine .slice (Nat.le_refl _) ?_
                          simp only [SR, Ren.put_same]
                          refine ⟨by simp, ?_, by simp⟩
                          rw [hcl]
                          simp
                          omega
                        · have hsub : (cap' - (len + n)) * zb = cap' * zb - (len + n) * zb := Nat.sub_mul _ _ _
                          refine ⟨rfl, rfl, _, eC, fr, hput.at_, ?_, ?_, fun _ => ⟨?_, ?_, ?_⟩⟩
                          · simp only [List.size_toArray, setAt_length, hCl, hcl]; omega
                          · intro i u hi
                            have hle1 : ι.le ((ι.put ad.block .dead).put (2 * h.next) (.live ⟨L.b, L.off + ad.off, zb, (old ++ new).length, cap' - (len + n)⟩)) := by
                              refine Ren.le.trans (Ren.le_dies hlive) (Ren.le_born ?_)
                              rw [Ren.put_other]
                              · exact s.unborn h.next (Nat.le_refl _) hMn
                              · intro e; have := s.unborn h.next (Nat.le_refl _) hMn; rw [e, hlive] at this; cases this
                            have hset := setAt_get new'.toList C.toList (L.off + ad.off + len * zb) (L.off + ad.off + i) (by rw [hCl]; omega)
                            simp only [List.getElem?_toArray]
                            by_cases hil : i < len * zb
                            · -- what was there
                              rw [List.getElem?_append_left (by omega)] at hi
                              rw [if_neg (by omega)] at hset
                              have hold : old = (c.drop ad.off).take (len * zb) := by
                                simp only [Ideal.firstN] at hfo
                                rw [if_neg (by omega)] at hfo
                                unfold Heap.read at hfo
                                simp only [hg, Option.isNone_none, if_true] at hfo
                                exact (readN_spec hfo).2
                              rw [hold, List.getElem?_take_of_lt hil, List.getElem?_drop] at hi
                              obtain ⟨u', g1, g2⟩ := hC3 _ _ hi
                              refine ⟨u', ?_, g2.mono hle1⟩
                              rw [hset]
                              rw [Nat.add_assoc]
                              simpa using g1
                            · rw [List.getElem?_append_right (by omega), hol] at hi
                              obtain ⟨u', g1, g2⟩ := hnv.get _ _ hi
                              have hil2 := (List.getElem?_eq_some_iff.1 hi).1
                              rw [if_pos (by omega)] at hset
                              refine ⟨u', ?_, g2.mono hle1⟩
                              rw [hset, show L.off + ad.off + i - (L.off + ad.off + len * zb) = i - len * zb by omega]
                              exact g1
                          · simp only [List.size_toArray, setAt_length, hCl, hcl]; omega
                          · intro e; cases e
                          · simpa [setAt_length] using f3
                      · -- a new array
                        have rk := Res.kill s hp hlive
                        have hg' := run_append_grow (ty := ty) ht0 ht1 hu hx hdx hz hti htb hz1 (base := some a') (len := len) (cap := cap') hlrun (by omega) hr1 hr2 rfl (old' := old2) hold2 hnew2
                        have gr := grow_res (e := e') (need := len + n) (c := (Question.appendCap (len + n) cap' e').cut (w.tape w.drawn (.appendCap (len + n) cap' e'))) rk.sim (by omega) hzs (hov2.mono rk.le) (hnv2.mono rk.le)
                        refine ⟨_, _, _, hg', ?_, rk.trans gr⟩
                        rw [hnx]
                        refine new_slice (L := ⟨w.heap.size, 0, z, _, _⟩) rfl (Nat.le_refl _) (.inr rfl) ?_
                        rw [hcl]; simp; omega
                  · -- nothing lies behind it
                    rename_i hre
                    simp at hi
                    obtain ⟨rfl, rfl⟩ := hi
                    have hMn : h.next < M := by simp [Heap.alloc] at hM; omega
                    have hcc : cap' = cap := by
                      rw [q2]
                      split
                      · rename_i hif
                        obtain ⟨i1, i2⟩ := hif
                        have hs0 : ∃ z', ad.spot = some z' := Option.isSome_iff_exists.1 i1
                        obtain ⟨z', hs0⟩ := hs0
                        have e1 : z' = z := by rcases hsp with e | e <;> rw [hs0] at e <;> cases e; rfl
                        have e2 : z' = L.z := by rcases q1 with e | e <;> rw [hs0] at e <;> cases e; rfl
                        have htl : tl = false := by
                          cases tl with
                          | false => rfl
                          | true =>
                            exfalso
                            apply hre
                            simp only [reaches, hg, Bool.true_and, Bool.and_eq_true, beq_iff_eq]
                            exact ⟨by rw [hs0, e1], by rw [← hLs, ← i2, ← e2, e1]⟩
                        have hev : ad.block % 2 = 0 := by
                          rcases Nat.mod_two_eq_zero_or_one ad.block with e | e
                          · exact e
                          · exfalso
                            unfold Heap.get at hg
                            rw [if_pos e] at hg
                            cases hro : h.ro (ad.block / 2) with
                            | none => simp [hro] at hg
                            | some p => simp [hro, htl] at hg
                        have := (hC4 hev).2.1 htl
                        omega
                      · omega
                    subst hcc
                    have hg' := run_append_grow (ty := ty) ht0 ht1 hu hx hdx hz hti htb hz1 (base := some a') (len := len) (cap := cap') hlrun (by omega) hr1 hr2 rfl (old' := old2) hold2 hnew2
                    refine ⟨_, _, _, hg', ?_, grow_res (need := len + n) s hMn hzs hov2 hnv2⟩
                    refine new_slice (L := ⟨w.heap.size, 0, z, _, _⟩) rfl (Nat.le_refl _) (.inr rfl) ?_
                    rw [hcl]; simp; omega
          · rw [if_neg hroom] at hi; cases hi
end ops
end Go.Ideal
namespace Go.Ideal
open Go Go.RowKit
section ops
variable {P : Program} {N M : Nat} {ι : Ren} {h : Heap} {w : World} {Q : Value × Heap → Prop} {tm : List Value} {a : Act}
theorem two_args {as : Array Operand} {x y : Operand} (ha : as.toList = [x, y]) : as = #[x, y] := by rw [← Array.toArray_toList (xs := as), ha]
theorem good_append (s : Sim P N M ι h w) (g : GI P ι) (t : VRs ι tm a.tmps.toList) (hQ : ∀ p, Q p → p.2.next ≤ M) {sT xT : TypeId} {ts : Array TypeId} {as : Array Operand} {z b : Nat} {zero : List Value} {x y : Operand} (ha : as.toList = [x, y]) (ht0 : ts[0]? = some sT) (ht1 : ts[1]? = some xT)
    (ox : okOpd P x = true) (oy : okOpd P y = true) (he : elem? P sT = some (z, b, zero)) {dx : TypeDesc} (hx : P.underlying xT = some dx) (hdx : ∀ k, dx ≠ .int k) (hr : ((IOp.append z b (.of x) (.of y)).run tm h).All Q)
    {o : Oper} (ho : o.op = .call { callee := .builtin .append, args := as, argTypes := ts }) : Good P N M ι h w Q ((execOp a.eval o).run P w) := by
  have hvx := opd_rel g t ox
  have hvy := opd_rel g t oy
  have has := two_args ha
  subst has
  obtain ⟨e, v0, hu, _⟩ := elem_spec he
  simp only [IOp.run] at hr
  obtain ⟨p, hp, hq⟩ := All_ofOpt hr
  obtain ⟨v', ι', w', k1, k2, k3⟩ := append_sound (ty := o.type) s ht0 ht1 he hu hx hdx hvx hvy hp (hQ p hq)
  refine ⟨p.1, v', ι', p.2, w', .inl ?_, hq, k2, k3⟩
  simp [execOp, ho, resolve, invoke, builtin, k1]
theorem good_copy (s : Sim P N M ι h w) (g : GI P ι) (t : VRs ι tm a.tmps.toList) {dT : TypeId} {ts : Array TypeId} {as : Array Operand} {z b : Nat} {zero : List Value} {x y : Operand} (ha : as.toList = [x, y]) (ht0 : ts[0]? = some dT)
    (ox : okOpd P x = true) (oy : okOpd P y = true) (he : elem? P dT = some (z, b, zero)) (hr : ((IOp.copy z (.of x) (.of y)).run tm h).All Q)
    {o : Oper} (ho : o.op = .call { callee := .builtin .copy, args := as, argTypes := ts }) : Good P N M ι h w Q ((execOp a.eval o).run P w) := by
  have hvx := opd_rel g t ox
  have hvy := opd_rel g t oy
  have has := two_args ha
  subst has
  obtain ⟨e, v0, hu, hz, _⟩ := elem_spec he
  simp only [IOp.run] at hr
  obtain ⟨p, hp, hq⟩ := All_ofOpt hr
  clear hr
  generalize (Opd.of x).eval tm = vx at *
  generalize hx' : a.eval x = vx' at *
  generalize (Opd.of y).eval tm = vy at *
  generalize hy' : a.eval y = vy' at *
  unfold icopy at hp
  cases hl : lenOf? vy with
  | none => cases vx <;> simp [hl] at hp
  | some n =>
    have hlrun := lenOf_sound (P := P) (w := w) hvy hl
    have hshape : ∃ base dlen cap, vx = .slice base dlen cap := by
      cases vx <;> simp [hl] at hp
      exact ⟨_, _, _, rfl⟩
    obtain ⟨base, dlen, cap, rfl⟩ := hshape
    simp only [hl] at hp
    have hnle : ∀ a l c, vy = .slice a l c → Nat.min n dlen ≤ l := fun a l c hc => by subst hc; simp [lenOf?] at hl; subst hl; exact Nat.min_le_left _ _
    by_cases h0 : Nat.min n dlen = 0
    · rw [if_pos h0] at hp
      obtain ⟨new', hnew, hnv⟩ : ∃ new', (Builtin.firstCells z 0 vy').run P w = .ok new' w ∧ new'.toList = [] := by
        cases hvy <;> simp [lenOf?] at hl
        · exact ⟨_, rfl, by simp⟩
        · exact ⟨#[], by simp [Builtin.firstCells], rfl⟩
        · exact ⟨#[], by simp [Builtin.firstCells, loadCells, loadCellsFrom], rfl⟩
      have hp' : p = (.int .i64 0, h) := by
        cases hvy <;> simp at hp <;> exact hp.symm
      subst hp'
      refine .ofRun s ?_ hq (.int _ 0)
      cases hvx with
      | sliceNil => simp [execOp, ho, resolve, invoke, builtin, Builtin.copy_, ht0, hx', hy', run_under hu, hlrun, run_size hz, h0, hnew, hnv, goInt]
      | slice hle hsr => simp [execOp, ho, resolve, invoke, builtin, Builtin.copy_, ht0, hx', hy', run_under hu, hlrun, run_size hz, h0, hnew, hnv, storeCells, goInt]
    · rw [if_neg h0] at hp
      cases hf : firstN h z (Nat.min n dlen) vy with
      | none => simp [hf] at hp
      | some cs =>
        obtain ⟨cs', k1, k2⟩ := s.firstN hvy hf hnle
        cases hvx with
        | sliceNil => simp [hf] at hp
        | slice hle hsr =>
          rename_i ad a' cap'
          simp only [hf] at hp
          cases hw : h.write { ad with spot := none } cs with
          | none => simp [hw] at hp
          | some h' =>
            simp [hw] at hp
            subst hp
            have hd0 : 0 < dlen := by
              have : Nat.min n dlen ≤ dlen := Nat.min_le_right _ _
              omega
            obtain ⟨w', g1, g2⟩ := s.write hw (slice_addr hsr (by omega)) k2
            refine ⟨_, .int .i64 (Nat.min n dlen), ι, h', w', .inl ?_, hq, .int _ _, g2⟩
            simp [execOp, ho, resolve, invoke, builtin, Builtin.copy_, ht0, hx', hy', run_under hu, hlrun, run_size hz, k1, g1, goInt]
theorem good_clear (s : Sim P N M ι h w) (g : GI P ι) (t : VRs ι tm a.tmps.toList) {sT : TypeId} {ts : Array TypeId} {as : Array Operand} {z b : Nat} {zero : List Value} {x : Operand} (ha : as.toList = [x]) (ht0 : ts[0]? = some sT)
    (ox : okOpd P x = true) (he : elem? P sT = some (z, b, zero)) (hr : ((IOp.clearSlice z zero (.of x)).run tm h).All Q)
    {o : Oper} (ho : o.op = .call { callee := .builtin .clear, args := as, argTypes := ts }) : Good P N M ι h w Q ((execOp a.eval o).run P w) := by
  have hvx := opd_rel g t ox
  have has := one_arg ha
  subst has
  obtain ⟨e, v0, hu, hz, _, hv, hzv, hz0, hzl, _⟩ := elem_spec he
  obtain ⟨hz1, hz2⟩ := run_zero (P := P) (w := w) hv
  simp only [IOp.run] at hr
  generalize (Opd.of x).eval tm = vx at *
  generalize hx' : a.eval x = vx' at *
  cases hvx <;> first | exact hr.elim | skip
  · simp only [T.All] at hr
    exact .ofRun s (by simp [execOp, ho, resolve, invoke, builtin, Builtin.clear_, ht0, hx', run_under hu]; rfl) hr (VR.undefV ι)
  · rename_i ad len cap a' cap' hle hsr
    simp only at hr
    split at hr
    · rename_i h0
      subst h0
      simp only [T.All] at hr
      exact .ofRun s (by simp [execOp, ho, resolve, invoke, builtin, Builtin.clear_, ht0, hx', run_under hu]; rfl) hr (VR.undefV ι)
    · rename_i h0
      split at hr
      · rename_i h' hw
        first
          | split at hr
          | skip
        · simp only [T.All] at hr
          have hvv := (VR.clean (ι := ι) _ _ hz2).cellsOf
          rw [← hzv] at hvv
          have hzs : v0.cells.toList.length = z := by rw [← hvv.length]; exact hzl
          have hzc : (Builtin.zeroCells v0.cells len).toList = (List.replicate len v0.cells.toList).flatten := by
            have hs : v0.cells.size = z := by simpa using hzs
            have := zeros_array v0.cells.toList z len hzs
            unfold Builtin.zeroCells
            rw [hs]
            simpa [hs] using this
          have hzv2 : VRs ι (List.replicate len zero).flatten (Builtin.zeroCells v0.cells len).toList := by rw [hzc]; exact VRs.flatten_replicate len hvv
          obtain ⟨w', g1, g2⟩ := s.write hw (slice_addr hsr (by omega)) hzv2
          refine ⟨_, undef, ι, h', w', .inl ?_, hr, VR.undefV ι, g2⟩
          have : ∃ m, len = m + 1 := ⟨len - 1, by omega⟩
          obtain ⟨m, rfl⟩ := this
          simp [execOp, ho, resolve, invoke, builtin, Builtin.clear_, ht0, hx', run_under hu, hz1, g1]
          rfl
      · exact hr.elim
theorem keyEq_rel {k : Option (List CK)} {x y x' y' : Value} (hx : VR ι x x') (hy : VR ι y y') {r : Bool} (h : keyEq k x y = some r) : keyEq k x' y' = some r := by
  cases k with
  | none => cases hx <;> cases hy <;> first | exact h | (simp [keyEq] at h)
  | some ks => cases hx <;> cases hy <;> first | (simp [keyEq] at h; done) | (simp only [keyEq] at h ⊢; exact cellsEq_rel (by assumption) (by assumption) h)
theorem keyKind_spec {t : TypeId} {k : Option (List CK)} (h : keyKind? P t = some k) :
    (k = none ∧ ∃ q, P.underlying t = some (.int q)) ∨ (∃ ks, k = some ks ∧ flat? P t = some ks) := by
  unfold keyKind? at h
  split at h
  · rename_i q hu; cases h; exact .inl ⟨rfl, q, hu⟩
  · cases hf : flat? P t with
    | none => simp [hf] at h
    | some ks => simp [hf] at h; subst h; exact .inr ⟨ks, rfl, rfl⟩
  · cases h
theorem keyEq_sound {t : TypeId} {k : Option (List CK)} (hk : keyKind? P t = some k) {x y : Value} {r : Bool} (h : keyEq k x y = some r) : (Op.equal t x y).run P w = .ok r w := by
  unfold Op.equal Op.maxDepth
  rcases keyKind_spec hk with ⟨rfl, q, hu⟩ | ⟨ks, rfl, hf⟩
  · cases x <;> cases y <;> simp [keyEq] at h
    obtain ⟨rfl, rfl⟩ := h
    exact run_equalIn_int w 9999 t _ q _ _ hu
  · refine equalIn_flat hf ?_
    cases x <;> cases y <;> simp [keyEq] at h
    simpa [aggEq] using h
def RR (ι : Ren) : Option (Nat × Value) → Option (Nat × Value) → Prop
  | none, none => True
  | some (j, v), some (j', v') => j = j' ∧ VR ι v v'
  | _, _ => False
theorem findEnt_asking {t : TypeId} {k : Option (List CK)} (hk : keyKind? P t = some k) {x x' : Value} (hx : VR ι x x') : ∀ {es : List Ent} {es' : List MapEntry} (i : Nat) {r : Option (Nat × Value)}, ER ι es es' → findEnt k x es i = some r →
    ∃ r', (Instr.findAsking t x' es' i).run P w = .ok r' w ∧ RR ι r r'
  | _, _, i, r, .nil, h => by simp [findEnt] at h; subst h; exact ⟨none, by simp [Instr.findAsking], trivial⟩
  | _, _, i, r, .cons (e' := e') hke hve hb hs, h => by
    simp only [findEnt] at h
    split at h
    · rename_i he
      cases h
      exact ⟨some (i, e'.val), by simp [Instr.findAsking, keyEq_sound (w := w) hk (keyEq_rel hx hke he)], rfl, hve⟩
    · rename_i he
      obtain ⟨r', h1, h2⟩ := findEnt_asking hk hx (i + 1) hs h
      exact ⟨r', by simp [Instr.findAsking, keyEq_sound (w := w) hk (keyEq_rel hx hke he), h1], h2⟩
    · cases h
theorem findEnt_now {q : IntKind} {x x' : Value} (hx : VR ι x x') : ∀ {es : List Ent} {es' : List MapEntry} (i : Nat) {r : Option (Nat × Value)}, ER ι es es' → findEnt none x es i = some r →
    ∃ r', Instr.findNow (.int q) x' es' i = some r' ∧ RR ι r r'
  | _, _, i, r, .nil, h => by simp [findEnt] at h; subst h; exact ⟨none, rfl, trivial⟩
  | _, _, i, r, .cons (e' := e') hke hve hb hs, h => by
    simp only [findEnt] at h
    have hnow : ∀ {y y' : Value} {b : Bool}, VR ι y y' → keyEq none x y = some b → Instr.sameNow (.int q) x' y' = some b := by
      intro y y' b hy he
      cases hx <;> cases hy <;> first | (simp [keyEq] at he; done) | skip
      simpa [keyEq, Instr.sameNow] using he
    split at h
    · rename_i he
      cases h
      exact ⟨some (i, e'.val), by simp [Instr.findNow, hnow hke he], rfl, hve⟩
    · rename_i he
      obtain ⟨r', h1, h2⟩ := findEnt_now (q := q) hx (i + 1) hs h
      exact ⟨r', by simp [Instr.findNow, hnow hke he, h1], h2⟩
    · cases h
theorem find_sound {t : TypeId} {k : Option (List CK)} (hk : keyKind? P t = some k) {x x' : Value} (hx : VR ι x x') {es : List Ent} {es' : List MapEntry} {r : Option (Nat × Value)} (he : ER ι es es') (h : findEnt k x es 0 = some r) :
    ∃ r', (Instr.findKey t x' es').run P w = .ok r' w ∧ RR ι r r' := by
  unfold Instr.findKey
  rcases keyKind_spec hk with ⟨rfl, q, hu⟩ | h2
  · obtain ⟨r', h1, h2⟩ := findEnt_now (q := q) hx 0 he h
    exact ⟨r', by simp [run_under hu, h1], h2⟩
  · obtain ⟨r', g1, g2⟩ := findEnt_asking (w := w) hk hx 0 he h
    have hd : ∃ d, P.underlying t = some d ∧ (∀ i, Instr.findNow d x' es' i = none ∨ es' = [] ) := by
      obtain ⟨ks, rfl, hf⟩ := h2
      obtain ⟨fs, hu, _⟩ := flat_spec hf
      refine ⟨_, hu, fun i => ?_⟩
      cases es' with
      | nil => exact .inr rfl
      | cons e es' => left; cases x' <;> simp [Instr.findNow, Instr.sameNow]
    obtain ⟨d, hu, hn⟩ := hd
    refine ⟨r', ?_, g2⟩
    rcases hn 0 with hn | hn
    · simp [run_under hu, hn, g1]
    · subst hn
      simp [Instr.findAsking] at g1
      simp [run_under hu, Instr.findNow, g1]
end ops
end Go.Ideal
