import Derived.Test.YtmpnldmdchchjaaFb
import Derived.Laws.StructEq
import Derived.Laws.Tables
namespace Go.Ideal
open Go Go.RowKit
section ops
variable {P : Program} {N M : Nat} {ι : Ren} {h : Heap} {w : World} {Q : Value × Heap → Prop} {tm : List Value} {a : Act}
theorem ibin_sound {op : BinOp} {t : TypeId} {x y x' y' v : Value} (hx : VR ι x x') (hy : VR ι y y') (hi : ibin op x y = some v) {ox oy : Operand} :
    ((do eqGuard op t ox oy x' y'; binOp op t x' y' : Sem Value)).run P w = .ok v w ∧ VR ι v v := by
  cases hx with
  | int k n =>
    cases hy with
    | int k' n' =>
      cases op
      case shl | shr =>
        simp only [ibin] at hi
        split at hi
        · rename_i hc
          cases hi
          refine ⟨?_, .int _ _⟩
          have : ¬ n' < 0 := Int.not_lt.2 hc
          simp [eqGuard, binOp, Op.shift, this]
        · cases hi
      case quo | rem =>
        simp only [ibin] at hi
        split at hi
        · rename_i hk
          subst hk
          split at hi
          · cases hi
          · rename_i h0
            cases hi
            refine ⟨?_, .int _ _⟩
            simp [eqGuard, binOp, Op.intDiv, h0]
        · cases hi
      all_goals
        simp only [ibin] at hi
        split at hi
        · rename_i hk
          subst hk
          cases hi
          first
            | (refine ⟨?_, .int _ _⟩; simp [eqGuard, binOp, Op.intArith, Op.intBits, Op.intCmp]; done)
            | (refine ⟨?_, .bool _⟩; simp [eqGuard, binOp, Op.intArith, Op.intBits, Op.intCmp]; done)
        · cases hi
    | _ => cases op <;> simp [ibin] at hi
  | string s1 =>
    cases hy with
    | string s2 =>
      cases op
      case add =>
        simp only [ibin] at hi
        split at hi
        · rename_i hc
          cases hi
          refine ⟨?_, .string _⟩
          simp only [eqGuard, binOp, Op.stringOp]
          have e : IntKind.i64.max = 9223372036854775807 := by decide
          simp
          omega
        · cases hi
      case eql | neq =>
        simp only [ibin] at hi
        cases hi
        refine ⟨?_, .bool _⟩
        simp [eqGuard, binOp, Op.stringOp]
      all_goals simp [ibin] at hi
    | _ => cases op <;> simp [ibin] at hi
  | _ => cases op <;> simp [ibin] at hi
theorem good_bin (s : Sim P N M ι h w) (g : GI P ι) (t : VRs ι tm a.tmps.toList) {op : BinOp} {ty ty' : TypeId} {x y : Operand} (ox : okOpd P x = true) (oy : okOpd P y = true) (hr : ((IOp.bin op (.of x) (.of y)).run tm h).All Q)
    {o : Oper} (ho : o.op = .binOp op ty x y ty') : Good P N M ι h w Q ((execOp a.eval o).run P w) := by
  have hx := opd_rel g t ox
  have hy := opd_rel g t oy
  simp only [IOp.run] at hr
  obtain ⟨p, hp, hq⟩ := All_ofOpt hr
  cases hi : ibin op ((Opd.of x).eval tm) ((Opd.of y).eval tm) with
  | none => simp [hi] at hp
  | some v =>
    simp [hi] at hp
    subst hp
    obtain ⟨h1, h2⟩ := ibin_sound (P := P) (w := w) (t := ty) (ox := x) (oy := y) hx hy hi
    simp only [execOp, ho]
    exact good_v s h1 hq h2
theorem good_eqBool (s : Sim P N M ι h w) (g : GI P ι) (t : VRs ι tm a.tmps.toList) {neg : Bool} {ty ty' : TypeId} {x y : Operand} (ox : okOpd P x = true) (oy : okOpd P y = true) (hu : P.underlying ty = some .bool)
    (hr : ((IOp.eqBool neg (.of x) (.of y)).run tm h).All Q) {o : Oper} (ho : o.op = .binOp (if neg then .neq else .eql) ty x y ty') : Good P N M ι h w Q ((execOp a.eval o).run P w) := by
  have hx := opd_rel g t ox
  have hy := opd_rel g t oy
  simp only [IOp.run] at hr
  simp only [execOp, ho]
  generalize (Opd.of x).eval tm = vx at *
  generalize (Opd.of y).eval tm = vy at *
  generalize a.eval x = vx' at *
  generalize a.eval y = vy' at *
  cases hx <;> first | exact hr.elim | skip
  cases hy <;> first | exact hr.elim | skip
  rename_i b c
  simp only [T.All] at hr
  refine good_v s ?_ hr (.bool _)
  cases neg <;> simp [eqGuard, binOp, Op.equal, Op.maxDepth, run_equalIn_bool' _ _ _ _ _ hu]
theorem run_equalIn_ptr (d : Nat) {ty e : TypeId} (hu : P.underlying ty = some (.pointer e)) (b : Option Addr) : (Op.equalIn (d + 1) ty (.pointer none) (.pointer b)).run P w = .ok b.isNone w ∧ (Op.equalIn (d + 1) ty (.pointer b) (.pointer none)).run P w = .ok b.isNone w := by
  constructor
  · simp [Op.equalIn, run_under hu]
  · cases b <;> simp [Op.equalIn, run_under hu]
theorem good_eqPtr (s : Sim P N M ι h w) (g : GI P ι) (t : VRs ι tm a.tmps.toList) {neg : Bool} {ty ty' e : TypeId} {x y : Operand} (ox : okOpd P x = true) (oy : okOpd P y = true) (hu : P.underlying ty = some (.pointer e))
    (hr : ((IOp.eqPtr neg (.of x) (.of y)).run tm h).All Q) {o : Oper} (ho : o.op = .binOp (if neg then .neq else .eql) ty x y ty') : Good P N M ι h w Q ((execOp a.eval o).run P w) := by
  have hx := opd_rel g t ox
  have hy := opd_rel g t oy
  simp only [IOp.run] at hr
  simp only [execOp, ho]
  generalize (Opd.of x).eval tm = vx at *
  generalize (Opd.of y).eval tm = vy at *
  generalize a.eval x = vx' at *
  generalize a.eval y = vy' at *
  cases hx <;> first | exact hr.elim | skip
  all_goals cases hy <;> first | exact hr.elim | skip
  all_goals
    simp only [T.All] at hr
    refine good_v s ?_ hr (.bool _)
    cases neg <;> simp [eqGuard, binOp, Op.equal, Op.maxDepth, run_equalIn_ptr 9999 hu]
theorem run_equalIn_slice (d : Nat) {ty e : TypeId} (hu : P.underlying ty = some (.slice e)) (b : Option Addr) (l c l' c' : Nat) : (Op.equalIn (d + 1) ty (.slice none l c) (.slice b l' c')).run P w = .ok b.isNone w ∧ (Op.equalIn (d + 1) ty (.slice b l' c') (.slice none l c)).run P w = .ok b.isNone w := by
  constructor
  · simp [Op.equalIn, run_under hu]
  · cases b <;> simp [Op.equalIn, run_under hu]
theorem good_eqSlice (s : Sim P N M ι h w) (g : GI P ι) (t : VRs ι tm a.tmps.toList) {neg : Bool} {ty ty' e : TypeId} {x y : Operand} (ox : okOpd P x = true) (oy : okOpd P y = true) (hu : P.underlying ty = some (.slice e))
    (hr : ((IOp.eqSlice neg (.of x) (.of y)).run tm h).All Q) {o : Oper} (ho : o.op = .binOp (if neg then .neq else .eql) ty x y ty') : Good P N M ι h w Q ((execOp a.eval o).run P w) := by
  have hx := opd_rel g t ox
  have hy := opd_rel g t oy
  simp only [IOp.run] at hr
  simp only [execOp, ho]
  generalize (Opd.of x).eval tm = vx at *
  generalize (Opd.of y).eval tm = vy at *
  generalize a.eval x = vx' at *
  generalize a.eval y = vy' at *
  cases hx <;> first | exact hr.elim | skip
  all_goals cases hy <;> first | exact hr.elim | skip
  all_goals
    simp only [T.All] at hr
    refine good_v s ?_ hr (.bool _)
    cases neg <;> simp [eqGuard, binOp, Op.equal, Op.maxDepth, run_equalIn_slice 9999 hu]
theorem run_equalIn_map (d : Nat) {ty k e : TypeId} (hu : P.underlying ty = some (.map k e)) (b : Option Nat) : (Op.equalIn (d + 1) ty (.map none) (.map b)).run P w = .ok b.isNone w ∧ (Op.equalIn (d + 1) ty (.map b) (.map none)).run P w = .ok b.isNone w := by
  constructor
  · simp [Op.equalIn, run_under hu]
  · cases b <;> simp [Op.equalIn, run_under hu]
theorem good_eqMap (s : Sim P N M ι h w) (g : GI P ι) (t : VRs ι tm a.tmps.toList) {neg : Bool} {ty ty' k e : TypeId} {x y : Operand} (ox : okOpd P x = true) (oy : okOpd P y = true) (hu : P.underlying ty = some (.map k e))
    (hr : ((IOp.eqMap neg (.of x) (.of y)).run tm h).All Q) {o : Oper} (ho : o.op = .binOp (if neg then .neq else .eql) ty x y ty') : Good P N M ι h w Q ((execOp a.eval o).run P w) := by
  have hx := opd_rel g t ox
  have hy := opd_rel g t oy
  simp only [IOp.run] at hr
  simp only [execOp, ho]
  generalize (Opd.of x).eval tm = vx at *
  generalize (Opd.of y).eval tm = vy at *
  generalize a.eval x = vx' at *
  generalize a.eval y = vy' at *
  cases hx <;> first | exact hr.elim | skip
  all_goals cases hy <;> first | exact hr.elim | skip
  all_goals
    simp only [T.All] at hr
    refine good_v s ?_ hr (.bool _)
    cases neg <;> simp [eqGuard, binOp, Op.equal, Op.maxDepth, run_equalIn_map 9999 hu]
theorem run_equalIn_func (d : Nat) {ty : TypeId} {ps rs : Array TypeId} {va : Bool} (hu : P.underlying ty = some (.func ps rs va)) (fn : Fn) (fs cs : Array Value) :
    (Op.equalIn (d + 1) ty .nilFunc .nilFunc).run P w = .ok true w ∧ (Op.equalIn (d + 1) ty .nilFunc (.func fn fs cs)).run P w = .ok false w ∧ (Op.equalIn (d + 1) ty (.func fn fs cs) .nilFunc).run P w = .ok false w := by
  simp [Op.equalIn, run_under hu]
theorem run_equalIn_nilFunc (d : Nat) {ty : TypeId} {ps rs : Array TypeId} {va : Bool} (hu : P.underlying ty = some (.func ps rs va)) : (Op.equalIn (d + 1) ty .nilFunc .nilFunc).run P w = .ok true w := by
  simp [Op.equalIn, run_under hu]
theorem good_eqFunc (s : Sim P N M ι h w) (g : GI P ι) (t : VRs ι tm a.tmps.toList) {neg : Bool} {ty ty' : TypeId} {ps rs : Array TypeId} {va : Bool} {x y : Operand} (ox : okOpd P x = true) (oy : okOpd P y = true) (hu : P.underlying ty = some (.func ps rs va))
    (hr : ((IOp.eqFunc neg (.of x) (.of y)).run tm h).All Q) {o : Oper} (ho : o.op = .binOp (if neg then .neq else .eql) ty x y ty') : Good P N M ι h w Q ((execOp a.eval o).run P w) := by
  have hx := opd_rel g t ox
  have hy := opd_rel g t oy
  simp only [IOp.run] at hr
  simp only [execOp, ho]
  generalize (Opd.of x).eval tm = vx at *
  generalize (Opd.of y).eval tm = vy at *
  generalize a.eval x = vx' at *
  generalize a.eval y = vy' at *
  cases hx <;> first | exact hr.elim | skip
  all_goals cases hy <;> first | exact hr.elim | skip
  all_goals
    simp only [T.All] at hr
    refine good_v s ?_ hr (.bool _)
    first
      | (cases neg <;> simp [eqGuard, binOp, Op.equal, Op.maxDepth, run_equalIn_nilFunc 9999 hu]; done)
      | (cases neg <;> simp [eqGuard, binOp, Op.equal, Op.maxDepth, run_equalIn_func 9999 hu]; done)
theorem good_un (s : Sim P N M ι h w) (g : GI P ι) (t : VRs ι tm a.tmps.toList) {op : UnOp} {ty : TypeId} {x : Operand} (ox : okOpd P x = true) (hr : ((IOp.un op (.of x)).run tm h).All Q)
    {o : Oper} (ho : o.op = .unOp op ty x) : Good P N M ι h w Q ((execOp a.eval o).run P w) := by
  have hx := opd_rel g t ox
  simp only [IOp.run] at hr
  obtain ⟨p, hp, hq⟩ := All_ofOpt hr
  clear hr
  simp only [execOp, ho]
  generalize (Opd.of x).eval tm = vx at *
  generalize a.eval x = vx' at *
  cases hx <;> cases op <;> simp [iun] at hp <;> subst hp
  · exact good_v s (by simp [Op.unary]) hq (.bool _)
  · exact good_v s (by simp [Op.unary, Op.intArith]) hq (.int _ _)
  · exact good_v s (by simp [Op.unary, Op.intBits]) hq (.int _ _)
theorem good_conv (s : Sim P N M ι h w) (g : GI P ι) (t : VRs ι tm a.tmps.toList) {src dst : TypeId} {k k' : IntKind} {x : Operand} (ox : okOpd P x = true) (h1 : P.underlying src = some (.int k')) (h2 : P.underlying dst = some (.int k)) (hr : ((IOp.conv k (.of x)).run tm h).All Q)
    {o : Oper} (ho : o.op = .convert src dst x) : Good P N M ι h w Q ((execOp a.eval o).run P w) := by
  have hx := opd_rel g t ox
  simp only [IOp.run] at hr
  simp only [execOp, ho]
  generalize (Opd.of x).eval tm = vx at *
  generalize a.eval x = vx' at *
  cases hx <;> first | exact hr.elim | skip
  simp only [T.All] at hr
  exact good_v s (by simp [convert, run_under h1, run_under h2, Conv.intToInt]) hr (.int _ _)
theorem good_convStr (s : Sim P N M ι h w) (g : GI P ι) (t : VRs ι tm a.tmps.toList) {src dst : TypeId} {x : Operand} (ox : okOpd P x = true) (h1 : P.underlying src = some .string) (h2 : P.underlying dst = some .string) (hr : ((IOp.convStr (.of x)).run tm h).All Q)
    {o : Oper} (ho : o.op = .convert src dst x) : Good P N M ι h w Q ((execOp a.eval o).run P w) := by
  have hx := opd_rel g t ox
  simp only [IOp.run] at hr
  simp only [execOp, ho]
  generalize (Opd.of x).eval tm = vx at *
  generalize a.eval x = vx' at *
  cases hx <;> first | exact hr.elim | skip
  simp only [T.All] at hr
  exact good_v s (by simp [convert, run_under h1, run_under h2]) hr (.string _)
theorem good_func (s : Sim P N M ι h w) (g : GI P ι) (t : VRs ι tm a.tmps.toList) {f : FuncId} {fs cs : Array Operand} (of : fs.toList.all (okOpd P) = true) (oc : cs.toList.all (okOpd P) = true) (hr : ((IOp.func (.func f) (fs.toList.map .of) (cs.toList.map .of)).run tm h).All Q)
    {o : Oper} (ho : o.op = .makeFunc (.func f) fs cs) : Good P N M ι h w Q ((execOp a.eval o).run P w) := by
  have h1 := opds_rel g t of
  have h2 := opds_rel g t oc
  simp only [IOp.run, T.All] at hr
  simp only [execOp, ho]
  exact good_v s (v' := .func (.func f) (fs.map a.eval) (cs.map a.eval)) (by simp [Instr.makeFunc]) hr (.func f (by simpa using h1) (by simpa using h2))
theorem good_extract (s : Sim P N M ι h w) (g : GI P ι) (t : VRs ι tm a.tmps.toList) {x : Operand} {i : Nat} (ox : okOpd P x = true) (hr : ((IOp.extract (.of x) i).run tm h).All Q)
    {o : Oper} (ho : o.op = .extract x i) : Good P N M ι h w Q ((execOp a.eval o).run P w) := by
  have hx := opd_rel g t ox
  simp only [IOp.run] at hr
  simp only [execOp, ho]
  generalize (Opd.of x).eval tm = vx at *
  generalize a.eval x = vx' at *
  cases hx <;> first | exact hr.elim | skip
  rename_i xs ys hs
  cases hv : xs.toList[i]? with
  | none => simp only [hv] at hr; exact hr.elim
  | some v =>
    simp only [hv, T.All] at hr
    obtain ⟨v', h1, h2⟩ := hs.get i v hv
    exact good_v s (by simp [Instr.extract, show ys[i]? = some v' by simpa using h1]) hr h2
theorem Good.ofRun (s : Sim P N M ι h w) {r : Result Next} {v v' : Value} (e : r = .ok (.value v') w) (hQ : Q (v, h)) (hv : VR ι v v') : Good P N M ι h w Q r := e ▸ .same s hQ hv
theorem one_arg {as : Array Operand} {x : Operand} (ha : as.toList = [x]) : as = #[x] := by rw [← Array.toArray_toList (xs := as), ha]
theorem good_lenStr (s : Sim P N M ι h w) (g : GI P ι) (t : VRs ι tm a.tmps.toList) {ty : TypeId} {ts : Array TypeId} {as : Array Operand} {x : Operand} (ha : as.toList = [x]) (ht : ts[0]? = some ty) (ox : okOpd P x = true) (hu : P.underlying ty = some .string) (hr : ((IOp.lenStr (.of x)).run tm h).All Q)
    {o : Oper} (ho : o.op = .call { callee := .builtin .len, args := as, argTypes := ts }) : Good P N M ι h w Q ((execOp a.eval o).run P w) := by
  have hx := opd_rel g t ox
  have has := one_arg ha
  subst has
  simp only [IOp.run] at hr
  generalize (Opd.of x).eval tm = vx at *
  generalize hv : a.eval x = vx' at *
  cases hx <;> first | exact hr.elim | skip
  simp only [T.All] at hr
  exact .ofRun s (by simp [execOp, ho, resolve, hv, invoke, builtin, Builtin.len_, ht, run_under hu, goInt]) hr (.int _ _)
theorem good_lenSlice (s : Sim P N M ι h w) (g : GI P ι) (t : VRs ι tm a.tmps.toList) {ty e : TypeId} {ts : Array TypeId} {as : Array Operand} {x : Operand} (ha : as.toList = [x]) (ht : ts[0]? = some ty) (ox : okOpd P x = true) (hu : P.underlying ty = some (.slice e)) (hr : ((IOp.lenSlice (.of x)).run tm h).All Q)
    {o : Oper} (ho : o.op = .call { callee := .builtin .len, args := as, argTypes := ts }) : Good P N M ι h w Q ((execOp a.eval o).run P w) := by
  have hx := opd_rel g t ox
  have has := one_arg ha
  subst has
  simp only [IOp.run] at hr
  generalize (Opd.of x).eval tm = vx at *
  generalize hv : a.eval x = vx' at *
  cases hx <;> first | exact hr.elim | skip
  all_goals
    simp only [T.All] at hr
    exact .ofRun s (by simp [execOp, ho, resolve, hv, invoke, builtin, Builtin.len_, ht, run_under hu, goInt]) hr (.int _ _)
theorem good_lenArr (s : Sim P N M ι h w) {ty e : TypeId} {n : Nat} {ts : Array TypeId} {as : Array Operand} {x : Operand} (ha : as.toList = [x]) (ht : ts[0]? = some ty) (hu : P.underlying ty = some (.array n e)) (hr : ((IOp.move (.const (.int .i64 n))).run tm h).All Q)
    {o : Oper} (ho : o.op = .call { callee := .builtin .len, args := as, argTypes := ts }) : Good P N M ι h w Q ((execOp a.eval o).run P w) := by
  have has := one_arg ha
  subst has
  simp only [IOp.run, T.All, Opd.eval] at hr
  exact .ofRun s (by simp [execOp, ho, resolve, invoke, builtin, Builtin.len_, ht, run_under hu, goInt]) hr (.int _ _)
theorem mostOf_sound {isMax : Bool} {k : IntKind} : ∀ {l l' : List Value} {x r : Int}, VRs ι l l' → mostOf isMax k x l = some r →
    (l'.foldlM (if isMax then Builtin.max2 else Builtin.min2) (.int k x) : Sem Value).run P w = .ok (.int k r) w
  | _, _, x, r, .nil, hm => by simp [mostOf] at hm; subst hm; simp
  | _, _, x, r, .cons hv hs, hm => by
    cases hv <;> simp only [mostOf] at hm <;> first | (cases hm; done) | skip
    split at hm
    · rename_i hk
      subst hk
      have ih := mostOf_sound hs hm
      cases isMax <;> simp only [List.foldlM_cons, Builtin.max2, Builtin.min2, if_true, if_false, Bool.false_eq_true, Sem.run_bind, Sem.run_pure, Result.andThen_ok] at ih ⊢ <;> exact ih
    · cases hm
theorem good_minmax (s : Sim P N M ι h w) (g : GI P ι) (t : VRs ι tm a.tmps.toList) {isMax : Bool} {ts : Array TypeId} {as : Array Operand} (oa : as.toList.all (okOpd P) = true) (hr : ((IOp.minmax isMax (as.toList.map .of)).run tm h).All Q)
    {o : Oper} (ho : o.op = .call { callee := .builtin (if isMax then .max else .min), args := as, argTypes := ts }) : Good P N M ι h w Q ((execOp a.eval o).run P w) := by
  have hxs := opds_rel g t oa
  simp only [IOp.run] at hr
  generalize hl : (as.toList.map Opd.of).map (Opd.eval tm) = l at *
  generalize hl' : as.toList.map a.eval = l' at *
  cases hxs with
  | nil => exact hr.elim
  | cons hv hs =>
    rename_i x y xs ys
    cases hv <;> first | exact hr.elim | skip
    rename_i k n
    obtain ⟨p, hp, hq⟩ := All_ofOpt hr
    cases hm : mostOf isMax k n xs with
    | none => simp [hm] at hp
    | some r =>
      simp [hm] at hp
      subst hp
      have e := mostOf_sound (P := P) (w := w) hs hm
      refine .ofRun s ?_ hq (.int k r)
      cases isMax <;> simp only [if_true, if_false, Bool.false_eq_true] at e ho <;>
        simp [execOp, ho, resolve, invoke, builtin, Builtin.min_, Builtin.max_, hl', e]
end ops
end Go.Ideal
namespace Go.Ideal
open Go Go.RowKit
section ops
variable {P : Program} {N M : Nat} {ι : Ren} {h : Heap} {w : World} {Q : Value × Heap → Prop} {tm : List Value} {a : Act}
theorem structField_spec {t : TypeId} {i : Nat} {fd : Field} (h : structField? P t i = some fd) : ∃ fs, P.underlying t = some (.struct fs) ∧ fs[i]? = some fd := by
  unfold structField? at h
  split at h
  · rename_i fs hu; exact ⟨fs, hu, h⟩
  · cases h
theorem good_fieldAddr (s : Sim P N M ι h w) (g : GI P ι) (t : VRs ι tm a.tmps.toList) {ty : TypeId} {f n : Nat} {fd : Field} {x : Operand} (ox : okOpd P x = true) (hf : structField? P ty f = some fd) (hz : sz P fd.type = some (n + 1)) (hr : ((IOp.fieldAddr fd.offset (.of x)).run tm h).All Q)
    {o : Oper} (ho : o.op = .fieldAddr ty x f) : Good P N M ι h w Q ((execOp a.eval o).run P w) := by
  have hx := opd_rel g t ox
  obtain ⟨fs, hu, hi⟩ := structField_spec hf
  simp only [IOp.run] at hr
  simp only [execOp, ho]
  generalize (Opd.of x).eval tm = vx at *
  generalize a.eval x = vx' at *
  cases hx <;> first | exact hr.elim | skip
  rename_i b off a' hp
  simp only [T.All] at hr
  refine good_v s (v' := .pointer (some (a'.add fd.offset))) (by simp [Instr.fieldAt, run_under hu, hi, Instr.sureAddr, fieldPlace, run_size hz]) hr ?_
  cases hb : ι b with
  | unborn => simp [PR, hb] at hp
  | dead => exact .ptr (by simp [PR, hb])
  | live L =>
    simp only [PR, hb] at hp
    subst hp
    rw [Addr.add_mk]
    exact .ptr (by simp [PR, hb, Nat.add_assoc])
def partIs (m : Option Nat) (cs : List Value) (off : Nat) (v : Value) : Prop :=
  match m with
  | none => cs[off]? = some v
  | some n => off + n ≤ cs.length ∧ v = .agg ((cs.drop off).take n).toArray
theorem run_part {t : TypeId} {m : Option Nat} (hl : ld P t = some m) {cs : Array Value} {off : Nat} {v : Value}
    (hv : match m with | none => cs[off]? = some v | some n => v = .agg (cs.extract off (off + n))) : (part t cs off).run P w = .ok v w := by
  obtain ⟨n, h1, h2 | h2⟩ := ld_spec hl
  · obtain ⟨rfl, h2⟩ := h2
    simp only at hv
    subst hv
    simp [part, run_isAgg? h2, run_size h1]
  · obtain ⟨rfl, h2⟩ := h2
    simp only at hv
    simp [part, run_isAgg? h2, hv]
theorem part_sound {t : TypeId} {m : Option Nat} (hl : ld P t = some m) {cs cs' : Array Value} (hs : VRs ι cs.toList cs'.toList) {off : Nat} {v : Value}
    (hv : partIs m cs.toList off v) : ∃ v', (part t cs' off).run P w = .ok v' w ∧ VR ι v v' := by
  unfold partIs at hv
  cases m with
  | none =>
    simp only at hv
    obtain ⟨v', h1, h2⟩ := hs.get off v hv
    exact ⟨v', run_part hl (by simpa using h1), h2⟩
  | some n =>
    simp only at hv
    obtain ⟨h1, rfl⟩ := hv
    refine ⟨_, run_part hl rfl, .agg ?_⟩
    have := (hs.drop off).take n
    have e : (cs'.extract off (off + n)).toList = (cs'.toList.drop off).take n := by
      rw [Array.toList_extract]; simp [List.extract_eq_take_drop]
    rw [e]
    exact this
theorem good_field (s : Sim P N M ι h w) (g : GI P ι) (t : VRs ι tm a.tmps.toList) {ty : TypeId} {f : Nat} {m : Option Nat} {fd : Field} {x : Operand} (ox : okOpd P x = true) (hf : structField? P ty f = some fd) (hl : ld P fd.type = some m) (hr : ((IOp.field fd.offset m (.of x)).run tm h).All Q)
    {o : Oper} (ho : o.op = .field ty x f) : Good P N M ι h w Q ((execOp a.eval o).run P w) := by
  have hx := opd_rel g t ox
  obtain ⟨fs, hu, hi⟩ := structField_spec hf
  simp only [IOp.run] at hr
  simp only [execOp, ho]
  generalize (Opd.of x).eval tm = vx at *
  generalize a.eval x = vx' at *
  cases hx <;> first | exact hr.elim | skip
  rename_i xs ys hs
  have key : ∃ v, partIs m xs.toList fd.offset v ∧ Q (v, h) := by
    unfold partIs
    cases m with
    | none =>
      cases hv : xs.toList[fd.offset]? with
      | none => simp only [hv] at hr; exact hr.elim
      | some v => simp only [hv, T.All] at hr; exact ⟨v, rfl, hr⟩
    | some n =>
      simp only at hr
      split at hr
      · rename_i hc; exact ⟨_, ⟨hc, rfl⟩, hr⟩
      · exact hr.elim
  obtain ⟨v, hv, hq⟩ := key
  obtain ⟨v', h1, h2⟩ := part_sound (P := P) (w := w) hl hs hv
  exact good_v s (v' := v') (by simp [Instr.field, run_under hu, hi, asAgg, h1]) hq h2
theorem asInt_spec {v v' : Value} (hv : VR ι v v') {i : Int} (hi : asInt? v = some i) : ∃ k, v = .int k i ∧ v' = .int k i := by
  cases hv <;> simp [asInt?] at hi
  subst hi
  exact ⟨_, rfl, rfl⟩
theorem slice_addr {b : Addr} {cap : Nat} {a' : Addr} {cap' : Nat} (hs : SR ι b cap a' cap') (hc : 0 < cap) : PR ι b.block b.off a' := by
  unfold SR at hs; unfold PR
  cases hi : ι b.block with
  | unborn => simp only [hi] at hs
  | dead => trivial
  | live L =>
    simp only [hi] at hs
    obtain ⟨_, h1, h2⟩ := hs
    rcases h2 with h2 | h2
    · omega
    · exact h2
theorem PR.add {b off : Nat} {a' : Addr} (hp : PR ι b off a') (n : Nat) : PR ι b (off + n) (a'.add n) := by
  cases hb : ι b with
  | unborn => simp [PR, hb] at hp
  | dead => simp [PR, hb]
  | live L =>
    simp only [PR, hb] at hp
    subst hp
    rw [Addr.add_mk]
    simp [PR, hb, Nat.add_assoc]
theorem elem_spec {t : TypeId} {z b : Nat} {zero : List Value} (h : elem? P t = some (z, b, zero)) : ∃ e v, P.underlying t = some (.slice e) ∧ sz P e = some z ∧ bytesOf? P e = some b ∧ zero? P e = some v ∧ zero = cellsOf v ∧ 0 < z ∧ zero.length = z ∧ 0 < b := by
  unfold elem? at h
  split at h
  · rename_i e hu
    split at h
    · rename_i z' b' v h1 h2 h3
      split at h
      · cases h
      · rename_i hc
        cases h
        simp only [Bool.or_eq_true, beq_iff_eq, bne_iff_ne, not_or, Decidable.not_not] at hc
        exact ⟨e, v, hu, h1, h2, h3, rfl, by omega, hc.1.2, by omega⟩
    · cases h
  · cases h
theorem arr_spec {t : TypeId} {n z : Nat} {m : Option Nat} (h : arr? P t = some (n, z, m)) : ∃ e, P.underlying t = some (.array n e) ∧ sz P e = some z ∧ ld P e = some m ∧ 0 < z := by
  unfold arr? at h
  split at h
  · rename_i k e hu
    split at h
    · rename_i z' m' h1 h2
      split at h
      · cases h
      · rename_i hc
        cases h
        exact ⟨e, hu, h1, h2, by simp at hc; omega⟩
    · cases h
  · cases h
theorem good_indexAddr (s : Sim P N M ι h w) (g : GI P ι) (t : VRs ι tm a.tmps.toList) {ty : TypeId} {z b : Nat} {zero : List Value} {x i : Operand} (ox : okOpd P x = true) (oi : okOpd P i = true) (he : elem? P ty = some (z, b, zero)) (hr : ((IOp.indexAddr z (.of x) (.of i)).run tm h).All Q)
    {o : Oper} (ho : o.op = .indexAddr ty x i) : Good P N M ι h w Q ((execOp a.eval o).run P w) := by
  have hx := opd_rel g t ox
  have hi := opd_rel g t oi
  obtain ⟨e, v, hu, hz, _⟩ := elem_spec he
  simp only [IOp.run] at hr
  simp only [execOp, ho]
  generalize (Opd.of x).eval tm = vx at *
  generalize a.eval x = vx' at *
  generalize (Opd.of i).eval tm = vi at *
  generalize a.eval i = vi' at *
  cases hx <;> first | exact hr.elim | skip
  rename_i ad len cap a' cap' hl hs
  cases ha : asInt? vi with
  | none => simp only [ha] at hr; exact hr.elim
  | some n =>
    simp only [ha] at hr
    obtain ⟨k, rfl, rfl⟩ := asInt_spec hi ha
    split at hr
    · rename_i hc
      simp only [T.All] at hr
      refine good_v s (v' := .pointer (some (a'.add (n.toNat * z)))) ?_ hr ?_
      · simp [Instr.indexAt, run_under hu, asIntOf, hc.1, hc.2, run_size hz]
      · exact .ptr ((slice_addr hs (by omega)).add _)
    · exact hr.elim
theorem good_indexAddrArr (s : Sim P N M ι h w) (g : GI P ι) (t : VRs ι tm a.tmps.toList) {ty : TypeId} {z n : Nat} {m : Option Nat} {x i : Operand} (ox : okOpd P x = true) (oi : okOpd P i = true) (he : arr? P ty = some (n, z, m)) (hr : ((IOp.indexAddrArr n z (.of x) (.of i)).run tm h).All Q)
    {o : Oper} (ho : o.op = .indexAddr ty x i) : Good P N M ι h w Q ((execOp a.eval o).run P w) := by
  have hx := opd_rel g t ox
  have hi := opd_rel g t oi
  obtain ⟨e, hu, hz, _⟩ := arr_spec he
  simp only [IOp.run] at hr
  simp only [execOp, ho]
  generalize (Opd.of x).eval tm = vx at *
  generalize a.eval x = vx' at *
  generalize (Opd.of i).eval tm = vi at *
  generalize a.eval i = vi' at *
  cases hx <;> first | exact hr.elim | skip
  rename_i b off a' hp
  cases ha : asInt? vi with
  | none => simp only [ha] at hr; exact hr.elim
  | some j =>
    simp only [ha] at hr
    obtain ⟨k, rfl, rfl⟩ := asInt_spec hi ha
    split at hr
    · rename_i hc
      simp only [T.All] at hr
      refine good_v s (v' := .pointer (some (a'.add (j.toNat * z)))) ?_ hr (.ptr (hp.add _))
      simp [Instr.indexAt, run_under hu, asIntOf, hc.1, hc.2, run_size hz, Instr.sureAddr]
    · exact hr.elim
theorem good_indexStr (s : Sim P N M ι h w) (g : GI P ι) (t : VRs ι tm a.tmps.toList) {ty : TypeId} {x i : Operand} (ox : okOpd P x = true) (oi : okOpd P i = true) (hu : P.underlying ty = some .string) (hr : ((IOp.indexStr (.of x) (.of i)).run tm h).All Q)
    {o : Oper} (ho : o.op = .index ty x i) : Good P N M ι h w Q ((execOp a.eval o).run P w) := by
  have hx := opd_rel g t ox
  have hi := opd_rel g t oi
  simp only [IOp.run] at hr
  simp only [execOp, ho]
  generalize (Opd.of x).eval tm = vx at *
  generalize a.eval x = vx' at *
  generalize (Opd.of i).eval tm = vi at *
  generalize a.eval i = vi' at *
  cases hx <;> first | exact hr.elim | skip
  rename_i st
  cases ha : asInt? vi with
  | none => simp only [ha] at hr; exact hr.elim
  | some n =>
    simp only [ha] at hr
    obtain ⟨k, rfl, rfl⟩ := asInt_spec hi ha
    split at hr
    · rename_i hc
      cases hb : st.data.toList[n.toNat]? with
      | none => simp only [hb] at hr; exact hr.elim
      | some b =>
        simp only [hb, T.All] at hr
        have hb' : st[n.toNat]? = some b := by
          have : st.data[n.toNat]? = some b := by simpa using hb
          obtain ⟨hlt, e⟩ := Array.getElem?_eq_some_iff.1 this
          have : n.toNat < st.size := hlt
          simp [getElem?_pos, this]
          exact e
        exact good_v s (v' := .int .u8 b.toNat) (by simp [Instr.index, run_under hu, asIntOf, hc, hb']) hr (.int _ _)
    · exact hr.elim
theorem good_indexAgg (s : Sim P N M ι h w) (g : GI P ι) (t : VRs ι tm a.tmps.toList) {ty : TypeId} {z n : Nat} {m : Option Nat} {x i : Operand} (ox : okOpd P x = true) (oi : okOpd P i = true) (he : arr? P ty = some (n, z, m)) (hr : ((IOp.indexAgg n z m (.of x) (.of i)).run tm h).All Q)
    {o : Oper} (ho : o.op = .index ty x i) : Good P N M ι h w Q ((execOp a.eval o).run P w) := by
  have hx := opd_rel g t ox
  have hi := opd_rel g t oi
  obtain ⟨e, hu, hz, hl, _⟩ := arr_spec he
  simp only [IOp.run] at hr
  simp only [execOp, ho]
  generalize (Opd.of x).eval tm = vx at *
  generalize a.eval x = vx' at *
  generalize (Opd.of i).eval tm = vi at *
  generalize a.eval i = vi' at *
  cases hx <;> first | exact hr.elim | skip
  rename_i xs ys hs
  cases ha : asInt? vi with
  | none => simp only [ha] at hr; exact hr.elim
  | some j =>
    simp only [ha] at hr
    obtain ⟨k, rfl, rfl⟩ := asInt_spec hi ha
    split at hr
    · rename_i hc
      have key : ∃ v, partIs m xs.toList (j.toNat * z) v ∧ Q (v, h) := by
        unfold partIs
        cases m with
        | none =>
          cases hv : xs.toList[j.toNat * z]? with
          | none => simp only [hv] at hr; exact hr.elim
          | some v => simp only [hv, T.All] at hr; exact ⟨v, rfl, hr⟩
        | some n =>
          simp only at hr
          split at hr
          · rename_i hc; exact ⟨_, ⟨hc, rfl⟩, hr⟩
          · exact hr.elim
      obtain ⟨v, hv, hq⟩ := key
      obtain ⟨v', h1, h2⟩ := part_sound (P := P) (w := w) hl hs hv
      exact good_v s (v' := v') (by simp [Instr.index, run_under hu, asIntOf, hc.1, hc.2, run_size hz, h1]) hq h2
    · exact hr.elim
theorem run_bound {v v' : Value} (hv : VR ι v v') {i : Int} (hi : asInt? v = some i) {y : Nat} {c : BoundsCode} (h0 : 0 ≤ i) (h1 : i ≤ y) : (Instr.sliceBound v' y c).run P w = .ok i.toNat w := by
  obtain ⟨k, rfl, rfl⟩ := asInt_spec hv hi
  simp [Instr.sliceBound, asIntOf, h0, h1]
inductive OVR (ι : Ren) : Option Value → Option Value → Prop
  | none : OVR ι none none
  | some {v v' : Value} (h : VR ι v v') : OVR ι (some v) (some v')
theorem bounds_sound {b : Bool} {len cap : Nat} {lo hi mx lo' hi' mx' : Option Value} {l r m : Nat} (hlo : OVR ι lo lo') (hhi : OVR ι hi hi') (hmx : OVR ι mx mx') (hb : bounds len cap lo hi mx = some (l, r, m))
    {cap' : Nat} (hcap : cap ≤ cap') (hll : len ≤ cap) :
    (Instr.sliceBounds b len cap' lo' hi' mx').run P w = .ok (l, r, if mx.isSome then m else cap') w ∧ l ≤ r ∧ r ≤ m ∧ (mx.isSome = false → m = cap) ∧ m ≤ cap := by
  have at_some : ∀ {v v' : Value} {most n : Nat}, VR ι v v' → (match asInt? v with | some i => if 0 ≤ i ∧ i ≤ (most : Int) then some i.toNat else none | none => none) = some n → n ≤ most ∧ ∀ y c, most ≤ y → (Instr.sliceBound v' y c).run P w = .ok n w := by
    intro v v' most n hv h
    cases ha : asInt? v with
    | none => simp [ha] at h
    | some i =>
      simp only [ha] at h
      split at h
      · rename_i hc
        cases h
        exact ⟨by omega, fun y c hy => run_bound hv ha hc.1 (by omega)⟩
      · cases h
  unfold bounds at hb
  cases hmx with
  | none =>
    simp only at hb
    cases hhi with
    | none =>
      simp only at hb
      cases hlo with
      | none => simp only at hb; cases hb; exact ⟨by simp [Instr.sliceBounds], Nat.zero_le _, hll, fun _ => rfl, Nat.le_refl _⟩
      | some hv =>
        rename_i v v'
        simp only at hb
        split at hb
        · cases hb
        · rename_i l' hl'
          cases hb
          obtain ⟨h1, h2⟩ := at_some hv hl'
          exact ⟨by simp [Instr.sliceBounds, h2 _ _ (Nat.le_refl _)], h1, hll, fun _ => rfl, Nat.le_refl _⟩
    | some hv =>
      rename_i v v'
      simp only at hb
      split at hb
      · cases hb
      · rename_i r' hr'
        obtain ⟨h1, h2⟩ := at_some hv hr'
        cases hlo with
        | none => simp only at hb; cases hb; exact ⟨by cases b <;> simp [Instr.sliceBounds, h2 _ _ hcap], Nat.zero_le _, h1, fun _ => rfl, Nat.le_refl _⟩
        | some hu =>
          simp only at hb
          split at hb
          · cases hb
          · rename_i l' hl'
            cases hb
            obtain ⟨g1, g2⟩ := at_some hu hl'
            exact ⟨by cases b <;> simp [Instr.sliceBounds, h2 _ _ hcap, g2 _ _ (Nat.le_refl _)], g1, h1, fun _ => rfl, Nat.le_refl _⟩
  | some hm =>
    rename_i vm vm'
    simp only at hb
    split at hb
    · cases hb
    · rename_i m' hm'
      obtain ⟨k1, k2⟩ := at_some hm hm'
      cases hhi with
      | none => simp at hb
      | some hv =>
        rename_i v v'
        simp only at hb
        split at hb
        · cases hb
        · rename_i r' hr'
          obtain ⟨h1, h2⟩ := at_some hv hr'
          cases hlo with
          | none => simp only at hb; cases hb; exact ⟨by cases b <;> simp [Instr.sliceBounds, k2 _ _ hcap, h2 _ _ (Nat.le_refl _)], Nat.zero_le _, h1, fun e => by simp at e, k1⟩
          | some hu =>
            simp only at hb
            split at hb
            · cases hb
            · rename_i l' hl'
              cases hb
              obtain ⟨g1, g2⟩ := at_some hu hl'
              exact ⟨by cases b <;> simp [Instr.sliceBounds, k2 _ _ hcap, h2 _ _ (Nat.le_refl _), g2 _ _ (Nat.le_refl _)], g1, h1, fun e => by simp at e, k1⟩
theorem oopd_rel (g : GI P ι) (t : VRs ι tm a.tmps.toList) {x : Option Operand} (hx : x.toArray.toList.all (okOpd P) = true) : OVR ι ((x.map Opd.of).map (Opd.eval tm)) (x.map a.eval) := by
  cases x with
  | none => exact .none
  | some x => simp at hx; exact .some (opd_rel g t hx)
theorem good_slice (s : Sim P N M ι h w) (g : GI P ι) (t : VRs ι tm a.tmps.toList) {ty : TypeId} {z b : Nat} {zero : List Value} {x : Operand} {lo hi mx : Option Operand} (ox : okOpd P x = true) (ol : lo.toArray.toList.all (okOpd P) = true) (oh : hi.toArray.toList.all (okOpd P) = true) (om : mx.toArray.toList.all (okOpd P) = true)
    (he : elem? P ty = some (z, b, zero)) (hr : ((IOp.slice z (.of x) (lo.map .of) (hi.map .of) (mx.map .of)).run tm h).All Q)
    {o : Oper} (ho : o.op = .slice ty x lo hi mx) : Good P N M ι h w Q ((execOp a.eval o).run P w) := by
  have hx := opd_rel g t ox
  have hl := oopd_rel g t ol
  have hh := oopd_rel g t oh
  have hm := oopd_rel g t om
  obtain ⟨e, v, hu, hz, _⟩ := elem_spec he
  simp only [IOp.run] at hr
  simp only [execOp, ho]
  generalize (Opd.of x).eval tm = vx at *
  generalize a.eval x = vx' at *
  cases hx <;> first | exact hr.elim | skip
  · -- nil
    simp only at hr
    split at hr
    · rename_i l r m hb
      obtain ⟨h1, h2, h3, h4, h5⟩ := bounds_sound (P := P) (w := w) (b := true) hl hh hm hb (Nat.le_refl 0) (Nat.le_refl 0)
      obtain rfl : m = 0 := by omega
      obtain rfl : r = 0 := by omega
      obtain rfl : l = 0 := by omega
      simp at hr
      refine good_v s (v' := .slice none 0 0) ?_ hr .sliceNil
      simp [Instr.sliceAt, run_under hu, Instr.slice, h1, run_size hz]
    · exact hr.elim
  · rename_i ad len cap a' cap' hlen hs
    simp only at hr
    split at hr
    · rename_i l r m hb
      split at hr
      · rename_i hsp
        simp only [T.All] at hr
        have hle := hs.le
        obtain ⟨h1, h2, h3, h4, h5⟩ := bounds_sound (P := P) (w := w) (b := true) hl hh hm hb hle hlen
        simp only [Option.isSome_map] at h1 h4 hr
        refine good_v s (v' := .slice (if (if mx.isSome then m else cap') = l then some a' else some (a'.add (l * z))) (r - l) ((if mx.isSome then m else cap') - l)) ?_ hr ?_
        · simp only [Instr.sliceAt, Instr.slice, Sem.run_bind, run_under hu, Result.andThen_ok, h1, run_size hz, Sem.run_pure, Option.map_some]
        · -- the relation
          simp only [Option.map_some]
          have hmm : m ≤ (if mx.isSome then m else cap') := by split <;> omega
          rw [← apply_ite some]
          refine .slice (by omega) ?_
          cases hi : ι ad.block with
          | unborn => simp only [SR, hi] at hs
          | dead => simp only [SR, hi]; omega
          | live L =>
            simp only [SR, hi] at hs ⊢
            obtain ⟨k1, k2, k3⟩ := hs
            simp only [Option.all_some, spotOk, Bool.or_eq_true, beq_iff_eq] at hsp
            refine ⟨?_, ?_, ?_⟩
            · cases mx with
              | none => simpa using k1
              | some _ => simp
            · cases hmxs : mx.isSome with
              | true => simp
              | false =>
                have hmc := h4 hmxs
                subst hmc
                simp only [Bool.false_eq_true, if_false]
                have hlm : l ≤ m := Nat.le_trans h2 h3
                cases hsp2 : ad.spot with
                | none => rw [hsp2] at k2; simp at k2 ⊢; omega
                | some z' =>
                  have hz1 : z' = z := by rcases hsp with e | e <;> rw [hsp2] at e <;> cases e; rfl
                  have hz2 : z' = L.z := by rcases k1 with e | e <;> rw [hsp2] at e <;> cases e; rfl
                  subst hz1
                  rw [← hz2] at k2 ⊢
                  have : ad.off + l * z' + (m - l) * z' = ad.off + m * z' := by
                    rw [Nat.add_assoc, ← Nat.add_mul, Nat.add_sub_cancel' hlm]
                  rw [this, k2, hsp2]
                  simp only [Option.isSome_some, true_and]
                  omega
            · by_cases hm0 : (if mx.isSome then m else cap') = l
              · exact .inl (by omega)
              · rw [if_neg hm0]
                rcases k3 with k3 | k3
                · exact .inl (by have : (if mx.isSome then m else cap') ≤ cap' := by split <;> omega
                                 omega)
                · refine .inr ?_
                  rw [k3, Addr.add_mk, Nat.add_assoc]
      · exact hr.elim
    · exact hr.elim
theorem good_sliceStr (s : Sim P N M ι h w) (g : GI P ι) (t : VRs ι tm a.tmps.toList) {ty : TypeId} {x : Operand} {lo hi : Option Operand} (ox : okOpd P x = true) (ol : lo.toArray.toList.all (okOpd P) = true) (oh : hi.toArray.toList.all (okOpd P) = true)
    (hu : P.underlying ty = some .string) (hr : ((IOp.sliceStr (.of x) (lo.map .of) (hi.map .of)).run tm h).All Q)
    {o : Oper} (ho : o.op = .slice ty x lo hi none) : Good P N M ι h w Q ((execOp a.eval o).run P w) := by
  have hx := opd_rel g t ox
  have hl := oopd_rel g t ol
  have hh := oopd_rel g t oh
  simp only [IOp.run] at hr
  simp only [execOp, ho]
  generalize (Opd.of x).eval tm = vx at *
  generalize a.eval x = vx' at *
  cases hx <;> first | exact hr.elim | skip
  rename_i st
  simp only at hr
  split at hr
  · rename_i l r m hb
    obtain ⟨h1, h2, h3, h4, h5⟩ := bounds_sound (P := P) (w := w) (b := false) hl hh .none hb (Nat.le_refl _) (Nat.le_refl _)
    simp only [T.All] at hr
    refine good_v s (v' := .string (st.extract l r)) ?_ hr (.string _)
    simp only [Instr.sliceAt, Instr.slice, Sem.run_bind, run_under hu, Result.andThen_ok, Sem.run_pure, Option.map_none]
    simp [h1]
  · exact hr.elim
theorem good_sliceArr (s : Sim P N M ι h w) (g : GI P ι) (t : VRs ι tm a.tmps.toList) {ty : TypeId} {n z : Nat} {m0 : Option Nat} {x : Operand} {lo hi mx : Option Operand} (ox : okOpd P x = true) (ol : lo.toArray.toList.all (okOpd P) = true) (oh : hi.toArray.toList.all (okOpd P) = true) (om : mx.toArray.toList.all (okOpd P) = true)
    (he : arr? P ty = some (n, z, m0)) (hr : ((IOp.sliceArr n z (.of x) (lo.map .of) (hi.map .of) (mx.map .of)).run tm h).All Q)
    {o : Oper} (ho : o.op = .slice ty x lo hi mx) : Good P N M ι h w Q ((execOp a.eval o).run P w) := by
  have hx := opd_rel g t ox
  have hl := oopd_rel g t ol
  have hh := oopd_rel g t oh
  have hm := oopd_rel g t om
  obtain ⟨e, hu, hz, _⟩ := arr_spec he
  simp only [IOp.run] at hr
  simp only [execOp, ho]
  generalize (Opd.of x).eval tm = vx at *
  generalize a.eval x = vx' at *
  cases hx <;> first | exact hr.elim | skip
  rename_i b off a' hp
  simp only at hr
  split at hr
  · rename_i l r m hb
    obtain ⟨h1, h2, h3, h4, h5⟩ := bounds_sound (P := P) (w := w) (b := false) hl hh hm hb (Nat.le_refl _) (Nat.le_refl _)
    have hm' : (if ((mx.map Opd.of).map (Opd.eval tm)).isSome then m else n) = m := by
      split
      · rfl
      · rename_i hc; exact (h4 (by simpa using hc)).symm
    rw [hm'] at h1
    simp only [T.All] at hr
    refine good_v s (v' := .slice (some (if m = l then a' else a'.add (l * z))) (r - l) (m - l)) ?_ hr ?_
    · simp only [Instr.sliceAt, Sem.run_bind, run_under hu, Result.andThen_ok, Instr.sureAddr, h1, run_size hz, Sem.run_pure]
    · refine .slice (by omega) ?_
      cases hi : ι b with
      | unborn => simp [PR, hi] at hp
      | dead => simp [SR, hi]
      | live L =>
        simp only [PR, hi] at hp
        simp only [SR, hi]
        refine ⟨by simp, by simp, ?_⟩
        by_cases e : m = l
        · exact .inl (by omega)
        · rw [if_neg e]
          subst hp
          exact .inr (by rw [Addr.add_mk, Nat.add_assoc])
  · exact hr.elim
end ops
end Go.Ideal
namespace Go.Ideal
open Go Go.RowKit
section ops
variable {P : Program} {N M : Nat} {ι : Ren} {h : Heap} {w : World} {Q : Value × Heap → Prop} {tm : List Value} {a : Act}
theorem zipIdx_setAt (off : Nat) : ∀ (l : List Value) (k : Nat) (A : Array Value), ((l.zipIdx k).foldl (fun (cs : Array Value) (p : Value × Nat) => cs.setIfInBounds (off + p.2) p.1) A).toList = setAt A.toList (off + k) l
  | [], _, _ => rfl
  | v :: l, k, A => by
    simp only [List.zipIdx_cons, List.foldl_cons, setAt]
    rw [zipIdx_setAt off l (k + 1)]
    simp [Nat.add_assoc]
theorem fill_sound {place : Nat → Option (Nat × Nat)} {off size : Nat → Nat} (I R : Operand → Value) : ∀ (ps : List (Nat × Operand)) (c : List Value) (C : Array Value) (r : List Value), VRs ι c C.toList →
    layAt c (ps.map fun p => (off p.1, size p.1, I p.2)) = some r → (∀ p ∈ ps, place p.1 = some (off p.1, size p.1)) → (∀ p ∈ ps, VR ι (I p.2) (R p.2)) →
    ∃ C', Instr.fill place C (ps.map fun p => (p.1, R p.2)) = some C' ∧ VRs ι r C'.toList
  | [], c, C, r, hc, hl, _, _ => by simp [layAt] at hl; subst hl; exact ⟨C, rfl, hc⟩
  | p :: ps, c, C, r, hc, hl, hp, hv => by
    simp only [List.map_cons, layAt] at hl
    split at hl
    · rename_i hcond
      have hvp := (hv p (by simp)).cellsOf
      have hlen := hvp.length
      have hcl := hc.length
      have e : ((R p.2).cells.zipIdx.foldl (fun (cs : Array Value) (q : Value × Nat) => cs.setIfInBounds (off p.1 + q.2) q.1) C).toList = setAt C.toList (off p.1) (R p.2).cells.toList := by
        have := zipIdx_setAt (off p.1) (R p.2).cells.toList 0 C
        rw [Nat.add_zero] at this
        rw [← this, ← Array.foldl_toList, Array.toList_zipIdx]
      obtain ⟨C', h1, h2⟩ := fill_sound I R ps (setAt c (off p.1) (cellsOf (I p.2))) ((R p.2).cells.zipIdx.foldl (fun (cs : Array Value) (q : Value × Nat) => cs.setIfInBounds (off p.1 + q.2) q.1) C) r
        (by rw [e]; exact VRs.setAt hvp hc _) hl (fun q hq => hp q (by simp [hq])) (fun q hq => hv q (by simp [hq]))
      refine ⟨C', ?_, h2⟩
      simp only [List.map_cons, Instr.fill, hp p (by simp)]
      have hs1 : (R p.2).cells.size = size p.1 := by
        have : (R p.2).cells.toList.length = size p.1 := by omega
        simpa using this
      have hs2 : C.size = c.length := by simpa using hcl.symm
      rw [if_neg (by simp [hs1, hs2]; omega)]
      exact h1
    · cases hl
theorem places_spec : ∀ (fs : List Field), fs.all (fun f => (sz P f.type).isSome) = true → ∃ places, fs.mapM (fun f => (P.info? f.type).map fun i => (f.offset, i.size)) = some places ∧ ∀ (i : Nat), places[i]? = (fs[i]?).map fun (f : Field) => (f.offset, (sz P f.type).getD 0)
  | [], _ => ⟨[], rfl, fun i => by simp⟩
  | f :: fs, h => by
    simp only [List.all_cons, Bool.and_eq_true] at h
    obtain ⟨places, h1, h2⟩ := places_spec fs h.2
    cases hi : P.info? f.type with
    | none => simp [sz, hi] at h
    | some i =>
      refine ⟨(f.offset, i.size) :: places, by simp [List.mapM_cons, hi, h1], fun j => ?_⟩
      cases j with
      | zero => simp [sz, hi]
      | succ j => simp [h2 j]
theorem parts_rel (g : GI P ι) (t : VRs ι tm a.tmps.toList) {ps : Array (Nat × Operand)} (hp : ((ps.toList.map (·.2)).toArray).toList.all (okOpd P) = true) : ∀ p ∈ ps.toList, VR ι ((Opd.of p.2).eval tm) (a.eval p.2) := fun p hpp => by
  simp only [List.all_eq_true] at hp
  exact opd_rel g t (hp p.2 (by simp; exact ⟨p.1, by simpa using hpp⟩))
theorem good_buildStruct (s : Sim P N M ι h w) (g : GI P ι) (t : VRs ι tm a.tmps.toList) {ty : TypeId} {v : Value} {fs : Array Field} {ps : Array (Nat × Operand)} (op : ((ps.toList.map (·.2)).toArray).toList.all (okOpd P) = true) (hz : zero? P ty = some v) (hu : P.underlying ty = some (.struct fs))
    (hsz : fs.toList.all (fun f => (sz P f.type).isSome) = true) (hin : ps.toList.all (fun p => (fs[p.1]?).isSome) = true)
    (hr : ((IOp.build (cellsOf v) (ps.toList.map fun p => (((fs[p.1]?).map (·.offset)).getD 0, ((fs[p.1]?).bind fun f => sz P f.type).getD 0, .of p.2))).run tm h).All Q)
    {o : Oper} (ho : o.op = .build ty ps) : Good P N M ι h w Q ((execOp a.eval o).run P w) := by
  obtain ⟨places, hp, hpl⟩ := places_spec (P := P) fs.toList hsz
  obtain ⟨hz1, hz2⟩ := run_zero (P := P) (w := w) hz
  simp only [IOp.run, List.map_map] at hr
  split at hr
  · rename_i cs hl
    simp only [T.All] at hr
    obtain ⟨C', h1, h2⟩ := fill_sound (ι := ι) (place := (places.toArray[·]?)) (off := fun i => ((fs[i]?).map (fun (f : Field) => f.offset)).getD 0) (size := fun i => ((fs[i]?).bind fun f => sz P f.type).getD 0) (fun x => (Opd.of x).eval tm) a.eval ps.toList (cellsOf v) v.cells cs
      (VR.clean (ι := ι) _ _ hz2).cellsOf hl (fun p hpp => by
        have hi : (fs[p.1]?).isSome = true := by simp only [List.all_eq_true] at hin; exact hin p hpp
        obtain ⟨f, hf⟩ := Option.isSome_iff_exists.1 hi
        have := hpl p.1
        simp only [Array.getElem?_toList, hf] at this
        simp [this, hf]) (parts_rel g t op)
    simp only [execOp, ho]
    refine good_v s (v' := .agg C') ?_ hr (.agg (by simpa using h2))
    have hmap : (ps.map fun p => (p.1, a.eval p.2)).toList = ps.toList.map fun p => (p.1, a.eval p.2) := by simp
    simp [Instr.build, hz1, run_under hu, Array.mapM_eq_mapM_toList, run_places w _ _ hp]
    have h1' : Instr.fill (fun x => places[x]?) v.cells (List.map (fun x => (x.fst, a.eval x.snd)) ps.toList) = some C' := by simpa using h1
    rw [h1']
    simp
  · exact hr.elim
theorem good_buildArr (s : Sim P N M ι h w) (g : GI P ι) (t : VRs ι tm a.tmps.toList) {ty : TypeId} {v : Value} {n z : Nat} {m : Option Nat} {ps : Array (Nat × Operand)} (op : ((ps.toList.map (·.2)).toArray).toList.all (okOpd P) = true) (hz : zero? P ty = some v) (he : arr? P ty = some (n, z, m))
    (hr : ((IOp.build (cellsOf v) (ps.toList.map fun p => (p.1 * z, z, .of p.2))).run tm h).All Q)
    {o : Oper} (ho : o.op = .build ty ps) : Good P N M ι h w Q ((execOp a.eval o).run P w) := by
  obtain ⟨e, hu, hsz, _⟩ := arr_spec he
  obtain ⟨hz1, hz2⟩ := run_zero (P := P) (w := w) hz
  simp only [IOp.run, List.map_map] at hr
  split at hr
  · rename_i cs hl
    simp only [T.All] at hr
    obtain ⟨C', h1, h2⟩ := fill_sound (ι := ι) (place := fun i => some (i * z, z)) (off := fun i => i * z) (size := fun _ => z) (fun x => (Opd.of x).eval tm) a.eval ps.toList (cellsOf v) v.cells cs
      (VR.clean (ι := ι) _ _ hz2).cellsOf hl (fun p hpp => rfl) (parts_rel g t op)
    simp only [execOp, ho]
    refine good_v s (v' := .agg C') ?_ hr (.agg (by simpa using h2))
    simp [Instr.build, hz1, run_under hu, run_size hsz]
    rw [show Instr.fill (fun i => some (i * z, z)) v.cells (List.map (fun x => (x.fst, a.eval x.snd)) ps.toList) = some C' from h1]
    simp
  · exact hr.elim
theorem kind_spec {t : TypeId} {k : CK} (h : kind? P t = some k) : (match k with | .int => ∃ q, P.underlying t = some (.int q) | .bool => P.underlying t = some .bool | .str => P.underlying t = some .string) ∧ (isAgg t).run P w = .ok false w := by
  unfold kind? at h
  split at h <;> cases h
  · rename_i q hu; exact ⟨⟨q, hu⟩, run_isAgg? (by simp [isAgg?, hu])⟩
  · rename_i hu; exact ⟨hu, run_isAgg? (by simp [isAgg?, hu])⟩
  · rename_i hu; exact ⟨hu, run_isAgg? (by simp [isAgg?, hu])⟩
theorem cellEq_sound {t : TypeId} {k : CK} (hk : kind? P t = some k) {x y : Value} {r : Bool} (h : cellEq k x y = some r) (d : Nat) : (Op.equalIn (d + 1) t x y).run P w = .ok r w := by
  obtain ⟨hu, _⟩ := kind_spec (w := w) hk
  unfold cellEq at h
  split at h
  · split at h
    · rename_i e; subst e; cases h; obtain ⟨q, hu⟩ := hu; exact run_equalIn_int w d t _ q _ _ hu
    · cases h
  · cases h; exact run_equalIn_bool' w d t _ _ hu
  · cases h; exact run_equalIn_string w d t _ _ hu
  · cases h
theorem cellsEq_sound {xs ys : Array Value} : ∀ (fs : List Field) (ks : List CK) (k : Nat) (l l' : List Value) (r : Bool), l = xs.toList.drop k → l' = ys.toList.drop k → fs.mapM (fun f => kind? P f.type) = some ks →
    (∀ (i : Nat) (f : Field), fs[i]? = some f → f.name ≠ "_" ∧ f.offset = k + i) → cellsEq ks l l' = some r → (Op.eqFields 9999 xs ys fs).run P w = .ok r w
  | [], ks, k, l, l', r, h1, h2, hk, _, hr => by
    simp at hk
    subst hk
    cases l <;> cases l' <;> simp [cellsEq] at hr
    subst hr
    simp [Op.eqFields]
  | f :: fs, ks, k, l, l', r, h1, h2, hk, hf, hr => by
    simp only [List.mapM_cons, Option.bind_eq_bind, Option.bind_eq_some_iff, Option.pure_def, Option.some.injEq] at hk
    obtain ⟨c, hc, cs, hcs, rfl⟩ := hk
    cases l with
    | nil => simp [cellsEq] at hr
    | cons x l =>
      cases l' with
      | nil => simp [cellsEq] at hr
      | cons y l' =>
        obtain ⟨n1, n2⟩ := hf 0 f rfl
        have hx : xs[k]? = some x := by
          have : (xs.toList.drop k)[0]? = some x := by rw [← h1]; rfl
          simpa using this
        have hy : ys[k]? = some y := by
          have : (ys.toList.drop k)[0]? = some y := by rw [← h2]; rfl
          simpa using this
        have hl1 : l = xs.toList.drop (k + 1) := by
          have := congrArg List.tail h1
          simpa using this
        have hl2 : l' = ys.toList.drop (k + 1) := by
          have := congrArg List.tail h2
          simpa using this
        have hagg := (kind_spec (w := w) hc).2
        have hpx : (part f.type xs f.offset).run P w = .ok x w := by rw [n2, Nat.add_zero]; simp [part, hagg, hx]
        have hpy : (part f.type ys f.offset).run P w = .ok y w := by rw [n2, Nat.add_zero]; simp [part, hagg, hy]
        simp only [cellsEq] at hr
        cases he : cellEq c x y with
        | none => simp [he] at hr
        | some b =>
          have hq := cellEq_sound (w := w) hc he 9998
          cases b with
          | false =>
            simp only [he] at hr; cases hr
            simp [Op.eqFields, n1, hpx, hpy, hq]
          | true =>
            simp only [he] at hr
            have ih := cellsEq_sound fs cs (k + 1) l l' r hl1 hl2 hcs (fun i f' hi => by have := hf (i + 1) f' (by simpa using hi); exact ⟨this.1, by omega⟩) hr
            simp [Op.eqFields, n1, hpx, hpy, hq, ih]
theorem flat_spec {t : TypeId} {ks : List CK} (h : flat? P t = some ks) : ∃ fs, P.underlying t = some (.struct fs) ∧ P.stoodInHeld t = false ∧ P.eqGuardType P.depth t = false ∧ fs.toList.mapM (fun f => kind? P f.type) = some ks ∧
    ∀ (i : Nat) (f : Field), fs.toList[i]? = some f → f.name ≠ "_" ∧ f.offset = i ∧ sz P f.type = some 1 := by
  unfold flat? at h
  split at h
  · rename_i fs hu
    split at h
    · rename_i hc
      simp only [Bool.and_eq_true, Bool.not_eq_true', List.all_eq_true] at hc
      refine ⟨fs, hu, hc.1.1, hc.1.2, h, fun i f hi => ?_⟩
      have := hc.2 (f, i) (by rw [List.mem_zipIdx_iff_getElem?]; simpa using hi)
      simpa [and_assoc] using this
    · cases h
  · cases h
theorem fieldsOf_eq {t : TypeId} {fs : Array Field} (h : P.underlying t = some (.struct fs)) : P.fieldsOf t = fs := by simp [Program.fieldsOf, h]
theorem equalIn_flat {t : TypeId} {ks : List CK} (hf : flat? P t = some ks) {x y : Value} {r : Bool} (hr : aggEq ks x y = some r) : (Op.equalIn 10000 t x y).run P w = .ok r w := by
  obtain ⟨fs, hu, h1, _, h3, h4⟩ := flat_spec hf
  unfold aggEq at hr
  split at hr
  · have e := fieldsOf_eq hu
    rw [run_equalIn_agg w 9999 t _ _ (by rw [e]; exact hu) h1, e]
    exact cellsEq_sound fs.toList ks 0 _ _ r (by simp) (by simp) h3 (fun i f hi => ⟨(h4 i f hi).1, by have := (h4 i f hi).2.1; omega⟩) hr
  · cases hr
theorem cellEq_rel {k : CK} {x y x' y' : Value} (hx : VR ι x x') (hy : VR ι y y') {r : Bool} (h : cellEq k x y = some r) : cellEq k x' y' = some r := by
  cases hx <;> cases hy <;> first | exact h | (cases k <;> simp [cellEq] at h)
theorem cellsEq_rel : ∀ {ks : List CK} {xs xs' ys ys' : List Value} {r : Bool}, VRs ι xs xs' → VRs ι ys ys' → cellsEq ks xs ys = some r → cellsEq ks xs' ys' = some r
  | [], _, _, _, _, r, .nil, .nil, h => h
  | [], _, _, _, _, r, .nil, .cons _ _, h => by simp [cellsEq] at h
  | [], _, _, _, _, r, .cons _ _, _, h => by simp [cellsEq] at h
  | k :: ks, _, _, _, _, r, .nil, _, h => by simp [cellsEq] at h
  | k :: ks, _, _, _, _, r, .cons _ _, .nil, h => by simp [cellsEq] at h
  | k :: ks, _, _, _, _, r, .cons hx hxs, .cons hy hys, h => by
    simp only [cellsEq] at h ⊢
    split at h
    · rename_i he; rw [cellEq_rel hx hy he]; exact cellsEq_rel hxs hys h
    · rename_i he; rw [cellEq_rel hx hy he]; exact h
    · cases h
theorem aggEq_rel {ks : List CK} {x y x' y' : Value} (hx : VR ι x x') (hy : VR ι y y') {r : Bool} (h : aggEq ks x y = some r) : aggEq ks x' y' = some r := by
  cases hx <;> cases hy <;> first | (simp [aggEq] at h; done) | (simp only [aggEq] at h ⊢; exact cellsEq_rel (by assumption) (by assumption) h)
theorem good_eqAgg (s : Sim P N M ι h w) (g : GI P ι) (t : VRs ι tm a.tmps.toList) {neg : Bool} {ty ty' : TypeId} {ks : List CK} {x y : Operand} (ox : okOpd P x = true) (oy : okOpd P y = true) (hf : flat? P ty = some ks)
    (hr : ((IOp.eqAgg neg ks (.of x) (.of y)).run tm h).All Q) {o : Oper} (ho : o.op = .binOp (if neg then .neq else .eql) ty x y ty') : Good P N M ι h w Q ((execOp a.eval o).run P w) := by
  have hx := opd_rel g t ox
  have hy := opd_rel g t oy
  obtain ⟨fs, hu, h1, h2, _⟩ := flat_spec hf
  simp only [IOp.run] at hr
  obtain ⟨p, hp, hq⟩ := All_ofOpt hr
  clear hr
  cases hb : aggEq ks ((Opd.of x).eval tm) ((Opd.of y).eval tm) with
  | none => simp [hb] at hp
  | some b =>
    simp [hb] at hp
    subst hp
    have e := equalIn_flat (w := w) hf (aggEq_rel hx hy hb)
    simp only [execOp, ho]
    have hshape : ∃ xs ys, a.eval x = .agg xs ∧ a.eval y = .agg ys := by
      have h3 := aggEq_rel hx hy hb
      generalize a.eval x = vx at h3
      generalize a.eval y = vy at h3
      cases vx <;> cases vy <;> first | exact ⟨_, _, rfl, rfl⟩ | (simp [aggEq] at h3)
    obtain ⟨xs, ys, e1, e2⟩ := hshape
    rw [e1, e2] at e ⊢
    refine good_v s (v' := .bool (b != neg)) ?_ hq (.bool _)
    cases neg
    · simp [run_eqGuard_agg w .eql ty x y xs ys h2, run_eql_struct, e]
    · simp [run_eqGuard_agg w .neq ty x y xs ys h2, run_neq_struct, e]
end ops
end Go.Ideal
