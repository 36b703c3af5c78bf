import Derived.Test.YtmpnldmdchchjaaFd
namespace Go.Ideal
open Go Go.RowKit
section ops
variable {P : Program} {N M : Nat} {ι : Ren} {h : Heap} {w : World} {Q : Value × Heap → Prop} {tm : List Value} {a : Act}
theorem mapKind_spec {t : TypeId} {k : Option (List CK)} {z : Option Value} (h : mapKind? P t = some (k, z)) : ∃ kt e, P.underlying t = some (.map kt e) ∧ keyKind? P kt = some k ∧ z = zero? P e := by
  unfold mapKind? at h
  split at h
  · rename_i kt e hu
    cases hk : keyKind? P kt with
    | none => simp [hk] at h
    | some k' => simp [hk] at h; obtain ⟨rfl, rfl⟩ := h; exact ⟨kt, e, hu, hk, rfl⟩
  · cases h
theorem run_checkKey_plain {t : TypeId} {c : CK} (hc : kind? P t = some c) (b : Bool) (n : Nat) (v : Value) : (Instr.checkKey b (n + 1) t v).run P w = .ok () w := by
  obtain ⟨hu, _⟩ := kind_spec (w := w) hc
  cases c
  · obtain ⟨q, hu⟩ := hu; simp [Instr.checkKey, run_under hu]
  · simp at hu; simp [Instr.checkKey, run_under hu]
  · simp at hu; simp [Instr.checkKey, run_under hu]
theorem run_forIn_unit (g : Field → PUnit → Sem (ForInStep PUnit)) : ∀ (fs : List Field), (∀ f ∈ fs, (g f ⟨⟩).run P w = .ok (.yield ⟨⟩) w) → (forIn fs PUnit.unit g : Sem PUnit).run P w = .ok ⟨⟩ w
  | [], _ => by simp
  | f :: fs, h => by
    simp only [List.forIn_cons, Sem.run_bind, h f (by simp), Result.andThen_ok]
    exact run_forIn_unit g fs fun f' hf => h f' (by simp [hf])
theorem mapM_kind : ∀ {fs : List Field} {ks : List CK}, fs.mapM (fun f => kind? P f.type) = some ks → fs.length = ks.length ∧ ∀ f ∈ fs, ∃ c, kind? P f.type = some c
  | [], ks, h => by simp at h; subst h; simp
  | f :: fs, ks, h => by
    simp only [List.mapM_cons, Option.bind_eq_bind, Option.bind_eq_some_iff, Option.pure_def, Option.some.injEq] at h
    obtain ⟨c, hc, cs, hcs, rfl⟩ := h
    obtain ⟨h1, h2⟩ := mapM_kind hcs
    refine ⟨by simp [h1], fun f' hf => ?_⟩
    rcases List.mem_cons.1 hf with e | e
    · subst e; exact ⟨c, hc⟩
    · exact h2 f' e
theorem run_checkKey' (n : Nat) {t : TypeId} {k : Option (List CK)} (hk : keyKind? P t = some k) (b : Bool) {x x' : Value} (hx : VR ι x x') (ho : keyOk k x = true) : (Instr.checkKey b (n + 2) t x').run P w = .ok () w := by
  rcases keyKind_spec hk with ⟨rfl, q, hu⟩ | ⟨ks, rfl, hf⟩
  · cases hx <;> simp [keyOk] at ho
    rw [Instr.checkKey]
    simp [run_under hu]
  · obtain ⟨fs, hu, _, _, h3, h4⟩ := flat_spec hf
    cases hx <;> simp [keyOk] at ho
    rename_i xs ys hs
    have hl := hs.length
    obtain ⟨hfl, hkinds⟩ := mapM_kind h3
    rw [Instr.checkKey]
    simp only [Sem.run_bind, run_under hu, Result.andThen_ok]
    rw [← Array.forIn_toList]
    have := run_forIn_unit (P := P) (w := w) (fun (f : Field) (_ : PUnit) => (do
      if f.name ≠ "_" then do
        let x ← part f.type ys f.offset
        Instr.checkKey b (n + 1) f.type x
        pure (ForInStep.yield PUnit.unit)
      else pure (ForInStep.yield PUnit.unit) : Sem (ForInStep PUnit))) fs.toList (fun f hf' => by
        obtain ⟨i, hi⟩ := List.getElem?_of_mem hf'
        obtain ⟨n1, n2, n3⟩ := h4 i f hi
        obtain ⟨c, hc⟩ := hkinds f hf'
        have hlt := (List.getElem?_eq_some_iff.1 hi).1
        have hyl : i < ys.size := by simp at hl hlt hfl; omega
        have hp : (part f.type ys f.offset).run P w = .ok ys[i] w := by
          have hagg := (kind_spec (w := w) hc).2
          rw [n2]
          simp [part, hagg, hyl]
        simp [n1, hp, run_checkKey_plain hc b n])
    rw [this]
    rfl
theorem run_checkKey {t : TypeId} {k : Option (List CK)} (hk : keyKind? P t = some k) (b : Bool) {x x' : Value} (hx : VR ι x x') (ho : keyOk k x = true) : (Instr.checkKey b 10000 t x').run P w = .ok () w := run_checkKey' 9998 hk b hx ho
theorem getMap_sound (s : Sim P N M ι h w) {m m' : Value} (hm : VR ι m m') {es : List Ent} {c : Nat} {r : Option Nat} (hg : getMap h m = some (es, c, r)) :
    (m' = .map none ∧ es = [] ∧ r = none) ∨ (∃ b L ES, r = some b ∧ b % 2 = 0 ∧ h.get b = some (.map es c) ∧ ι b = .live L ∧ m' = .map (some L.b) ∧ w.heap[L.b]? = some (.map ES c) ∧ ER ι es ES.toList) := by
  unfold getMap at hg
  cases hm <;> simp at hg
  · obtain ⟨rfl, rfl, rfl⟩ := hg; exact .inl ⟨rfl, rfl, rfl⟩
  · rename_i b r' hmr
    split at hg
    · rename_i es' c' hb
      simp at hg
      obtain ⟨rfl, rfl, rfl⟩ := hg
      obtain ⟨L, h1, h2⟩ := s.live b _ hb
      obtain ⟨h0, ES, h3, h4⟩ := h2
      simp only [MR, h1] at hmr
      exact .inr ⟨b, L, ES, rfl, h0, hb, h1, by rw [hmr], h3, h4⟩
    · cases hg
theorem imap_spec {k : Option (List CK)} {m x : Value} {es : List Ent} {c : Nat} {r : Option Nat} {o : Option (Nat × Value)} (h1 : imap h k m x = some (es, c, r, o)) : keyOk k x = true ∧ getMap h m = some (es, c, r) ∧ findEnt k x es 0 = some o := by
  unfold imap at h1
  split at h1
  · rename_i hk
    split at h1
    · rename_i es' c' r' hg
      split at h1
      · rename_i o' hf; simp at h1; obtain ⟨rfl, rfl, rfl, rfl⟩ := h1; exact ⟨hk, hg, hf⟩
      · cases h1
    · cases h1
  · cases h1
theorem run_getMap {r : Nat} {ES : Array MapEntry} {c : Nat} (hr : w.heap[r]? = some (.map ES c)) : (getObj r).run P w = .ok (.map ES c) w := by
  simp [getObj, Sem.run, hr]
theorem run_setMap {r : Nat} {ES : Array MapEntry} {c : Nat} (hr : w.heap[r]? = some (.map ES c)) (o : Obj) : (setObj r o).run P w = .ok () { w with heap := w.heap.setIfInBounds r o } := by
  simp [setObj, Sem.run, hr]
theorem ER.isEmpty : ∀ {es : List Ent} {es' : List MapEntry}, ER ι es es' → es.length = es'.length
  | _, _, .nil => rfl
  | _, _, .cons _ _ _ h => by simp [ER.isEmpty h]
theorem ER.get : ∀ {es : List Ent} {es' : List MapEntry}, ER ι es es' → ∀ (i : Nat) (e : Ent), es[i]? = some e → ∃ e', es'[i]? = some e' ∧ VR ι e.key e'.key ∧ VR ι e.val e'.val ∧ e.born = e'.born
  | _, _, .nil, i, e, h => by simp at h
  | _, _, .cons (e' := e') hk hv hb _, 0, e, h => by simp at h; subst h; exact ⟨e', by simp, hk, hv, hb⟩
  | _, _, .cons _ _ _ hs, i + 1, e, h => by simp at h ⊢; exact ER.get hs i e h
theorem ER.modify : ∀ {es : List Ent} {es' : List MapEntry}, ER ι es es' → ∀ (i : Nat) {f : Ent → Ent} {f' : MapEntry → MapEntry}, (∀ e e', VR ι e.key e'.key → VR ι e.val e'.val → e.born = e'.born → es[i]? = some e → es'[i]? = some e' → VR ι (f e).key (f' e').key ∧ VR ι (f e).val (f' e').val ∧ (f e).born = (f' e').born) → ER ι (es.modify i f) (es'.modify i f')
  | _, _, .nil, i, f, f', _ => by simp; exact .nil
  | _, _, .cons (e := e) (e' := e') hk hv hb hs, 0, f, f', h => by
    obtain ⟨a, b, c⟩ := h e e' hk hv hb rfl rfl
    simp only [List.modify_zero_cons]
    exact .cons a b c hs
  | _, _, .cons hk hv hb hs, i + 1, f, f', h => by
    simp only [List.modify_succ_cons]
    exact .cons hk hv hb (ER.modify hs i fun e e' a b c d d' => h e e' a b c (by simpa using d) (by simpa using d'))
theorem ER.append : ∀ {es : List Ent} {es' : List MapEntry} {fs : List Ent} {fs' : List MapEntry}, ER ι es es' → ER ι fs fs' → ER ι (es ++ fs) (es' ++ fs')
  | _, _, _, _, .nil, h => h
  | _, _, _, _, .cons hk hv hb hs, h => .cons hk hv hb (ER.append hs h)
theorem ER.erase : ∀ {es : List Ent} {es' : List MapEntry}, ER ι es es' → ∀ i, ER ι (es.eraseIdx i) (es'.eraseIdx i)
  | _, _, .nil, _ => by simp; exact .nil
  | _, _, .cons _ _ _ hs, 0 => by simpa using hs
  | _, _, .cons hk hv hb hs, i + 1 => by simpa using .cons hk hv hb (ER.erase hs i)
theorem ER.filter {p : Nat → Bool} : ∀ {es : List Ent} {es' : List MapEntry}, ER ι es es' → ER ι (es.filter fun e => p e.born) (es'.filter fun e => p e.born)
  | _, _, .nil => .nil
  | _, _, .cons (e := e) (e' := e') hk hv hb hs => by
    simp only [List.filter_cons, ← hb]
    split
    · exact .cons hk hv hb (ER.filter hs)
    · exact ER.filter hs
theorem Res.setMap (s : Sim P N M ι h w) {b : Nat} {L : Loc} (hl : ι b = .live L) {es' : List Ent} {c' : Nat} {ES' : Array MapEntry} (he : ER ι es' ES'.toList) {h' : Heap} (hp : h.put b (some (.map es' c')) = some h') (hlt : L.b < w.heap.size) :
    Res P N M ι h w ι h' { w with heap := w.heap.setIfInBounds L.b (.map ES' c') } := by
  have hput := Put.setIn (w := w) (.map ES' c') hlt
  exact Res.write s hp hl hput.size hput.other hput.os hput.tape hput.output ⟨(put_spec hp).1, ES', hput.at_, he⟩
theorem run_lookup {ty kt e : TypeId} (hu : P.underlying ty = some (.map kt e)) {m' x' zero : Value} {ES : List MapEntry} (hm : (m' = .map none ∧ ES = []) ∨ ∃ r C c, m' = .map (some r) ∧ w.heap[r]? = some (.map C c) ∧ C.toList = ES)
    (hck : ∀ b, (Instr.checkKey b 10000 kt x').run P w = .ok () w) {fo : Option (Nat × Value)} (hf : (Instr.findKey kt x' ES).run P w = .ok fo w) (hz : (zeroValue e).run P w = .ok zero w) (ok : Bool) :
    (Instr.lookup ty m' x' ok).run P w = .ok (if ok then .tuple #[(fo.map (·.2)).getD zero, .bool fo.isSome] else (fo.map (·.2)).getD zero) w := by
  rcases hm with ⟨rfl, rfl⟩ | ⟨r, C, c, rfl, hr, rfl⟩
  · cases fo with
    | none => simp [Instr.lookup, run_under hu, hck, hf, hz]
    | some p => simp [Instr.lookup, run_under hu, hck, hf]
  · cases fo with
    | none => simp [Instr.lookup, run_under hu, run_getMap hr, hck, hf, hz]
    | some p => simp [Instr.lookup, run_under hu, run_getMap hr, hck, hf]
theorem good_lookup (s : Sim P N M ι h w) (g : GI P ι) (t : VRs ι tm a.tmps.toList) {ty : TypeId} {k : Option (List CK)} {zero : Value} {ok : Bool} {m x : Operand} (om : okOpd P m = true) (ox : okOpd P x = true) (hk : mapKind? P ty = some (k, some zero)) (hr : ((IOp.lookup k zero ok (.of m) (.of x)).run tm h).All Q)
    {o : Oper} (ho : o.op = .lookup ty m x ok) : Good P N M ι h w Q ((execOp a.eval o).run P w) := by
  have hm := opd_rel g t om
  have hx := opd_rel g t ox
  obtain ⟨kt, e, hu, hkk, hz⟩ := mapKind_spec hk
  obtain ⟨hz1, hz2⟩ := run_zero (P := P) (w := w) hz.symm
  simp only [IOp.run] at hr
  simp only [execOp, ho]
  split at hr
  · rename_i es c r fo hi
    obtain ⟨i1, i2, i3⟩ := imap_spec hi
    simp only [T.All] at hr
    have hck := fun b => run_checkKey (w := w) hkk b hx i1
    have key : ∃ ES : List MapEntry, ER ι es ES ∧ ((a.eval m = .map none ∧ ES = []) ∨ ∃ r C c, a.eval m = .map (some r) ∧ w.heap[r]? = some (.map C c) ∧ C.toList = ES) := by
      rcases getMap_sound s hm i2 with ⟨h1, h2, _⟩ | ⟨b, L, ES, _, _, _, _, h5, h6, h7⟩
      · subst h2; exact ⟨[], .nil, .inl ⟨h1, rfl⟩⟩
      · exact ⟨ES.toList, h7, .inr ⟨L.b, ES, c, h5, h6, rfl⟩⟩
    obtain ⟨ES, hER, hrun⟩ := key
    obtain ⟨fo', hf1, hf2⟩ := find_sound (w := w) hkk hx hER i3
    refine good_v s (run_lookup hu hrun hck hf1 hz1 ok) hr ?_
    cases fo with
    | none =>
      cases fo' with
      | some p => exact hf2.elim
      | none =>
        have := VR.clean (ι := ι) _ _ hz2
        cases ok
        · exact this
        · exact .tuple (.cons this (.cons (.bool _) .nil))
    | some p =>
      obtain ⟨i, v⟩ := p
      cases fo' with
      | none => exact hf2.elim
      | some p' =>
        obtain ⟨i', v'⟩ := p'
        obtain ⟨_, hv⟩ := hf2
        cases ok
        · exact hv
        · exact .tuple (.cons hv (.cons (.bool _) .nil))
  · exact hr.elim
theorem findEnt_at {k : Option (List CK)} {x : Value} : ∀ {es : List Ent} {j i : Nat} {v : Value}, findEnt k x es j = some (some (i, v)) → j ≤ i ∧ ∃ e, es[i - j]? = some e ∧ e.val = v ∧ keyEq k x e.key = some true
  | [], j, i, v, h => by simp [findEnt] at h
  | e :: es, j, i, v, h => by
    simp only [findEnt] at h
    split at h
    · rename_i he; cases h; exact ⟨Nat.le_refl _, e, by simp, rfl, he⟩
    · obtain ⟨h1, e', h2, h3, h4⟩ := findEnt_at h
      refine ⟨by omega, e', ?_, h3, h4⟩
      rw [show i - j = (i - (j + 1)) + 1 by omega]
      simpa using h2
    · cases h
theorem sameBits_cells : ∀ {ks : List CK} {xs ys : List Value}, cellsEq ks xs ys = some true → ∀ n, (ys.zip xs).all (fun (p : Value × Value) => Instr.sameBits n p.1 p.2) = true
  | [], [], [], _, n => rfl
  | [], _ :: _, _, h, n => by simp [cellsEq] at h
  | [], [], _ :: _, h, n => by simp [cellsEq] at h
  | k :: ks, [], _, h, n => by simp [cellsEq] at h
  | k :: ks, _ :: _, [], h, n => by simp [cellsEq] at h
  | k :: ks, x :: xs, y :: ys, h, n => by
    simp only [cellsEq] at h
    split at h
    · rename_i he
      simp only [List.zip_cons_cons, List.all_cons, Bool.and_eq_true]
      refine ⟨?_, sameBits_cells h n⟩
      unfold cellEq at he
      split at he
      · split at he
        · rename_i e; subst e
          simp at he; subst he
          cases n <;> simp [Instr.sameBits]
        · cases he
      · simp at he; subst he
        cases n <;> simp [Instr.sameBits]
      · rename_i a b
        have hb : (b == a) = true := by rw [beq_toListBytes]; simp at he; simp [he]
        cases n <;> simp [Instr.sameBits] <;> exact hb
      · cases he
    · cases h
    · cases h
theorem sameBits_key {k : Option (List CK)} {x y : Value} (h : keyEq k x y = some true) (n : Nat) : Instr.sameBits (n + 1) y x = true := by
  cases k with
  | none => cases x <;> cases y <;> simp [keyEq] at h; obtain ⟨rfl, rfl⟩ := h; simp [Instr.sameBits]
  | some ks =>
    cases x <;> cases y <;> simp [keyEq] at h
    rename_i xs ys
    have hl : xs.size = ys.size := by
      have : ∀ {ks : List CK} {l l' : List Value}, cellsEq ks l l' = some true → l.length = l'.length := by
        intro ks
        induction ks with
        | nil => intro l l' h; cases l <;> cases l' <;> simp [cellsEq] at h ⊢
        | cons k ks ih =>
          intro l l' h
          cases l <;> cases l' <;> simp only [cellsEq] at h <;> first | (cases h; done) | skip
          split at h
          · simp [ih h]
          · cases h
          · cases h
      simpa using this h
    simp only [Instr.sameBits, Bool.and_eq_true]
    exact ⟨by simp [hl], sameBits_cells h n⟩
theorem run_keyStays {old new : Value} (h : Instr.sameBits 10000 old new = true) : (Instr.keyThatStays old new).run P w = .ok new w := by
  simp [Instr.keyThatStays, h]
end ops
end Go.Ideal
namespace Go.Ideal
open Go Go.RowKit
section ops
variable {P : Program} {N M : Nat} {ι : Ren} {h : Heap} {w : World} {Q : Value × Heap → Prop} {tm : List Value} {a : Act}
theorem good_u {sem : Sem Unit} {v : Value} {ι' : Ren} {h' : Heap} {w' : World} (hr : sem.run P w = .ok () w') (hQ : Q (undefV, h')) (hR : Res P N M ι h w ι' h' w') : Good P N M ι h w Q ((do sem; pure Next.skip : Sem Next).run P w) := by
  refine ⟨undefV, undef, ι', h', w', .inr ⟨?_, rfl⟩, hQ, VR.undefV _, hR⟩
  simp only [Sem.run_bind, hr, Result.andThen_ok, Sem.run_pure]
theorem good_w {sem : Sem Value} {v v' : Value} {ι' : Ren} {h' : Heap} {w' : World} (hr : sem.run P w = .ok v' w') (hQ : Q (v, h')) (hv : VR ι' v v') (hR : Res P N M ι h w ι' h' w') : Good P N M ι h w Q ((do pure (Next.value (← sem)) : Sem Next).run P w) := by
  refine ⟨v, v', ι', h', w', .inl ?_, hQ, hv, hR⟩
  simp only [Sem.run_bind, hr, Result.andThen_ok, Sem.run_pure]
theorem key_found (s : Sim P N M ι h w) {kt : TypeId} {k : Option (List CK)} (hkk : keyKind? P kt = some k) {m m' x x' : Value} (hm : VR ι m m') (hx : VR ι x x') {es : List Ent} {c b : Nat} {fo : Option (Nat × Value)}
    (hi : imap h k m x = some (es, c, some b, fo)) : ∃ L ES fo', b % 2 = 0 ∧ h.get b = some (.map es c) ∧ ι b = .live L ∧ m' = .map (some L.b) ∧ w.heap[L.b]? = some (.map ES c) ∧ ER ι es ES.toList ∧ (∀ e, (Instr.checkKey e 10000 kt x').run P w = .ok () w) ∧
      (Instr.findKey kt x' ES.toList).run P w = .ok fo' w ∧ RR ι fo fo' ∧ findEnt k x es 0 = some fo := by
  obtain ⟨i1, i2, i3⟩ := imap_spec hi
  rcases getMap_sound s hm i2 with ⟨_, _, h3⟩ | ⟨b', L, ES, h1, h2, h3, h4, h5, h6, h7⟩
  · cases h3
  · cases h1
    obtain ⟨fo', hf1, hf2⟩ := find_sound (w := w) hkk hx h7 i3
    exact ⟨L, ES, fo', h2, h3, h4, h5, h6, h7, fun e => run_checkKey (w := w) hkk e hx i1, hf1, hf2, i3⟩
theorem RR.none' {fo' : Option (Nat × Value)} (h : RR ι none fo') : fo' = none := by
  cases fo' with
  | none => rfl
  | some p => exact h.elim
theorem RR.some' {i : Nat} {v : Value} {fo' : Option (Nat × Value)} (h : RR ι (some (i, v)) fo') : ∃ v', fo' = some (i, v') ∧ VR ι v v' := by
  cases fo' with
  | none => exact h.elim
  | some p => obtain ⟨j, u⟩ := p; obtain ⟨e, hv⟩ := h; subst e; exact ⟨u, rfl, hv⟩
theorem stays {k : Option (List CK)} {x x' : Value} {es : List Ent} {ES : Array MapEntry} {i : Nat} {v : Value} (he : ER ι es ES.toList) (hx : VR ι x x') (hf : findEnt k x es 0 = some (some (i, v))) :
    ∃ e e', es[i]? = some e ∧ ES[i]? = some e' ∧ VR ι e.key e'.key ∧ VR ι e.val e'.val ∧ e.born = e'.born ∧ e.val = v ∧ (∀ d, (Instr.keyThatStays ((ES[i]?.map (·.key)).getD d) x').run P w = .ok x' w) := by
  obtain ⟨_, e, h2, h3, h4⟩ := findEnt_at hf
  simp only [Nat.sub_zero] at h2
  obtain ⟨e', g1, g2, g3, g4⟩ := he.get _ _ h2
  have g1' : ES[i]? = some e' := by simpa using g1
  refine ⟨e, e', h2, g1', g2, g3, g4, h3, fun d => ?_⟩
  rw [g1']
  exact run_keyStays (sameBits_key (keyEq_rel hx g2 h4) _)
theorem good_mapUpdate (s : Sim P N M ι h w) (g : GI P ι) (t : VRs ι tm a.tmps.toList) {ty : TypeId} {k : Option (List CK)} {z : Option Value} {m x y : Operand} (om : okOpd P m = true) (ox : okOpd P x = true) (oy : okOpd P y = true) (hk : mapKind? P ty = some (k, z)) (hr : ((IOp.mapUpdate k (.of m) (.of x) (.of y)).run tm h).All Q)
    {o : Oper} (ho : o.op = .mapUpdate ty m x y ∨ o.op = .insert ty m x y) : Good P N M ι h w Q ((execOp a.eval o).run P w) := by
  have hm := opd_rel g t om
  have hx := opd_rel g t ox
  have hy := opd_rel g t oy
  obtain ⟨kt, e, hu, hkk, hz⟩ := mapKind_spec hk
  simp only [IOp.run] at hr
  have hrun : Good P N M ι h w Q ((do Instr.mapUpdate ty (a.eval m) (a.eval x) (a.eval y); pure Next.skip : Sem Next).run P w) := by
    split at hr
    · rename_i es c b i v hi
      split at hr
      · rename_i h' hp
        obtain ⟨L, ES, fo', h1, h2, h3, h4, h5, h6, h7, h8, h9, h10⟩ := key_found s hkk hm hx hi
        obtain ⟨v', rfl, hv⟩ := h9.some'
        obtain ⟨en, en', j1, j2, j3, j4, j5, j6, j7⟩ := stays (P := P) (w := w) h6 hx h10
        have hE : ER ι (setVal es i ((Opd.of x).eval tm) ((Opd.of y).eval tm)) (ES.modify i fun e => { e with key := a.eval x, val := a.eval y }).toList := by
          rw [Array.toList_modify]
          exact h6.modify i fun e e' _ _ hb _ _ => ⟨hx, hy, hb⟩
        refine good_u (v := undefV) ?_ hr (Res.setMap s h3 hE hp (lt_of_heap h5))
        rw [h4]
        simp [Instr.mapUpdate, run_under hu, run_getMap h5, h7, h8, j7, run_setMap h5]
      · exact hr.elim
    · rename_i es c b hi
      split at hr
      · rename_i h' hp
        obtain ⟨L, ES, fo', h1, h2, h3, h4, h5, h6, h7, h8, h9, h10⟩ := key_found s hkk hm hx hi
        cases h9.none'
        have hE : ER ι (es ++ [⟨(Opd.of x).eval tm, (Opd.of y).eval tm, c⟩]) (ES.push { key := a.eval x, val := a.eval y, born := c }).toList := by
          rw [Array.toList_push]
          exact h6.append (.cons hx hy rfl .nil)
        refine good_u (v := undefV) ?_ hr (Res.setMap s h3 hE hp (lt_of_heap h5))
        rw [h4]
        simp [Instr.mapUpdate, run_under hu, run_getMap h5, h7, h8, run_setMap h5]
      · exact hr.elim
    · exact hr.elim
  rcases ho with ho | ho <;> simp only [execOp, ho] <;> exact hrun
theorem good_mapEntry (s : Sim P N M ι h w) (g : GI P ι) (t : VRs ι tm a.tmps.toList) {ty : TypeId} {k : Option (List CK)} {zero : Value} {m x : Operand} (om : okOpd P m = true) (ox : okOpd P x = true) (hk : mapKind? P ty = some (k, some zero)) (hr : ((IOp.mapEntry k zero (.of m) (.of x)).run tm h).All Q)
    {o : Oper} (ho : o.op = .mapEntry ty m x) : Good P N M ι h w Q ((execOp a.eval o).run P w) := by
  have hm := opd_rel g t om
  have hx := opd_rel g t ox
  obtain ⟨kt, e, hu, hkk, hz⟩ := mapKind_spec hk
  obtain ⟨hz1, hz2⟩ := run_zero (P := P) (w := w) hz.symm
  simp only [IOp.run] at hr
  simp only [execOp, ho]
  split at hr
  · rename_i es c b i v hi
    split at hr
    · rename_i h' en hp hen
      obtain ⟨L, ES, fo', h1, h2, h3, h4, h5, h6, h7, h8, h9, h10⟩ := key_found s hkk hm hx hi
      obtain ⟨v', rfl, hv⟩ := h9.some'
      obtain ⟨en2, en', j1, j2, j3, j4, j5, j6, j7⟩ := stays (P := P) (w := w) h6 hx h10
      rw [hen] at j1; cases j1
      have hE : ER ι (setVal es i ((Opd.of x).eval tm) v) (ES.modify i fun e => { e with key := a.eval x }).toList := by
        rw [Array.toList_modify]
        refine h6.modify i fun e e' _ hv2 hb he _ => ⟨hx, ?_, hb⟩
        rw [hen] at he; cases he
        rw [← j6]; exact hv2
      refine good_w ?_ hr (v' := .tuple #[v', .int .i64 en.born]) (.tuple (.cons hv (.cons (.int _ _) .nil))) (Res.setMap s h3 hE hp (lt_of_heap h5))
      have j8 := j7 (a.eval x)
      rw [j2] at j8
      simp only [Option.map_some, Option.getD_some] at j8
      rw [h4, j5]
      simp [Instr.mapEntry, run_under hu, run_getMap h5, h7, h8, j8, run_setMap h5, j2, goInt]
    · exact hr.elim
  · rename_i es c b hi
    split at hr
    · rename_i h' hp
      obtain ⟨L, ES, fo', h1, h2, h3, h4, h5, h6, h7, h8, h9, h10⟩ := key_found s hkk hm hx hi
      cases h9.none'
      have hE : ER ι (es ++ [⟨(Opd.of x).eval tm, zero, c⟩]) (ES.push { key := a.eval x, val := zero, born := c }).toList := by
        rw [Array.toList_push]
        exact h6.append (.cons hx (VR.clean _ _ hz2) rfl .nil)
      refine good_w ?_ hr (v' := .tuple #[zero, .int .i64 c]) (.tuple (.cons (VR.clean _ _ hz2) (.cons (.int _ _) .nil))) (Res.setMap s h3 hE hp (lt_of_heap h5))
      rw [h4]
      simp [Instr.mapEntry, run_under hu, run_getMap h5, h7, h8, run_setMap h5, hz1, goInt]
    · exact hr.elim
  · exact hr.elim
theorem ER.findIdx : ∀ {es : List Ent} {es' : List MapEntry} (p : Nat → Bool), ER ι es es' → es.findIdx? (fun e => p e.born) = es'.findIdx? (fun e => p e.born)
  | _, _, _, .nil => rfl
  | _, _, p, .cons _ _ hb hs => by simp only [List.findIdx?_cons, ← hb, ER.findIdx p hs]
theorem ER.find : ∀ {es : List Ent} {es' : List MapEntry} (p : Nat → Bool), ER ι es es' → ∀ e, es.find? (fun e => p e.born) = some e → ∃ e', es'.find? (fun e => p e.born) = some e' ∧ VR ι e.key e'.key ∧ VR ι e.val e'.val ∧ e.born = e'.born
  | _, _, _, .nil, e, h => by simp at h
  | _, _, p, .cons (e := x) (e' := x') hk hv hb hs, e, h => by
    simp only [List.find?_cons, ← hb] at h ⊢
    cases hp : p x.born <;> simp only [hp] at h ⊢
    · exact ER.find p hs e h
    · cases h; exact ⟨x', by simp, hk, hv, hb⟩
theorem good_entryStore (s : Sim P N M ι h w) (g : GI P ι) (t : VRs ι tm a.tmps.toList) {ty : TypeId} {m x y : Operand} (om : okOpd P m = true) (ox : okOpd P x = true) (oy : okOpd P y = true) (hr : ((IOp.entryStore (.of m) (.of x) (.of y)).run tm h).All Q)
    {o : Oper} (ho : o.op = .entryStore ty m x y) : Good P N M ι h w Q ((execOp a.eval o).run P w) := by
  have hm := opd_rel g t om
  have hx := opd_rel g t ox
  have hy := opd_rel g t oy
  simp only [IOp.run] at hr
  simp only [execOp, ho]
  split at hr
  · rename_i es c b i hg hi
    split at hr
    · rename_i j hj
      split at hr
      · rename_i h' hp
        rcases getMap_sound s hm hg with ⟨_, _, h3⟩ | ⟨b', L, ES, h1, h2, h3, h4, h5, h6, h7⟩
        · cases h3
        cases h1
        obtain ⟨q, hq1, hq2⟩ := asInt_spec hx hi
        have hE : ER ι (es.modify j fun e => { e with val := (Opd.of y).eval tm }) (ES.modify j fun e => { e with val := a.eval y }).toList := by
          rw [Array.toList_modify]
          exact h7.modify j fun e e' hk _ hb _ _ => ⟨hk, hy, hb⟩
        have hfi : ES.findIdx? (fun e => (e.born : Int) == i) = some j := by
          rw [← Array.toArray_toList (xs := ES), List.findIdx?_toArray, ← h7.findIdx fun n => (n : Int) == i]
          exact hj
        refine good_u (v := undefV) ?_ hr (Res.setMap s h4 hE hp (lt_of_heap h6))
        rw [h5, hq2]
        simp [Instr.entryStore, run_getMap h6, asInt, asIntOf, hfi, run_setMap h6]
      · exact hr.elim
    · exact hr.elim
  · exact hr.elim
theorem good_lenMap (s : Sim P N M ι h w) (g : GI P ι) (t : VRs ι tm a.tmps.toList) {ty k e : TypeId} {ts : Array TypeId} {as : Array Operand} {x : Operand} (ha : as.toList = [x]) (ht : ts[0]? = some ty) (hu : P.underlying ty = some (.map k e)) (ox : okOpd P x = true) (hr : ((IOp.lenMap (.of x)).run tm h).All Q)
    {o : Oper} (ho : o.op = .call { callee := .builtin .len, args := as, argTypes := ts }) : Good P N M ι h w Q ((execOp a.eval o).run P w) := by
  have hx := opd_rel g t ox
  have has := one_arg ha
  subst has
  simp only [IOp.run] at hr
  split at hr
  · rename_i es c b hg
    refine Good.ofRun s ?_ hr (.int _ _)
    rcases getMap_sound s hx hg with ⟨h1, h2, _⟩ | ⟨b', L, ES, h1, h2, h3, h4, h5, h6, h7⟩
    · subst h2
      simp [execOp, ho, resolve, invoke, builtin, Builtin.len_, ht, run_under hu, h1, goInt]
    · have hl : es.length = ES.size := by rw [h7.isEmpty, Array.length_toList]
      simp [execOp, ho, resolve, invoke, builtin, Builtin.len_, ht, run_under hu, h5, run_getMap h6, goInt, hl]
  · exact hr.elim
theorem good_delete (s : Sim P N M ι h w) (g : GI P ι) (t : VRs ι tm a.tmps.toList) {ty : TypeId} {k : Option (List CK)} {z : Option Value} {ts : Array TypeId} {as : Array Operand} {m x : Operand} (ha : as.toList = [m, x]) (ht : ts[0]? = some ty) (om : okOpd P m = true) (ox : okOpd P x = true) (hk : mapKind? P ty = some (k, z)) (hr : ((IOp.delete k (.of m) (.of x)).run tm h).All Q)
    {o : Oper} (ho : o.op = .call { callee := .builtin .delete, args := as, argTypes := ts }) : Good P N M ι h w Q ((execOp a.eval o).run P w) := by
  have hm := opd_rel g t om
  have hx := opd_rel g t ox
  have has := two_args ha
  subst has
  obtain ⟨kt, e, hu, hkk, hz⟩ := mapKind_spec hk
  simp only [IOp.run] at hr
  have hex : execOp a.eval o = (do pure (Next.value (← Builtin.delete_ ts o.type #[a.eval m, a.eval x])) : Sem Next) := by
    simp [execOp, ho, resolve, invoke, builtin]
  rw [hex]
  split at hr
  · rename_i es c fo hi
    obtain ⟨i1, i2, i3⟩ := imap_spec hi
    refine good_v s (v' := undef) ?_ hr (VR.undefV _)
    rcases getMap_sound s hm i2 with ⟨h1, h2, _⟩ | ⟨b', L, ES, h1, _⟩
    · rw [h1]
      simp [Builtin.delete_, ht, run_under hu, run_checkKey (w := w) hkk true hx i1, undef]
    · cases h1
  · rename_i es c b i v hi
    split at hr
    · rename_i h' hp
      obtain ⟨L, ES, fo', h1, h2, h3, h4, h5, h6, h7, h8, h9, h10⟩ := key_found s hkk hm hx hi
      obtain ⟨v', rfl, hv⟩ := h9.some'
      obtain ⟨en, en', j1, j2, j3, j4, j5, j6, j7⟩ := stays (P := P) (w := w) h6 hx h10
      have hlt : i < ES.size := (Array.getElem?_eq_some_iff.1 j2).1
      have hE : ER ι (es.eraseIdx i) (ES.eraseIdxIfInBounds i).toList := by
        have : (ES.eraseIdxIfInBounds i).toList = ES.toList.eraseIdx i := by
          unfold Array.eraseIdxIfInBounds
          rw [dif_pos hlt]
          simp
        rw [this]
        exact h6.erase i
      refine good_w ?_ hr (v' := undef) (VR.undefV _) (Res.setMap s h3 hE hp (lt_of_heap h5))
      rw [h4]
      simp [Builtin.delete_, ht, run_under hu, run_getMap h5, h7, h8, run_setMap h5, undef]
    · exact hr.elim
  · rename_i es c b hi
    split at hr
    · rename_i h' hp
      obtain ⟨L, ES, fo', h1, h2, h3, h4, h5, h6, h7, h8, h9, h10⟩ := key_found s hkk hm hx hi
      cases h9.none'
      refine good_w ?_ hr (v' := undef) (VR.undefV _) (Res.setMap s h3 h6 hp (lt_of_heap h5))
      rw [h4]
      simp [Builtin.delete_, ht, run_under hu, run_getMap h5, h7, h8, run_setMap h5, undef]
    · exact hr.elim
  · exact hr.elim
end ops
end Go.Ideal
namespace Go.Ideal
open Go Go.RowKit
section ops
variable {P : Program} {N M : Nat} {ι : Ren} {h : Heap} {w : World} {Q : Value × Heap → Prop} {tm : List Value} {a : Act}
theorem good_rangeMap (s : Sim P N M ι h w) (g : GI P ι) (t : VRs ι tm a.tmps.toList) (hQ : ∀ p, Q p → p.2.next ≤ M) {ty k e : TypeId} {x : Operand} (hu : P.underlying ty = some (.map k e)) (ox : okOpd P x = true) (hr : ((IOp.rangeMap (.of x)).run tm h).All Q)
    {o : Oper} (ho : o.op = .range ty x) : Good P N M ι h w Q ((execOp a.eval o).run P w) := by
  have hx := opd_rel g t ox
  simp only [IOp.run] at hr
  simp only [execOp, ho]
  generalize (Opd.of x).eval tm = v at *
  generalize hx' : a.eval x = v' at *
  cases hx <;> try exact hr.elim
  · simp only [T.All] at hr
    have hM : h.next < M := hQ _ hr
    have hu' := s.unborn h.next (Nat.le_refl _) hM
    refine good_w (v' := .pointer (some ⟨w.heap.size, 0, none⟩)) ?_ hr (new_ptr (L := ⟨w.heap.size, 0, 0, 0, 0⟩) rfl) (Res.alloc s hM (O := .mapIter none 0 #[] 0) (L := ⟨w.heap.size, 0, 0, 0, 0⟩) rfl ?_)
    · simp [Instr.range, run_under hu]
    · exact ⟨by omega, rfl, none, World.alloc_heap_new w _, trivial⟩
  · rename_i b r hm
    simp only at hr
    split at hr
    · rename_i es c hg
      simp only [T.All] at hr
      have hM : h.next < M := hQ _ hr
      obtain ⟨L, h1, h2, ES, h3, h4⟩ := s.live b _ hg
      have hm2 := hm
      simp only [MR, h1] at hm2
      subst hm2
      have hun := s.unborn h.next (Nat.le_refl _) hM
      refine good_w (v' := .pointer (some ⟨w.heap.size, 0, none⟩)) ?_ hr (new_ptr (L := ⟨w.heap.size, 0, 0, 0, 0⟩) rfl) (Res.alloc s hM (O := .mapIter (some L.b) c #[] c) (L := ⟨w.heap.size, 0, 0, 0, 0⟩) rfl ?_)
      · simp [Instr.range, run_under hu, run_getMap h3]
      · exact ⟨by omega, rfl, some L.b, World.alloc_heap_new w _, MR.mono (Ren.le_born hun) hm⟩
    · exact hr.elim
theorem ER.map_some {es : List Ent} {es' : List MapEntry} (h : ER ι es es') (i : Nat) (e : Option Ent) (he : (es.map some)[i]? = some e) : ∃ (x : Ent) (x' : MapEntry), e = some x ∧ (es'.map some)[i]? = some (some x') ∧ VR ι x.key x'.key ∧ VR ι x.val x'.val ∧ x.born = x'.born := by
  simp only [List.getElem?_map, Option.map_eq_some_iff] at he
  obtain ⟨x, hx, rfl⟩ := he
  obtain ⟨x', h1, h2⟩ := h.get i x hx
  exact ⟨x, x', rfl, by simp [h1], h2⟩
def candsM (old new : Array MapEntry) : Array (Option MapEntry) := (if old.isEmpty then #[none] else #[]) ++ (old ++ new).map some
theorem ER.empty {es : List Ent} {ES : Array MapEntry} (h : ER ι es ES.toList) : ES.isEmpty = es.isEmpty := by
  have := h.isEmpty; rw [Array.length_toList] at this
  cases es with
  | nil => simp at this; simp [Array.isEmpty, ← this]
  | cons x l => simp at this; simp [Array.isEmpty, ← this]
theorem cands_rel {old new : List Ent} {old' new' : Array MapEntry} (ho : ER ι old old'.toList) (hn : ER ι new new'.toList) (i : Nat) : (cands old new).length = (candsM old' new').size ∧
    match (cands old new)[i]? with
    | none => True
    | some none => (candsM old' new')[i]? = some none
    | some (some x) => ∃ x', (candsM old' new')[i]? = some (some x') ∧ VR ι x.key x'.key ∧ VR ι x.val x'.val ∧ x.born = x'.born := by
  have hE : old'.isEmpty = old.isEmpty := ho.empty
  have hER : ER ι (old ++ new) (old' ++ new').toList := by rw [Array.toList_append]; exact ho.append hn
  have hc : (candsM old' new').toList = (if old.isEmpty then [none] else []) ++ (old' ++ new').toList.map some := by
    unfold candsM
    rw [hE]
    cases old.isEmpty <;> simp
  rw [← Array.length_toList, ← Array.getElem?_toList, hc]
  unfold cands
  cases old.isEmpty
  · simp only [Bool.false_eq_true, if_false, List.nil_append, List.length_map, hER.isEmpty, true_and]
    split
    · trivial
    · rename_i he; obtain ⟨x, x', h1, _⟩ := hER.map_some i _ he; cases h1
    · rename_i x he
      obtain ⟨y, x', h1, h2⟩ := hER.map_some i _ he
      cases h1
      exact ⟨x', h2⟩
  · simp only [if_true, List.singleton_append, List.length_cons, List.length_map, hER.isEmpty, true_and]
    cases i with
    | zero => simp
    | succ i =>
      simp only [List.getElem?_cons_succ]
      split
      · trivial
      · rename_i he; obtain ⟨x, x', h1, _⟩ := hER.map_some i _ he; cases h1
      · rename_i x he
        obtain ⟨y, x', h1, h2⟩ := hER.map_some i _ he
        cases h1
        exact ⟨x', h2⟩
theorem Res.setIter (s : Sim P N M ι h w) {r m : Nat} {L : Loc} (hl : ι r = .live L) (hoff : L.off = 0) {since last : Nat} {seen : List Nat} {m' : Option Nat} (hm : OMR ι (some m) m') {h' : Heap} (hp : h.put r (some (.iter (some m) since seen last)) = some h') (hlt : L.b < w.heap.size) :
    Res P N M ι h w ι h' { w with heap := w.heap.setIfInBounds L.b (.mapIter m' since seen.toArray last) } := by
  have hput := Put.setIn (w := w) (.mapIter m' since seen.toArray last) hlt
  exact Res.write s hp hl hput.size hput.other hput.os hput.tape hput.output ⟨(put_spec hp).1, hoff, m', hput.at_, hm⟩
theorem run_getIter {r : Nat} {m : Option Nat} {since last : Nat} {seen : Array Nat} (hr : w.heap[r]? = some (.mapIter m since seen last)) : (getObj r).run P w = .ok (.mapIter m since seen last) w := by
  simp [getObj, Sem.run, hr]
theorem run_setIter {r : Nat} {m : Option Nat} {since last : Nat} {seen : Array Nat} (hr : w.heap[r]? = some (.mapIter m since seen last)) (o : Obj) : (setObj r o).run P w = .ok () { w with heap := w.heap.setIfInBounds r o } := by
  simp [setObj, Sem.run, hr]
theorem all_born {es : List Ent} {es' : List MapEntry} (h : ER ι es es') (p : Nat → Bool) : es.all (fun e => p e.born) = es'.all (fun e => p e.born) := by
  induction h with
  | nil => rfl
  | cons _ _ hb _ ih => simp only [List.all_cons, hb, ih]
def endM (w : World) (r m since : Nat) (seen : Array Nat) (clock : Nat) : Option (Option MapEntry) → Result Next
  | some (some e) => .ok (.value (.tuple #[.bool true, e.key, e.val])) { w with heap := w.heap.setIfInBounds r (.mapIter (some m) since (seen.push e.born) clock) }
  | some none => .ok (.value (.tuple #[.bool false])) w
  | none => .halt (.stuck "Next: no such candidate") w
def stepM (r m since : Nat) (seen : Array Nat) (clock : Nat) : Option (Option MapEntry) → Sem Value
  | some (some e) => do setObj r (.mapIter (some m) since (seen.push e.born) clock); pure (.tuple #[.bool true, e.key, e.val])
  | some none => pure (.tuple #[.bool false])
  | none => stuck "Next: no such candidate"
def nextM (P : Program) (w : World) (r m since : Nat) (seen : List Nat) (clock : Nat) (old new : Array MapEntry) : Result Next :=
  ((choose (.mapNext (candsM old new).size)).run P w).andThen fun i w1 => endM w1 r m since seen.toArray clock (candsM old new)[i]?
theorem Good.after {ι' : Ren} {h' : Heap} {w' : World} (r1 : Res P N M ι h w ι' h' w') {res : Result Next} (hg : Good P N M ι' h' w' Q res) : Good P N M ι h w Q res := by
  obtain ⟨v, v', ι2, h2, w2, e, hq, hv, hR⟩ := hg
  exact ⟨v, v', ι2, h2, w2, e, hq, hv, r1.trans hR⟩
theorem step_sound (s : Sim P N M ι h w) {r m since c : Nat} {seen : List Nat} {L : Loc} {m' : Nat} (h1 : ι r = .live L) (h3 : L.off = 0) (hlt : L.b < w.heap.size) (hm : MR ι m m') {old new : List Ent} {old' new' : Array MapEntry} (ho : ER ι old old'.toList) (hn : ER ι new new'.toList) (i : Nat)
    (hr : T.All Q (stepOf h r m since seen c (cands old new)[i]?)) : Good P N M ι h w Q (endM w L.b m' since seen.toArray c (candsM old' new')[i]?) := by
  have hrel := (cands_rel ho hn i).2
  generalize (cands old new)[i]? = x at hr hrel
  cases x with
  | none => exact hr.elim
  | some y =>
    cases y with
    | none =>
      simp only at hrel
      rw [hrel]
      exact ⟨_, .tuple #[.bool false], ι, h, w, .inl rfl, hr, .tuple (.cons (.bool _) .nil), .refl s⟩
    | some e =>
      obtain ⟨x', g1, g2, g3, g4⟩ := hrel
      rw [g1]
      simp only [stepOf] at hr
      split at hr
      · rename_i h' hp
        refine ⟨_, .tuple #[.bool true, x'.key, x'.val], ι, h', _, .inl rfl, hr, .tuple (.cons (.bool _) (.cons g2 (.cons g3 .nil))), ?_⟩
        have := Res.setIter s h1 h3 (m' := some m') hm hp hlt
        rw [g4] at this
        simpa using this
      · exact hr.elim
theorem next_sound (s : Sim P N M ι h w) {r m since c : Nat} {seen : List Nat} {L : Loc} {m' : Nat} (h1 : ι r = .live L) (h3 : L.off = 0) (hlt : L.b < w.heap.size) (hm : MR ι m m') {old new : List Ent} {old' new' : Array MapEntry} (ho : ER ι old old'.toList) (hn : ER ι new new'.toList)
    (hr : T.All Q (nextOf h r m since seen c old new)) : Good P N M ι h w Q (nextM P w L.b m' since seen c old' new') := by
  have hlen := (cands_rel ho hn 0).1
  unfold nextM
  unfold nextOf at hr
  simp only [run_choose_drew]
  by_cases hle : (cands old new).length ≤ 1
  · rw [if_pos hle] at hr
    rw [if_pos (by simp only [Question.forced, decide_eq_true_eq]; omega)]
    exact step_sound s h1 h3 hlt hm ho hn 0 hr
  · rw [if_neg hle] at hr
    rw [if_neg (by simp only [Question.forced, decide_eq_true_eq]; omega)]
    simp only [T.All] at hr
    have rd := Res.drew' (P := P) (N := N) (M := M) s
    refine Good.after rd (step_sound rd.sim h1 h3 hlt hm ho hn _ (hr.2 _ ?_))
    simp only [Question.cut]
    rw [← hlen]
    exact Nat.mod_lt _ hr.1
theorem next_run (C : Array (Option MapEntry)) {r m since last clock : Nat} {seen : Array Nat} (hr : w.heap[r]? = some (.mapIter (some m) since seen last)) :
    (((choose (.mapNext C.size)).run P w).andThen fun i w1 => (stepM r m since seen clock C[i]?).run P w1).andThen (fun v w1 => (pure (Next.value v) : Sem Next).run P w1) =
    ((choose (.mapNext C.size)).run P w).andThen fun i w1 => endM w1 r m since seen clock C[i]? := by
  simp only [run_choose_drew]
  have key : ∀ (w1 : World) (x : Option (Option MapEntry)), w1.heap = w.heap → ((stepM r m since seen clock x).run P w1).andThen (fun v w1 => (pure (Next.value v) : Sem Next).run P w1) = endM w1 r m since seen clock x := by
    intro w1 x hw
    have hr1 : w1.heap[r]? = some (.mapIter (some m) since seen last) := by rw [hw]; exact hr
    cases x with
    | none => simp [stepM, endM, Result.andThen]
    | some y => cases y with
      | none => simp [stepM, endM]
      | some e => simp [stepM, endM, run_setIter hr1]
  split
  · exact key w _ rfl
  · exact key w.drew _ rfl
theorem good_nextMap (s : Sim P N M ι h w) (g : GI P ι) (t : VRs ι tm a.tmps.toList) {x : Operand} (ox : okOpd P x = true) (hr : ((IOp.nextMap (.of x)).run tm h).All Q)
    {o : Oper} (ho : o.op = .next x false) : Good P N M ι h w Q ((execOp a.eval o).run P w) := by
  have hx := opd_rel g t ox
  simp only [IOp.run] at hr
  simp only [execOp, ho]
  generalize (Opd.of x).eval tm = v at *
  generalize hx' : a.eval x = v' at *
  split at hr
  · rename_i r
    cases hx with
    | ptr hp =>
    rename_i a'
    split at hr
    · rename_i since seen last hg
      obtain ⟨L, h1, h2, h3, m', h4, h5⟩ := s.live r _ hg
      simp only [PR, h1, h3] at hp
      subst hp
      cases m' with
      | some _ => exact h5.elim
      | none =>
      refine good_v s (v' := .tuple #[.bool false]) ?_ hr (.tuple (.cons (.bool _) .nil))
      simp [Instr.next, run_getIter h4]
    · rename_i m since seen last hg
      obtain ⟨L, h1, h2, h3, m', h4, h5⟩ := s.live r _ hg
      simp only [PR, h1, h3] at hp
      subst hp
      cases m' with
      | none => exact h5.elim
      | some m' =>
      simp only [OMR] at h5
      split at hr
      · rename_i es c hgm
        obtain ⟨K, k1, k2, ES, k3, k4⟩ := s.live m _ hgm
        have h5' := h5
        simp only [MR, k1] at h5'
        subst h5'
        split at hr
        · exact hr.elim
        · rename_i hstuck
          have hst : (!seen.toArray.isEmpty && !ES.isEmpty && ES.all (fun e => decide (e.born ≥ last))) = false := by
            rw [← Array.all_toList, ← all_born k4 (fun n => decide (n ≥ last)), show seen.toArray.isEmpty = seen.isEmpty by cases seen <;> rfl, k4.empty]
            simpa using hstuck
          have hleft : ER ι (es.filter fun e => !seen.contains e.born) (ES.filter fun e => !seen.toArray.contains e.born).toList := by
            rw [Array.toList_filter]
            simpa using k4.filter (p := fun n => !seen.contains n)
          have hold : ER ι ((es.filter fun e => !seen.contains e.born).filter fun e => decide (e.born < since)) ((ES.filter fun e => !seen.toArray.contains e.born).filter fun e => decide (e.born < since)).toList := by
            rw [Array.toList_filter]
            exact hleft.filter (p := fun n => decide (n < since))
          have hnew : ER ι ((es.filter fun e => !seen.contains e.born).filter fun e => decide (e.born ≥ since)) ((ES.filter fun e => !seen.toArray.contains e.born).filter fun e => decide (e.born ≥ since)).toList := by
            rw [Array.toList_filter]
            exact hleft.filter (p := fun n => decide (n ≥ since))
          have hex : (do pure (Next.value (← Instr.next (.pointer (some ⟨L.b, 0, none⟩)) false o.type)) : Sem Next).run P w = nextM P w L.b K.b since seen c ((ES.filter fun e => !seen.toArray.contains e.born).filter fun e => decide (e.born < since)) ((ES.filter fun e => !seen.toArray.contains e.born).filter fun e => decide (e.born ≥ since)) := by
            simp only [Instr.next, Sem.run_bind, run_getIter h4, run_getMap k3, Result.andThen_ok, hst, Bool.false_eq_true, if_false, nextM]
            exact next_run _ h4
          simp only [Nat.add_zero] at hex ⊢
          rw [hex]
          exact next_sound s h1 h3 (lt_of_heap h4) h5 hold hnew hr
      · exact hr.elim
    · exact hr.elim
  · exact hr.elim
theorem run_markStringish {b off : Nat} {C : Array Value} {e : TypeId} {fr : Nat × Nat} (hb : w.heap[b]? = some (.cells C e fr)) (hfr : fr.1 = fr.2 ∨ C.size ≤ fr.1) :
    ∃ fr' w', (markStringish ⟨b, off, none⟩).run P w = .ok () w' ∧ Put w b (.cells C e fr') w' ∧ (fr'.1 = fr'.2 ∨ C.size ≤ fr'.1) := by
  have hs : w.shape? b = some (e, C.size) := by simp [World.shape?, hb]
  have hlt := lt_of_heap hb
  obtain ⟨lo, hi⟩ := fr
  refine ⟨if lo == hi then (C.size, C.size + 1) else (min lo C.size, max hi (C.size + 1)), w.freeze ⟨b, C.size, none⟩ 1, ?_, ⟨?_, ?_, ?_, rfl, rfl, rfl⟩, ?_⟩
  · simp [markStringish, shape, Sem.run, hs]
  · simp [World.freeze]
  · intro k hk
    simp only [World.freeze]
    rw [if_neg (by omega), Array.getElem?_modify, if_neg (Ne.symm hk)]
  · simp only [World.freeze]
    rw [if_neg (by omega), Array.getElem?_modify, if_pos rfl, hb]
    rfl
  · simp only at hfr
    split
    · right; exact Nat.le_refl _
    · rename_i hne
      simp only [beq_iff_eq] at hne
      right
      simp only
      omega
theorem good_convBytes (s : Sim P N M ι h w) (g : GI P ι) (t : VRs ι tm a.tmps.toList) {ty e : TypeId} {x : Operand} (h1 : P.underlying ty = some (.slice e)) (h2 : P.underlying e = some (.int .u8)) (ox : okOpd P x = true) (hr : ((IOp.convBytes (.of x)).run tm h).All Q)
    {o : Oper} (ho : o.op = .convert ty ty x) : Good P N M ι h w Q ((execOp a.eval o).run P w) := by
  have hx := opd_rel g t ox
  simp only [IOp.run] at hr
  simp only [execOp, ho]
  generalize (Opd.of x).eval tm = v at *
  generalize hx' : a.eval x = v' at *
  split at hr
  · rename_i ad n c
    cases hx with
    | slice hl hs =>
    rename_i a' c'
    split at hr
    · exact hr.elim
    rename_i hc0
    split at hr
    · rename_i cs z tl hg
      split at hr
      · rename_i h' hp
        obtain ⟨L, g1, g2, g3, C, eC, fr, g4, g5, g6, g7⟩ := s.cells hg
        have hp' := slice_addr hs (Nat.pos_of_ne_zero hc0)
        simp only [PR, g1] at hp'
        subst hp'
        have hb2 := (put_spec hp).1
        obtain ⟨k1, k2, k3⟩ := g7 hb2
        obtain ⟨fr', w', hrun, hput, hfr'⟩ := run_markStringish (P := P) (off := L.off + ad.off) g4 k3
        have hR : Res P N M ι h w ι h' w' := Res.write s hp g1 hput.size hput.other hput.os hput.tape hput.output ⟨g2, g3, C, eC, fr', hput.at_, g5, g6, fun _ => ⟨k1, k2, hfr'⟩⟩
        refine ⟨_, .slice (some ⟨L.b, L.off + ad.off, none⟩) n c', ι, h', w', .inl ?_, hr, .slice hl hs, hR⟩
        simp [convert, run_under h1, run_under h2, hrun]
      · exact hr.elim
    · exact hr.elim
  · exact hr.elim
theorem good_entryMap (s : Sim P N M ι h w) (g : GI P ι) (t : VRs ι tm a.tmps.toList) {x : Operand} (ox : okOpd P x = true) (hr : ((IOp.entryMap (.of x)).run tm h).All Q)
    {o : Oper} (ho : o.op = .entry x) : Good P N M ι h w Q ((execOp a.eval o).run P w) := by
  have hx := opd_rel g t ox
  simp only [IOp.run] at hr
  simp only [execOp, ho]
  generalize (Opd.of x).eval tm = v at *
  generalize hx' : a.eval x = v' at *
  split at hr
  · rename_i r
    cases hx with
    | ptr hp =>
    split at hr
    · rename_i m since seen last hg
      obtain ⟨L, h1, h2, h3, m', h4, h5⟩ := s.live r _ hg
      simp only [PR, h1, h3] at hp
      subst hp
      cases m' with
      | none => exact h5.elim
      | some m' =>
      simp only [OMR] at h5
      split at hr
      · rename_i b es c hb hgm
        obtain ⟨K, k1, k2, ES, k3, k4⟩ := s.live m _ hgm
        have h5' := h5
        simp only [MR, k1] at h5'
        subst h5'
        split at hr
        · rename_i hcl
          split at hr
          · rename_i e he
            obtain ⟨e', g1, g2, g3, _⟩ := k4.find (fun n => n == b) e he
            have g1' : ES.find? (fun e => e.born == b) = some e' := by
              rw [← Array.toArray_toList (xs := ES), List.find?_toArray]; exact g1
            refine good_v s (v' := .tuple #[e'.key, e'.val]) ?_ hr (.tuple (.cons g2 (.cons g3 .nil)))
            have hb' : seen.toArray.back? = some b := by simp [hb]
            simp [Instr.entry, run_getIter h4, run_getMap k3, hb, g1', hcl]
          · exact hr.elim
        · exact hr.elim
      · exact hr.elim
    · exact hr.elim
  · exact hr.elim
end ops
end Go.Ideal
namespace Go.Ideal
open Go Go.RowKit
section ops
variable {P : Program} {N M : Nat} {ι : Ren} {h : Heap} {w : World} {Q : Value × Heap → Prop} {tm : List Value} {a : Act}
theorem bin_good (s : Sim P N M ι h w) (g : GI P ι) (t : VRs ι tm a.tmps.toList) {op : BinOp} {ty ty' : TypeId} {x y : Operand} (ox : okOpd P x = true) (oy : okOpd P y = true) (hr : ((binC P op ty (.of x) (.of y)).run tm h).All Q)
    {o : Oper} (ho : o.op = .binOp op ty x y ty') : Good P N M ι h w Q ((execOp a.eval o).run P w) := by
  by_cases he : op = .eql ∨ op = .neq
  · have hr2 : ∃ neg : Bool, op = (if neg = true then BinOp.neq else .eql) ∧ ((match P.underlying ty with
      | some .bool => IOp.eqBool neg (.of x) (.of y)
      | some (.pointer _) => .eqPtr neg (.of x) (.of y)
      | some (.slice _) => .eqSlice neg (.of x) (.of y)
      | some (.map ..) => .eqMap neg (.of x) (.of y)
      | some (.func ..) => .eqFunc neg (.of x) (.of y)
      | some (.struct _) => match flat? P ty with
        | some n => .eqAgg neg n (.of x) (.of y)
        | none => .bad
      | some (.int _) | some .string => .bin op (.of x) (.of y)
      | _ => .bad).run tm h).All Q := by
      rcases he with e | e
      · subst e; exact ⟨false, rfl, hr⟩
      · subst e; exact ⟨true, rfl, hr⟩
    obtain ⟨neg, hop, hr'⟩ := hr2
    split at hr'
    · rename_i hu; exact good_eqBool s g t ox oy hu hr' (by rw [ho, hop])
    · rename_i hu; exact good_eqPtr s g t ox oy hu hr' (by rw [ho, hop])
    · rename_i hu; exact good_eqSlice s g t ox oy hu hr' (by rw [ho, hop])
    · rename_i hu; exact good_eqMap s g t ox oy hu hr' (by rw [ho, hop])
    · rename_i hu; exact good_eqFunc s g t ox oy hu hr' (by rw [ho, hop])
    · rename_i hu
      split at hr'
      · rename_i n hf; exact good_eqAgg s g t ox oy hf hr' (by rw [ho, hop])
      · exact hr'.elim
    · exact good_bin s g t ox oy hr' ho
    · exact good_bin s g t ox oy hr' ho
    · exact hr'.elim
  · have hr' : ((IOp.bin op (.of x) (.of y)).run tm h).All Q := by
      cases op <;> first | exact hr | exact absurd (.inl rfl) he | exact absurd (.inr rfl) he
    exact good_bin s g t ox oy hr' ho
theorem conv_good (s : Sim P N M ι h w) (g : GI P ι) (t : VRs ι tm a.tmps.toList) (hQ : ∀ p, Q p → p.2.next ≤ M) {src dst : TypeId} {x : Operand} (ox : okOpd P x = true) (hr : ((convC P src dst (.of x)).run tm h).All Q)
    {o : Oper} (ho : o.op = .convert src dst x) : Good P N M ι h w Q ((execOp a.eval o).run P w) := by
  unfold convC at hr
  split at hr
  · rename_i h1 h2; exact good_conv s g t ox h1 h2 hr ho
  · rename_i h1 h2; exact good_convStr s g t ox h1 h2 hr ho
  · rename_i e h1 h2
    split at hr
    · rename_i h3; exact good_strBytes s g t hQ ox h1 h2 h3 hr ho
    · exact hr.elim
  · rename_i e h1 h2
    split at hr
    · rename_i h3; exact good_bytesStr s g t ox h1 h3 h2 hr ho
    · exact hr.elim
  · rename_i e0 e h1 h2
    split at hr
    · rename_i h3 h4
      simp only [beq_iff_eq] at h3
      subst h3
      exact good_convBytes s g t h2 h4 ox hr ho
    · exact hr.elim
  · exact hr.elim
theorem slice_good (s : Sim P N M ι h w) (g : GI P ι) (t : VRs ι tm a.tmps.toList) {ty : TypeId} {x : Operand} {lo hi mx : Option Operand} (ox : okOpd P x = true) (ol : lo.toArray.toList.all (okOpd P) = true) (oh : hi.toArray.toList.all (okOpd P) = true) (om : mx.toArray.toList.all (okOpd P) = true)
    (hr : ((sliceC P ty (.of x) (lo.map .of) (hi.map .of) (mx.map .of)).run tm h).All Q)
    {o : Oper} (ho : o.op = .slice ty x lo hi mx) : Good P N M ι h w Q ((execOp a.eval o).run P w) := by
  unfold sliceC at hr
  split at hr
  · split at hr
    · rename_i he; exact good_sliceArr s g t ox ol oh om he hr ho
    · exact hr.elim
  · rename_i hu
    cases mx with
    | none => exact good_sliceStr s g t ox ol oh hu hr ho
    | some m => exact hr.elim
  · split at hr
    · rename_i he; exact good_slice s g t ox ol oh om he hr ho
    · exact hr.elim
  · exact hr.elim
theorem map_of_two {as : Array Operand} {p q : Opd} (h : as.toList.map Opd.of = [p, q]) : ∃ x y, as.toList = [x, y] ∧ p = .of x ∧ q = .of y := by
  match hl : as.toList with
  | [] => simp [hl] at h
  | [_] => simp [hl] at h
  | [x, y] => simp [hl] at h; exact ⟨x, y, rfl, h.1.symm, h.2.symm⟩
  | _ :: _ :: _ :: _ => simp [hl] at h
theorem map_of_one {as : Array Operand} {p : Opd} (h : as.toList.map Opd.of = [p]) : ∃ x, as.toList = [x] ∧ p = .of x := by
  match hl : as.toList with
  | [] => simp [hl] at h
  | [x] => simp [hl] at h; exact ⟨x, rfl, h.symm⟩
  | _ :: _ :: _ => simp [hl] at h
theorem builtin_good (s : Sim P N M ι h w) (g : GI P ι) (t : VRs ι tm a.tmps.toList) (hQ : ∀ p, Q p → p.2.next ≤ M) {b : Builtin} {ts : Array TypeId} {as : Array Operand} (oa : as.toList.all (okOpd P) = true) (hr : ((builtinC P b ts (as.toList.map .of)).run tm h).All Q)
    {o : Oper} (ho : o.op = .call { callee := .builtin b, args := as, argTypes := ts }) : Good P N M ι h w Q ((execOp a.eval o).run P w) := by
  unfold builtinC at hr
  split at hr
  · rename_i sx xx hl
    obtain ⟨x, y, hxy, rfl, rfl⟩ := map_of_two hl
    rw [hxy] at oa; simp only [List.all_cons, List.all_nil, Bool.and_true, Bool.and_eq_true] at oa
    split at hr
    · rename_i t0 t1 h0 h1
      split at hr
      · rename_i he hu; exact good_append s g t hQ hxy h0 h1 oa.1 oa.2 he hu (by intro k; simp) hr ho
      · rename_i he hu; exact good_append s g t hQ hxy h0 h1 oa.1 oa.2 he hu (by intro k; simp) hr ho
      · exact hr.elim
    · exact hr.elim
  · rename_i sx xx hl
    obtain ⟨x, y, hxy, rfl, rfl⟩ := map_of_two hl
    rw [hxy] at oa; simp only [List.all_cons, List.all_nil, Bool.and_true, Bool.and_eq_true] at oa
    split at hr
    · rename_i z b zero he
      obtain ⟨t0, h0, he⟩ := Option.bind_eq_some_iff.1 he
      exact good_copy s g t hxy h0 oa.1 oa.2 he hr ho
    · exact hr.elim
  · rename_i sx xx hl
    obtain ⟨x, y, hxy, rfl, rfl⟩ := map_of_two hl
    rw [hxy] at oa; simp only [List.all_cons, List.all_nil, Bool.and_true, Bool.and_eq_true] at oa
    split at hr
    · rename_i he
      obtain ⟨t0, h0, he⟩ := Option.bind_eq_some_iff.1 he
      exact good_delete s g t hxy h0 oa.1 oa.2 he hr ho
    · exact hr.elim
  · rename_i xx hl
    obtain ⟨x, hxy, rfl⟩ := map_of_one hl
    rw [hxy] at oa; simp only [List.all_cons, List.all_nil, Bool.and_true] at oa
    split at hr
    · rename_i he; obtain ⟨t0, h0, he⟩ := Option.bind_eq_some_iff.1 he; exact good_lenStr s g t hxy h0 oa he hr ho
    · rename_i he; obtain ⟨t0, h0, he⟩ := Option.bind_eq_some_iff.1 he; exact good_lenSlice s g t hxy h0 oa he hr ho
    · rename_i he; obtain ⟨t0, h0, he⟩ := Option.bind_eq_some_iff.1 he; exact good_lenMap s g t hxy h0 he oa hr ho
    · rename_i he; obtain ⟨t0, h0, he⟩ := Option.bind_eq_some_iff.1 he; exact good_lenArr s hxy h0 he hr ho
    · exact hr.elim
  · exact good_minmax (isMax := false) s g t oa hr ho
  · exact good_minmax (isMax := true) s g t oa hr ho
  · rename_i xx hl
    obtain ⟨x, hxy, rfl⟩ := map_of_one hl
    rw [hxy] at oa; simp only [List.all_cons, List.all_nil, Bool.and_true] at oa
    split at hr
    · rename_i he; obtain ⟨t0, h0, he⟩ := Option.bind_eq_some_iff.1 he; exact good_clear s g t hxy h0 oa he hr ho
    · exact hr.elim
  · exact hr.elim
theorem prim_good (s : Sim P N M ι h w) (g : GI P ι) (t : VRs ι tm a.tmps.toList) (hQ : ∀ p, Q p → p.2.next ≤ M) {o : Oper} (hr : ((opC P o.op).run tm h).All Q) : Good P N M ι h w Q ((execOp a.eval o).run P w) := by
  unfold opC at hr
  split at hr
  · exact hr.elim
  rename_i hops
  simp only [Bool.not_eq_true', Bool.not_eq_false] at hops
  have one : ∀ {x : Operand}, o.op.operands = #[x] → okOpd P x = true := fun e => by rw [e] at hops; simpa using hops
  have two : ∀ {x y : Operand}, o.op.operands = #[x, y] → okOpd P x = true ∧ okOpd P y = true := fun e => by rw [e] at hops; simpa using hops
  have three : ∀ {x y z : Operand}, o.op.operands = #[x, y, z] → okOpd P x = true ∧ okOpd P y = true ∧ okOpd P z = true := fun e => by rw [e] at hops; simpa using hops
  split at hr
  · rename_i ho; exact good_move s g t (one (by rw [ho]; rfl)) hr (.inl ho)
  · rename_i ho; exact good_move s g t (one (by rw [ho]; rfl)) hr (.inr ho)
  · rename_i ho; obtain ⟨o1, o2, o3⟩ := three (by rw [ho]; rfl); exact good_pick s g t o1 o2 o3 hr ho
  · rename_i ho
    split at hr
    · rename_i hz; exact good_allocVar s hQ hz hr ho
    · exact hr.elim
  · rename_i ho; exact good_box s g t hQ (one (by rw [ho]; rfl)) hr ho
  · rename_i ty ps ho
    rw [ho] at hops
    split at hr
    · rename_i v fs hz hu
      split at hr
      · rename_i hc
        simp only [Bool.and_eq_true] at hc
        exact good_buildStruct s g t hops hz hu hc.1 hc.2 hr ho
      · exact hr.elim
    · rename_i v _ _ hz hu
      split at hr
      · rename_i he; exact good_buildArr s g t hops hz he hr ho
      · exact hr.elim
    · exact hr.elim
  · rename_i ty len ps ho
    rw [ho] at hops
    split at hr
    · rename_i he
      split at hr
      · rename_i h24; exact good_buildSlice s g t hQ hops he h24 hr ho
      · exact hr.elim
    · exact hr.elim
  · rename_i ho
    obtain ⟨o1, o2, o3⟩ := three (by rw [ho]; rfl)
    split at hr
    · rename_i hk; exact good_mapUpdate s g t o1 o2 o3 hk hr (.inr ho)
    · exact hr.elim
  · rename_i ho
    obtain ⟨o1, o2, o3⟩ := three (by rw [ho]; rfl)
    split at hr
    · rename_i hk; exact good_mapUpdate s g t o1 o2 o3 hk hr (.inl ho)
    · exact hr.elim
  · rename_i ho
    split at hr
    · rename_i hl; exact good_load s g t (one (by rw [ho]; rfl)) hl hr ho
    · exact hr.elim
  · rename_i ho
    obtain ⟨o1, o2⟩ := two (by rw [ho]; rfl)
    split at hr
    · rename_i hl; exact good_store s g t o1 o2 hl hr ho
    · exact hr.elim
  · rename_i ho; exact good_nilCheck s g t (one (by rw [ho]; rfl)) hr ho
  · rename_i ho
    obtain ⟨o1, o2⟩ := two (by rw [ho]; rfl)
    exact bin_good s g t o1 o2 hr ho
  · rename_i ho; exact good_un s g t (one (by rw [ho]; rfl)) hr ho
  · rename_i ho; exact conv_good s g t hQ (one (by rw [ho]; rfl)) hr ho
  · rename_i ho
    rw [ho] at hops
    simp only [Op.operands, Array.toList_append, List.all_append, Bool.and_eq_true] at hops
    exact good_func s g t hops.1 hops.2 hr ho
  · rename_i ho; exact good_makeMap s hQ (.inl rfl) hr ho
  · rename_i ty k n ho
    split at hr
    · rename_i k' e hu; exact good_makeMap s hQ (.inr ⟨k, n, k', e, rfl, hu⟩) hr ho
    · exact hr.elim
  · rename_i ho
    obtain ⟨o1, o2⟩ := two (by rw [ho]; rfl)
    split at hr
    · rename_i he; exact good_makeSlice s g t hQ o1 o2 he hr ho
    · exact hr.elim
  · rename_i ty x lo hi mx ho
    rw [ho] at hops
    simp only [Op.operands, Array.toList_append, List.all_append, Bool.and_eq_true] at hops
    obtain ⟨⟨⟨h1, h2⟩, h3⟩, h4⟩ := hops
    exact slice_good s g t (by simpa using h1) h2 h3 h4 hr ho
  · rename_i ho
    split at hr
    · rename_i fd hf
      split at hr
      · rename_i n hz; exact good_fieldAddr s g t (one (by rw [ho]; rfl)) hf hz hr ho
      · exact hr.elim
    · exact hr.elim
  · rename_i ho
    split at hr
    · rename_i fd hf
      split at hr
      · rename_i n hz; exact good_field s g t (one (by rw [ho]; rfl)) hf hz hr ho
      · exact hr.elim
    · exact hr.elim
  · rename_i ho
    obtain ⟨o1, o2⟩ := two (by rw [ho]; rfl)
    split at hr
    · split at hr
      · rename_i he; exact good_indexAddr s g t o1 o2 he hr ho
      · exact hr.elim
    · split at hr
      · rename_i he; exact good_indexAddrArr s g t o1 o2 he hr ho
      · exact hr.elim
    · exact hr.elim
  · rename_i ho
    obtain ⟨o1, o2⟩ := two (by rw [ho]; rfl)
    split at hr
    · rename_i hu; exact good_indexStr s g t o1 o2 hu hr ho
    · split at hr
      · rename_i he; exact good_indexAgg s g t o1 o2 he hr ho
      · exact hr.elim
    · exact hr.elim
  · rename_i ho
    obtain ⟨o1, o2⟩ := two (by rw [ho]; rfl)
    split at hr
    · rename_i hk; exact good_lookup s g t o1 o2 hk hr ho
    · exact hr.elim
  · rename_i ho
    obtain ⟨o1, o2⟩ := two (by rw [ho]; rfl)
    split at hr
    · rename_i hk; exact good_mapEntry s g t o1 o2 hk hr ho
    · exact hr.elim
  · rename_i ho
    obtain ⟨o1, o2, o3⟩ := three (by rw [ho]; rfl)
    exact good_entryStore s g t o1 o2 o3 hr ho
  · rename_i ho
    split at hr
    · rename_i hu; exact good_rangeMap s g t hQ hu (one (by rw [ho]; rfl)) hr ho
    · exact hr.elim
  · rename_i ho; exact good_nextMap s g t (one (by rw [ho]; rfl)) hr ho
  · rename_i ho; exact good_entryMap s g t (one (by rw [ho]; rfl)) hr ho
  · rename_i ho; exact good_extract s g t (one (by rw [ho]; rfl)) hr ho
  · rename_i b as ts ho
    rw [ho] at hops
    exact builtin_good s g t hQ (by simpa [Op.operands, Call.operands] using hops) hr ho
  · exact hr.elim
  · exact hr.elim
end ops
end Go.Ideal
