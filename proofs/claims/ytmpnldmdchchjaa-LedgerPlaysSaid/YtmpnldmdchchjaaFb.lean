import Derived.Test.YtmpnldmdchchjaaFa
import Derived.RangeFuncRecord
import Derived.RangeFuncLeaves
import Derived.OrdersIn
import Derived.Laws.Append
import Derived.Laws.Cells
import Derived.Below
namespace Go.Ideal
open Go Go.RowKit
structure Loc where
  b : Nat
  off : Nat
  z : Nat
  size : Nat
  slack : Nat
theorem fr_free {fr : Nat × Nat} {n : Nat} (h : fr.1 = fr.2 ∨ n ≤ fr.1) (i : Nat) (hi : i < n) : (decide (fr.1 ≤ i) && decide (i < fr.2)) = false := by
  simp only [Bool.and_eq_false_iff, decide_eq_false_iff_not]
  omega
inductive Stat where
  | unborn
  | dead
  | live (l : Loc)
abbrev Ren := Nat → Stat
def PR (ι : Ren) (b off : Nat) (a' : Addr) : Prop :=
  match ι b with
  | .unborn => False
  | .dead => True
  | .live L => a' = ⟨L.b, L.off + off, none⟩
def MR (ι : Ren) (b r' : Nat) : Prop :=
  match ι b with
  | .unborn => False
  | .dead => True
  | .live L => r' = L.b
def SR (ι : Ren) (a : Addr) (cap : Nat) (a' : Addr) (cap' : Nat) : Prop :=
  match ι a.block with
  | .unborn => False
  | .dead => cap ≤ cap'
  | .live L => (a.spot = none ∨ a.spot = some L.z) ∧ cap' = cap + (if a.spot.isSome = true ∧ a.off + cap * L.z = L.size then L.slack else 0) ∧ (cap' = 0 ∨ a' = ⟨L.b, L.off + a.off, none⟩)
mutual
inductive VR (ι : Ren) : Value → Value → Prop
  | bool (b : Bool) : VR ι (.bool b) (.bool b)
  | int (k : IntKind) (n : Int) : VR ι (.int k n) (.int k n)
  | float (k : FloatKind) (n : Nat) : VR ι (.float k n) (.float k n)
  | complex (k : FloatKind) (n m : Nat) : VR ι (.complex k n m) (.complex k n m)
  | string (s : ByteArray) : VR ι (.string s) (.string s)
  | ptrNil : VR ι (.pointer none) (.pointer none)
  | ptr {b off : Nat} {a' : Addr} (h : PR ι b off a') : VR ι (.pointer (some ⟨b, off, none⟩)) (.pointer (some a'))
  | sliceNil : VR ι (.slice none 0 0) (.slice none 0 0)
  | slice {a : Addr} {len cap : Nat} {a' : Addr} {cap' : Nat} (hl : len ≤ cap) (h : SR ι a cap a' cap') : VR ι (.slice (some a) len cap) (.slice (some a') len cap')
  | mapNil : VR ι (.map none) (.map none)
  | map {b r : Nat} (h : MR ι b r) : VR ι (.map (some b)) (.map (some r))
  | func (f : FuncId) {fs fs' cs cs' : Array Value} (h1 : VRs ι fs.toList fs'.toList) (h2 : VRs ι cs.toList cs'.toList) : VR ι (.func (.func f) fs cs) (.func (.func f) fs' cs')
  | yield {l l' : Nat} (h : MR ι l l') {fs fs' cs cs' : Array Value} (h1 : VRs ι fs.toList fs'.toList) (h2 : VRs ι cs.toList cs'.toList) : VR ι (.func (.yield l) fs cs) (.func (.yield l') fs' cs')
  | nilFunc : VR ι .nilFunc .nilFunc
  | nilIface : VR ι .nilIface .nilIface
  | agg {xs ys : Array Value} (h : VRs ι xs.toList ys.toList) : VR ι (.agg xs) (.agg ys)
  | tuple {xs ys : Array Value} (h : VRs ι xs.toList ys.toList) : VR ι (.tuple xs) (.tuple ys)
inductive VRs (ι : Ren) : List Value → List Value → Prop
  | nil : VRs ι [] []
  | cons {x y : Value} {xs ys : List Value} (h : VR ι x y) (hs : VRs ι xs ys) : VRs ι (x :: xs) (y :: ys)
end
def Ren.le (ι ι' : Ren) : Prop := ∀ b, match ι b with
  | .unborn => True
  | .dead => ι' b = .dead
  | .live L => ι' b = .live L ∨ ι' b = .dead
theorem Ren.le.refl (ι : Ren) : ι.le ι := fun b => by cases h : ι b <;> simp
theorem Ren.le.trans {a b c : Ren} (h : a.le b) (k : b.le c) : a.le c := fun x => by
  have hx := h x
  have kx := k x
  cases ha : a x with
  | unborn => trivial
  | dead => simp only [ha] at hx; simp only [hx] at kx; exact kx
  | live L =>
    simp only [ha] at hx
    rcases hx with hx | hx <;> simp only [hx] at kx
    · exact kx
    · exact .inr kx
theorem PR.mono {ι ι' : Ren} (h : ι.le ι') {b off : Nat} {a' : Addr} (hp : PR ι b off a') : PR ι' b off a' := by
  have hb := h b
  unfold PR at *
  cases hi : ι b <;> simp only [hi] at hp hb
  · rw [hb]; trivial
  · rcases hb with hb | hb <;> rw [hb]
    · exact hp
    · trivial
theorem MR.mono {ι ι' : Ren} (h : ι.le ι') {b r : Nat} (hp : MR ι b r) : MR ι' b r := by
  have hb := h b
  unfold MR at *
  cases hi : ι b <;> simp only [hi] at hp hb
  · rw [hb]; trivial
  · rcases hb with hb | hb <;> rw [hb]
    · exact hp
    · trivial
theorem SR.le {ι : Ren} {a : Addr} {cap : Nat} {a' : Addr} {cap' : Nat} (hp : SR ι a cap a' cap') : cap ≤ cap' := by
  unfold SR at hp
  cases hi : ι a.block <;> simp only [hi] at hp
  · exact hp
  · omega
theorem SR.mono {ι ι' : Ren} (h : ι.le ι') {a : Addr} {cap : Nat} {a' : Addr} {cap' : Nat} (hp : SR ι a cap a' cap') : SR ι' a cap a' cap' := by
  have hb := h a.block
  have hle := hp.le
  unfold SR at *
  cases hi : ι a.block <;> simp only [hi] at hp hb
  · rw [hb]; exact hle
  · rcases hb with hb | hb <;> rw [hb]
    · exact hp
    · exact hle
mutual
theorem VR.mono {ι ι' : Ren} (h : ι.le ι') {v v' : Value} : VR ι v v' → VR ι' v v'
  | .bool b => .bool b
  | .int k n => .int k n
  | .float k n => .float k n
  | .complex k n m => .complex k n m
  | .string s => .string s
  | .ptrNil => .ptrNil
  | .ptr hp => .ptr (hp.mono h)
  | .sliceNil => .sliceNil
  | .slice hl hp => .slice hl (hp.mono h)
  | .mapNil => .mapNil
  | .map hp => .map (hp.mono h)
  | .func f h1 h2 => .func f (VRs.mono h h1) (VRs.mono h h2)
  | .yield hp h1 h2 => .yield (hp.mono h) (VRs.mono h h1) (VRs.mono h h2)
  | .nilFunc => .nilFunc
  | .nilIface => .nilIface
  | .agg hs => .agg (VRs.mono h hs)
  | .tuple hs => .tuple (VRs.mono h hs)
theorem VRs.mono {ι ι' : Ren} (h : ι.le ι') {v v' : List Value} : VRs ι v v' → VRs ι' v v'
  | .nil => .nil
  | .cons h1 h2 => .cons (VR.mono h h1) (VRs.mono h h2)
end
section lists
variable {ι : Ren}
theorem VRs.length : ∀ {xs ys : List Value}, VRs ι xs ys → xs.length = ys.length
  | _, _, .nil => rfl
  | _, _, .cons _ h => by simp [VRs.length h]
theorem VRs.get : ∀ {xs ys : List Value}, VRs ι xs ys → ∀ (i : Nat) (v : Value), xs[i]? = some v → ∃ v', ys[i]? = some v' ∧ VR ι v v'
  | _, _, .nil, i, v, h => by simp at h
  | _, _, .cons (y := y) hv _, 0, v, h => by simp at h; subst h; exact ⟨y, by simp, hv⟩
  | _, _, .cons _ hs, i + 1, v, h => by simp at h ⊢; exact VRs.get hs i v h
theorem VRs.get' : ∀ {xs ys : List Value}, VRs ι xs ys → ∀ (i : Nat) (v : Value), ys[i]? = some v → ∃ v', xs[i]? = some v' ∧ VR ι v' v
  | _, _, .nil, i, v, h => by simp at h
  | _, _, .cons (x := x) hv _, 0, v, h => by simp at h; subst h; exact ⟨x, by simp, hv⟩
  | _, _, .cons _ hs, i + 1, v, h => by simp at h ⊢; exact VRs.get' hs i v h
theorem VRs.of : ∀ {xs ys : List Value}, xs.length = ys.length → (∀ (i : Nat) (v v' : Value), xs[i]? = some v → ys[i]? = some v' → VR ι v v') → VRs ι xs ys
  | [], [], _, _ => .nil
  | x :: xs, y :: ys, hl, h => .cons (h 0 x y rfl rfl) (VRs.of (by simpa using hl) fun i v v' h1 h2 => h (i + 1) v v' (by simpa using h1) (by simpa using h2))
  | [], _ :: _, hl, _ => by simp at hl
  | _ :: _, [], hl, _ => by simp at hl
theorem VRs.getD {xs ys : List Value} (h : VRs ι xs ys) (i : Nat) : VR ι (xs.getD i undefV) (ys.getD i undefV) := by
  cases hx : xs[i]? with
  | none =>
    have hl := h.length
    have hy : ys[i]? = none := by rw [List.getElem?_eq_none_iff] at hx ⊢; omega
    simp [hx, hy]; exact .tuple .nil
  | some v => obtain ⟨v', hy, hv⟩ := h.get i v hx; simp [hx, hy]; exact hv
theorem VRs.set : ∀ {xs ys : List Value}, VRs ι xs ys → ∀ (i : Nat) {v v' : Value}, VR ι v v' → VRs ι (xs.set i v) (ys.set i v')
  | _, _, .nil, _, _, _, _ => .nil
  | _, _, .cons _ hs, 0, _, _, hv => .cons hv hs
  | _, _, .cons h hs, i + 1, _, _, hv => .cons h (VRs.set hs i hv)
theorem VRs.append : ∀ {xs ys xs' ys' : List Value}, VRs ι xs ys → VRs ι xs' ys' → VRs ι (xs ++ xs') (ys ++ ys')
  | _, _, _, _, .nil, h => h
  | _, _, _, _, .cons h hs, h' => .cons h (VRs.append hs h')
theorem VRs.take : ∀ {xs ys : List Value}, VRs ι xs ys → ∀ n, VRs ι (xs.take n) (ys.take n)
  | _, _, .nil, _ => by simp; exact .nil
  | _, _, .cons _ _, 0 => .nil
  | _, _, .cons h hs, n + 1 => .cons h (VRs.take hs n)
theorem VRs.drop : ∀ {xs ys : List Value}, VRs ι xs ys → ∀ n, VRs ι (xs.drop n) (ys.drop n)
  | _, _, .nil, _ => by simp; exact .nil
  | _, _, .cons h hs, 0 => .cons h hs
  | _, _, .cons _ hs, n + 1 => VRs.drop hs n
theorem VRs.replicate (n : Nat) {v v' : Value} (h : VR ι v v') : VRs ι (List.replicate n v) (List.replicate n v') := by
  induction n with
  | zero => exact .nil
  | succ n ih => exact .cons h ih
theorem VRs.setAt : ∀ {vs vs' : List Value}, VRs ι vs vs' → ∀ {xs ys : List Value}, VRs ι xs ys → ∀ i, VRs ι (setAt xs i vs) (setAt ys i vs')
  | _, _, .nil, _, _, h, _ => h
  | _, _, .cons hv hs, _, _, h, i => VRs.setAt hs (h.set i hv) (i + 1)
theorem VRs.map {α : Type} (f g : α → Value) (h : ∀ x, VR ι (f x) (g x)) : ∀ l : List α, VRs ι (l.map f) (l.map g)
  | [] => .nil
  | x :: l => .cons (h x) (VRs.map f g h l)
theorem VRs.flatten_replicate (n : Nat) {xs ys : List Value} (h : VRs ι xs ys) : VRs ι (List.replicate n xs).flatten (List.replicate n ys).flatten := by
  induction n with
  | zero => exact .nil
  | succ n ih => simpa [List.replicate_succ] using VRs.append h ih
end lists
theorem VR.clean {ι : Ren} : ∀ (n : Nat) (v : Value), cleanV n v = true → VR ι v v := by
  intro n
  induction n with
  | zero =>
    intro v h
    cases v <;> first
      | exact .bool _ | exact .int _ _ | exact .string _ | exact .nilFunc | exact .nilIface
      | (rename_i a; cases a <;> first | exact .ptrNil | exact .mapNil | (simp [cleanV] at h; done))
      | (rename_i a n c; cases a <;> first | (cases n <;> cases c <;> first | exact .sliceNil | (simp [cleanV] at h; done)) | (simp [cleanV] at h; done))
      | (simp [cleanV] at h; done)
  | succ m ih =>
    intro v h
    cases v <;> first
      | exact .bool _ | exact .int _ _ | exact .string _ | exact .nilFunc | exact .nilIface
      | (rename_i a; cases a <;> first | exact .ptrNil | exact .mapNil | (simp [cleanV] at h; done))
      | (rename_i a n c; cases a <;> first | (cases n <;> cases c <;> first | exact .sliceNil | (simp [cleanV] at h; done)) | (simp [cleanV] at h; done))
      | skip
    case agg cs =>
      simp only [cleanV, List.all_eq_true] at h
      refine .agg ?_
      generalize cs.toList = l at h
      induction l with
      | nil => exact .nil
      | cons x l ih2 => exact .cons (ih x (h x (by simp))) (ih2 fun c hc => h c (by simp [hc]))
    case func fn fs cs =>
      cases fn <;> first | (simp [cleanV] at h; done) | skip
      simp [cleanV] at h
      obtain ⟨h1, h2⟩ := h
      subst h1; subst h2
      exact .func _ .nil .nil
    all_goals simp [cleanV] at h
inductive ER (ι : Ren) : List Ent → List MapEntry → Prop
  | nil : ER ι [] []
  | cons {e : Ent} {e' : MapEntry} {es : List Ent} {es' : List MapEntry} (hk : VR ι e.key e'.key) (hv : VR ι e.val e'.val) (hb : e.born = e'.born) (hs : ER ι es es') : ER ι (e :: es) (e' :: es')
theorem ER.mono {ι ι' : Ren} (h : ι.le ι') : ∀ {es : List Ent} {es' : List MapEntry}, ER ι es es' → ER ι' es es'
  | _, _, .nil => .nil
  | _, _, .cons hk hv hb hs => .cons (hk.mono h) (hv.mono h) hb (ER.mono h hs)
def jumpOf : IExit → Option Code
  | .normal => none
  | .exit id => some (.exit id)
  | .ret => some .ret
def OMR (ι : Ren) : Option Nat → Option Nat → Prop
  | none, none => True
  | some m, some m' => MR ι m m'
  | _, _ => False
theorem OMR.mono {ι ι' : Ren} (h : ι.le ι') {m m' : Option Nat} (hm : OMR ι m m') : OMR ι' m m' := by
  cases m <;> cases m' <;> simp only [OMR] at *
  exact MR.mono h hm
def OR (P : Program) (ι : Ren) (b : Nat) (o : IObj) (L : Loc) (w : World) : Prop :=
  match o with
  | .cells c z t => L.size = c.length ∧ L.z = z ∧ ∃ C elem fr, w.heap[L.b]? = some (.cells C elem fr) ∧ L.off + L.size ≤ C.size ∧ (∀ (i : Nat) (v : Value), c[i]? = some v → ∃ v', C[L.off + i]? = some v' ∧ VR ι v v') ∧
      (b % 2 = 0 → C.size = L.off + L.size + L.slack * z ∧ (t = false → L.slack = 0) ∧ (fr.1 = fr.2 ∨ C.size ≤ fr.1))
  | .map es clock => b % 2 = 0 ∧ ∃ ES, w.heap[L.b]? = some (.map ES clock) ∧ ER ι es ES.toList
  | .iter m since seen last => b % 2 = 0 ∧ L.off = 0 ∧ ∃ m', w.heap[L.b]? = some (.mapIter m' since seen.toArray last) ∧ OMR ι m m'
  | .loop r => b % 2 = 0 ∧ ∃ R, w.heap[L.b]? = some (.loop R) ∧ R.state = r.state ∧ R.pending = jumpOf r.pending ∧ VRs ι r.tmps R.tmps.toList ∧ R.params.toList = r.params ∧ codeC P R.assign = r.assign ∧ codeC P R.body = r.body ∧ MR ι r.defers R.defers
  | .deferred o => b % 2 = 0 ∧ w.heap[L.b]? = some (.deferred (if o then some [] else none))
theorem OR.mono {P : Program} {ι ι' : Ren} (h : ι.le ι') {b : Nat} {o : IObj} {L : Loc} {w w' : World} (hw : w'.heap[L.b]? = w.heap[L.b]?) (ho : OR P ι b o L w) : OR P ι' b o L w' := by
  cases o with
  | cells c z t =>
    obtain ⟨h1, h2, C, e, fr, h3, h4, h5, h6⟩ := ho
    exact ⟨h1, h2, C, e, fr, hw.trans h3, h4, fun i v hv => let ⟨v', a, b⟩ := h5 i v hv; ⟨v', a, b.mono h⟩, h6⟩
  | map es c => obtain ⟨h0, ES, h1, h2⟩ := ho; exact ⟨h0, ES, hw.trans h1, h2.mono h⟩
  | iter m s se l => obtain ⟨h0, h1, m', h2, h3⟩ := ho; exact ⟨h0, h1, m', hw.trans h2, h3.mono h⟩
  | loop r => obtain ⟨h0, R, h1, h2, h3, h4, h5, h6, h7, h8⟩ := ho; exact ⟨h0, R, hw.trans h1, h2, h3, h4.mono h, h5, h6, h7, h8.mono h⟩
  | deferred o => exact ⟨ho.1, hw.trans ho.2⟩
structure Sim (P : Program) (N M : Nat) (ι : Ren) (h : Heap) (w : World) : Prop where
  live : ∀ b o, h.get b = some o → ∃ L, ι b = .live L ∧ OR P ι b o L w
  unborn : ∀ k, h.next ≤ k → k < M → ι (2 * k) = .unborn
  own : ∀ b L, b % 2 = 0 → ι b = .live L → N ≤ L.b ∧ L.b < w.heap.size
  ro : ∀ b L, b % 2 = 1 → ι b = .live L → L.b < N
  inj : ∀ b c L K, b % 2 = 0 → c % 2 = 0 → b ≠ c → ι b = .live L → ι c = .live K → L.b ≠ K.b
  size : N ≤ w.heap.size
  hid : ∀ p ∈ h.hid, p.2 ≤ h.next
def Heap.can (h : Heap) (b : Nat) : Prop := b % 2 = 0 ∧ (h.floor ≤ b / 2 ∨ b / 2 ∈ h.may) ∧ (h.get b).isSome = true
structure Res (P : Program) (N M : Nat) (ι : Ren) (h : Heap) (w : World) (ι' : Ren) (h' : Heap) (w' : World) : Prop where
  sim : Sim P N M ι' h' w'
  le : ι.le ι'
  next : h.next ≤ h'.next
  floor : h'.floor = h.floor
  may : h'.may = h.may
  seen : ∀ b, (h'.get b).isSome = true → (∀ k, h.next ≤ k → k < h'.next → b ≠ 2 * k) → (h.get b).isSome = true
  same : ∀ b, (∀ k, h.next ≤ k → k < h'.next → b ≠ 2 * k) → ι' b = ι b ∨ (h.can b ∧ ι' b = .dead ∧ ∃ L, ι b = .live L)
  frame : ∀ k, k < w.heap.size → (∀ b L, h.can b → ι b = .live L → L.b ≠ k) → w'.heap[k]? = w.heap[k]?
  fresh : ∀ k L, h.next ≤ k → k < h'.next → ι' (2 * k) = .live L → w.heap.size ≤ L.b ∨ ∃ b K, h.can b ∧ ι b = .live K ∧ K.b = L.b
  grow : w.heap.size ≤ w'.heap.size
  os : w'.os = w.os
  tape : w'.tape = w.tape
  output : w'.output = w.output
theorem Res.refl {P : Program} {N M : Nat} {ι : Ren} {h : Heap} {w : World} (s : Sim P N M ι h w) : Res P N M ι h w ι h w :=
  ⟨s, .refl _, Nat.le_refl _, rfl, rfl, fun _ h _ => h, fun _ _ => .inl rfl, fun _ _ _ => rfl, fun k L h1 h2 => by omega, Nat.le_refl _, rfl, rfl, rfl⟩
theorem Res.trans {P : Program} {N M : Nat} {ι ι1 ι2 : Ren} {h h1 h2 : Heap} {w w1 w2 : World} (a : Res P N M ι h w ι1 h1 w1) (b : Res P N M ι1 h1 w1 ι2 h2 w2) : Res P N M ι h w ι2 h2 w2 := by
  -- a living block of ι1 at or above the floor is one of ι, or new
  have can : ∀ x, h1.can x → (∀ k, h.next ≤ k → k < h1.next → x ≠ 2 * k) → h.can x := by
    rintro x ⟨c1, c2, c3⟩ hx
    rw [a.floor, a.may] at c2
    exact ⟨c1, c2, a.seen x c3 hx⟩
  have back : ∀ x L, h1.can x → ι1 x = .live L → w.heap.size ≤ L.b ∨ ∃ y K, h.can y ∧ ι y = .live K ∧ K.b = L.b := by
    intro x L hc hl
    by_cases hn : ∃ k, h.next ≤ k ∧ k < h1.next ∧ x = 2 * k
    · obtain ⟨k, k1, k2, rfl⟩ := hn
      exact a.fresh k L k1 k2 hl
    · have hno : ∀ k, h.next ≤ k → k < h1.next → x ≠ 2 * k := fun k k1 k2 hx => hn ⟨k, k1, k2, hx⟩
      rcases a.same x hno with hs | ⟨_, hd, _⟩
      · exact .inr ⟨x, L, can x hc hno, hs ▸ hl, rfl⟩
      · rw [hd] at hl; cases hl
  refine ⟨b.sim, a.le.trans b.le, Nat.le_trans a.next b.next, b.floor.trans a.floor, b.may.trans a.may, fun x hx hn => a.seen x (b.seen x hx fun k k1 k2 => hn k (Nat.le_trans a.next k1) k2) fun k k1 k2 => hn k k1 (Nat.lt_of_lt_of_le k2 b.next), ?_, ?_, ?_, Nat.le_trans a.grow b.grow, b.os.trans a.os, b.tape.trans a.tape, b.output.trans a.output⟩
  · intro x hx
    have hx1 := a.same x (fun k k1 k2 => hx k k1 (Nat.lt_of_lt_of_le k2 b.next))
    have hx2 := b.same x (fun k k1 k2 => hx k (Nat.le_trans a.next k1) k2)
    rcases hx1 with e1 | ⟨p1, p3, p4⟩
    · rcases hx2 with e2 | ⟨q1, q3, q4⟩
      · exact .inl (e2.trans e1)
      · exact .inr ⟨can x q1 fun k k1 k2 => hx k k1 (Nat.lt_of_lt_of_le k2 b.next), q3, e1 ▸ q4⟩
    · have hl := b.le x
      simp only [p3] at hl
      exact .inr ⟨p1, hl, p4⟩
  · intro k hk hno
    rw [b.frame k (Nat.lt_of_lt_of_le hk a.grow), a.frame k hk hno]
    intro x L hc hl hLk
    rcases back x L hc hl with hb | ⟨y, K, y1, y3, y4⟩
    · omega
    · exact hno y K y1 y3 (y4.trans hLk)
  · intro k L k1 k2 hl
    by_cases hk : k < h1.next
    · -- born in the first step; still alive: as it was
      have hs := b.le (2 * k)
      cases h1k : ι1 (2 * k) with
      | unborn =>
        have := b.same (2 * k) (fun j j1 j2 hj => by omega)
        rcases this with e | ⟨_, e, _⟩
        · rw [h1k] at e; rw [e] at hl; cases hl
        · rw [e] at hl; cases hl
      | dead => simp only [h1k] at hs; rw [hs] at hl; cases hl
      | live L1 =>
        simp only [h1k] at hs
        rcases hs with e | e
        · rw [e] at hl
          cases hl
          exact a.fresh k L k1 hk h1k
        · rw [e] at hl; cases hl
    · rcases b.fresh k L (by omega) k2 hl with hb | ⟨x, K, x1, x3, x4⟩
      · exact .inl (Nat.le_trans a.grow hb)
      · rcases back x K x1 x3 with hb | ⟨y, K', y1, y3, y4⟩
        · exact .inl (x4 ▸ hb)
        · exact .inr ⟨y, K', y1, y3, y4.trans x4⟩
theorem Res.below {P : Program} {N M : Nat} {ι ι' : Ren} {h h' : Heap} {w w' : World} (r : Res P N M ι h w ι' h' w') (s : Sim P N M ι h w) : Below N w w' :=
  ⟨r.os, r.tape, r.output, r.grow, fun k hk => r.frame k (Nat.lt_of_lt_of_le hk s.size) fun b L hc hl hb => by have := (s.own b L hc.1 hl).1; omega⟩
end Go.Ideal
namespace Go.Ideal
open Go Go.RowKit
theorem look_upd (l : List (Nat × Option IObj)) (n : Nat) (o : Option IObj) (k : Nat) : look (upd l n o) k = if k = n then o else look l k := by
  induction l with
  | nil => simp only [upd, look]; by_cases h : n = k <;> simp [h, eq_comm]
  | cons p l ih =>
    obtain ⟨m, x⟩ := p
    simp only [upd]
    split
    · rename_i e; subst e; simp only [look]; by_cases h : k = m <;> simp [h, eq_comm]
    · rename_i e
      simp only [look, ih]
      by_cases h : m = k
      · subst h; simp [e]
      · simp [h]
theorem hides_false {l : List (Nat × Nat)} {n k : Nat} (h : ∀ p ∈ l, p.2 ≤ n) (hk : n ≤ k) : hides l k = false := by
  simp only [hides, List.any_eq_false, Bool.and_eq_true, decide_eq_true_eq, not_and, Nat.not_lt]
  exact fun p hp _ => Nat.le_trans (h p hp) hk
theorem get_alloc {h : Heap} (o : IObj) (hh : ∀ p ∈ h.hid, p.2 ≤ h.next) (b : Nat) : (h.alloc o).get b = if b = 2 * h.next then some o else h.get b := by
  unfold Heap.get Heap.alloc
  by_cases hb : b % 2 = 1
  · have : b ≠ 2 * h.next := by omega
    simp [hb, this]
  · simp only [hb, if_false, Heap.own]
    by_cases hn : b = 2 * h.next
    · have : b / 2 = h.next := by omega
      simp [hn, look, hides_false hh (Nat.le_refl _)]
    · have : ¬ h.next = b / 2 := by omega
      simp [hn, look, this]
theorem put_spec {h h' : Heap} {b : Nat} {o : Option IObj} (hp : h.put b o = some h') :
    b % 2 = 0 ∧ h.can b ∧ (h.get b).isSome = true ∧ h' = { h with mem := upd h.mem (b / 2) o } := by
  unfold Heap.put at hp
  split at hp
  · rename_i hc
    cases hp
    have hs : (h.get b).isSome = true := by
      simp only [Heap.get]
      rw [if_neg (by omega)]
      exact hc.2.2
    exact ⟨hc.1, ⟨hc.1, hc.2.1, hs⟩, hs, rfl⟩
  · cases hp
theorem get_put {h h' : Heap} {b : Nat} {o : Option IObj} (hp : h.put b o = some h') (x : Nat) : h'.get x = if x = b then o else h.get x := by
  obtain ⟨h1, _, h3, rfl⟩ := put_spec hp
  unfold Heap.get at *
  by_cases hx : x % 2 = 1
  · have : x ≠ b := by omega
    simp [hx, this]
  · simp only [hx, if_false, Heap.own, look_upd]
    rw [if_neg (by omega)] at h3
    by_cases hn : x = b
    · subst hn
      simp only [if_true, Heap.own] at h3 ⊢
      split at h3
      · simp at h3
      · rename_i hh; simp [hh]
    · have : ¬ x / 2 = b / 2 := by omega
      simp [hn, this]
theorem put_seen {h h' : Heap} {b : Nat} {o : Option IObj} (hp : h.put b o = some h') (x : Nat) (hx : (h'.get x).isSome = true) (_ : ∀ k, h.next ≤ k → k < h'.next → x ≠ 2 * k) : (h.get x).isSome = true := by
  rw [get_put hp] at hx
  split at hx
  · rename_i e; subst e; exact (put_spec hp).2.2.1
  · exact hx
def Ren.put (ι : Ren) (b : Nat) (s : Stat) : Ren := fun x => if x = b then s else ι x
theorem Ren.put_same (ι : Ren) (b : Nat) (s : Stat) : ι.put b s b = s := by simp [Ren.put]
theorem Ren.put_other (ι : Ren) {b x : Nat} (s : Stat) (h : x ≠ b) : ι.put b s x = ι x := by simp [Ren.put, h]
theorem Ren.le_born {ι : Ren} {b : Nat} {s : Stat} (h : ι b = .unborn) : ι.le (ι.put b s) := fun x => by
  by_cases hx : x = b
  · subst hx; simp [h]
  · rw [Ren.put_other _ _ hx]; cases ι x <;> simp
theorem Ren.le_dies {ι : Ren} {b : Nat} {L : Loc} (h : ι b = .live L) : ι.le (ι.put b .dead) := fun x => by
  by_cases hx : x = b
  · subst hx; simp [h, Ren.put]
  · rw [Ren.put_other _ _ hx]; cases ι x <;> simp
section
variable {P : Program} {N M : Nat} {ι : Ren} {h : Heap} {w : World}
theorem Sim.ofHeap {w' : World} (s : Sim P N M ι h w) (hw : w'.heap = w.heap) : Sim P N M ι h w' :=
  ⟨fun b o hb => let ⟨L, h1, h2⟩ := s.live b o hb; ⟨L, h1, h2.mono (.refl _) (by rw [hw])⟩, s.unborn, fun b L h1 h2 => by rw [hw]; exact s.own b L h1 h2, s.ro, s.inj, by rw [hw]; exact s.size, s.hid⟩
theorem Res.drew (s : Sim P N M ι h w) (n : Nat) : Res P N M ι h w ι h { w with drawn := n } :=
  ⟨s.ofHeap rfl, .refl _, Nat.le_refl _, rfl, rfl, fun _ h _ => h, fun _ _ => .inl rfl, fun _ _ _ => rfl, fun k L h1 h2 => by omega, Nat.le_refl _, rfl, rfl, rfl⟩
theorem Res.alloc (s : Sim P N M ι h w) (hM : h.next < M) {o : IObj} {O : Obj} {L : Loc} (hL : L.b = w.heap.size)
    (ho : OR P (ι.put (2 * h.next) (.live L)) (2 * h.next) o L (w.alloc O)) :
    Res P N M ι h w (ι.put (2 * h.next) (.live L)) (h.alloc o) (w.alloc O) := by
  have hu := s.unborn h.next (Nat.le_refl _) hM
  have hle : ι.le (ι.put (2 * h.next) (.live L)) := Ren.le_born hu
  have hne : ∀ b K, ι b = .live K → b ≠ 2 * h.next := fun b K hb e => by rw [e, hu] at hb; cases hb
  have hold : ∀ k, k < w.heap.size → (w.alloc O).heap[k]? = w.heap[k]? := fun k hk => Below.heap_alloc w O k hk
  have hsz : (w.alloc O).heap.size = w.heap.size + 1 := by simp
  refine ⟨⟨?_, ?_, ?_, ?_, ?_, ?_, ?_⟩, hle, by simp [Heap.alloc], rfl, rfl, fun b hb hn => ?_, ?_, ?_, ?_, by omega, rfl, rfl, rfl⟩
  · intro b o' hb
    rw [get_alloc o s.hid] at hb
    split at hb
    · rename_i e; cases hb; subst e; exact ⟨L, Ren.put_same _ _ _, ho⟩
    · rename_i e
      obtain ⟨K, h1, h2⟩ := s.live b o' hb
      refine ⟨K, by rw [Ren.put_other _ _ e]; exact h1, h2.mono hle (hold _ ?_)⟩
      by_cases hb2 : b % 2 = 0
      · exact (s.own b K hb2 h1).2
      · exact Nat.lt_of_lt_of_le (s.ro b K (by omega) h1) s.size
  · intro k h1 h2
    have : h.next + 1 ≤ k := h1
    rw [Ren.put_other _ _ (by omega)]
    exact s.unborn k (by omega) h2
  · intro b K hb hl
    rw [hsz]
    by_cases e : b = 2 * h.next
    · subst e; rw [Ren.put_same] at hl; cases hl; have := s.size; omega
    · rw [Ren.put_other _ _ e] at hl; have := s.own b K hb hl; omega
  · intro b K hb hl
    rw [Ren.put_other _ _ (by omega)] at hl; exact s.ro b K hb hl
  · intro b c K J hb hc hbc h1 h2
    by_cases e : b = 2 * h.next
    · subst e
      rw [Ren.put_same] at h1; cases h1
      rw [Ren.put_other _ _ (Ne.symm hbc)] at h2
      have := s.own c J hc h2; omega
    · rw [Ren.put_other _ _ e] at h1
      by_cases e' : c = 2 * h.next
      · subst e'; rw [Ren.put_same] at h2; cases h2
        have := s.own b K hb h1; omega
      · rw [Ren.put_other _ _ e'] at h2; exact s.inj b c K J hb hc hbc h1 h2
  · rw [hsz]; have := s.size; omega
  · intro p hp; have := s.hid p hp; simp [Heap.alloc]; omega
  · rw [get_alloc o s.hid, if_neg (hn h.next (Nat.le_refl _) (by simp [Heap.alloc]))] at hb
    exact hb
  · intro b hb
    refine .inl (Ren.put_other _ _ (hb h.next (Nat.le_refl _) (by simp [Heap.alloc])))
  · exact fun k hk _ => hold k hk
  · intro k K h1 h2 hl
    have : k = h.next := by simp [Heap.alloc] at h2; omega
    subst this
    rw [Ren.put_same] at hl; cases hl
    exact .inl (by omega)
theorem Res.write (s : Sim P N M ι h w) {b : Nat} {o : IObj} {h' : Heap} (hp : h.put b (some o) = some h') {L : Loc} (hl : ι b = .live L) {w' : World}
    (hsz : w'.heap.size = w.heap.size) (hot : ∀ k, k ≠ L.b → w'.heap[k]? = w.heap[k]?) (hos : w'.os = w.os) (htp : w'.tape = w.tape) (hou : w'.output = w.output)
    (ho : OR P ι b o L w') : Res P N M ι h w ι h' w' := by
  obtain ⟨hb, hf, _, hh⟩ := put_spec hp
  have hg := get_put hp
  have hnx : h'.next = h.next := by rw [hh]
  have hfl : h'.floor = h.floor := by rw [hh]
  have hhd : h'.hid = h.hid := by rw [hh]
  refine ⟨⟨?_, by rw [hnx]; exact s.unborn, by rw [hsz]; exact s.own, s.ro, s.inj, by rw [hsz]; exact s.size, by rw [hhd, hnx]; exact s.hid⟩, .refl _, by omega, hfl, by rw [hh], put_seen hp, fun _ _ => .inl rfl, ?_, fun k K h1 h2 => by omega, by omega, hos, htp, hou⟩
  · intro x o' hx
    rw [hg] at hx
    split at hx
    · rename_i e; cases hx; subst e; exact ⟨L, hl, ho⟩
    · rename_i e
      obtain ⟨K, h1, h2⟩ := s.live x o' hx
      refine ⟨K, h1, h2.mono (.refl _) (hot _ ?_)⟩
      by_cases hx2 : x % 2 = 0
      · exact s.inj x b K L hx2 hb e h1 hl
      · have := s.ro x K (by omega) h1; have := (s.own b L hb hl).1; omega
  · intro k hk hno
    exact hot k fun e => hno b L hf hl e.symm
theorem Res.kill (s : Sim P N M ι h w) {b : Nat} {h' : Heap} (hp : h.put b none = some h') {L : Loc} (hl : ι b = .live L) : Res P N M ι h w (ι.put b .dead) h' w := by
  obtain ⟨hb, hf, _, hh⟩ := put_spec hp
  have hg := get_put hp
  have hnx : h'.next = h.next := by rw [hh]
  have hfl : h'.floor = h.floor := by rw [hh]
  have hhd : h'.hid = h.hid := by rw [hh]
  have hle : ι.le (ι.put b .dead) := Ren.le_dies hl
  have hne : ∀ x K, (ι.put b .dead) x = .live K → x ≠ b ∧ ι x = .live K := fun x K hx => by
    by_cases e : x = b
    · subst e; rw [Ren.put_same] at hx; cases hx
    · rw [Ren.put_other _ _ e] at hx; exact ⟨e, hx⟩
  refine ⟨⟨?_, ?_, ?_, ?_, ?_, s.size, by rw [hhd, hnx]; exact s.hid⟩, hle, by omega, hfl, by rw [hh], put_seen hp, ?_, fun _ _ _ => rfl, fun k K h1 h2 => by omega, Nat.le_refl _, rfl, rfl, rfl⟩
  · intro x o' hx
    rw [hg] at hx
    split at hx
    · cases hx
    · rename_i e
      obtain ⟨K, h1, h2⟩ := s.live x o' hx
      exact ⟨K, by rw [Ren.put_other _ _ e]; exact h1, h2.mono hle rfl⟩
  · intro k h1 h2
    rw [hnx] at h1
    have hu := s.unborn k h1 h2
    rw [Ren.put_other]
    · exact hu
    · intro e; rw [e, hl] at hu; cases hu
  · exact fun x K hx h1 => s.own x K hx (hne x K h1).2
  · exact fun x K hx h1 => s.ro x K hx (hne x K h1).2
  · exact fun x c K J hx hc hxc h1 h2 => s.inj x c K J hx hc hxc (hne x K h1).2 (hne c J h2).2
  · intro x hx
    by_cases e : x = b
    · subst e; exact .inr ⟨hf, Ren.put_same _ _ _, L, hl⟩
    · exact .inl (Ren.put_other _ _ e)
theorem Res.reuse (s : Sim P N M ι h w) (hM : h.next < M) {b : Nat} {h' : Heap} (hp : h.put b none = some h') {L : Loc} (hl : ι b = .live L) {o : IObj} {K : Loc} (hK : K.b = L.b) {w' : World}
    (hsz : w'.heap.size = w.heap.size) (hot : ∀ k, k ≠ L.b → w'.heap[k]? = w.heap[k]?) (hos : w'.os = w.os) (htp : w'.tape = w.tape) (hou : w'.output = w.output)
    (ho : OR P ((ι.put b .dead).put (2 * h.next) (.live K)) (2 * h.next) o K w') :
    Res P N M ι h w ((ι.put b .dead).put (2 * h.next) (.live K)) (h'.alloc o) w' := by
  have r := Res.kill s hp hl
  obtain ⟨hb, hf, _, hh⟩ := put_spec hp
  have hnx : h'.next = h.next := by rw [hh]
  have hfl : h'.floor = h.floor := by rw [hh]
  have hu1 := s.unborn h.next (Nat.le_refl _) hM
  have hbn : b ≠ 2 * h.next := fun e => by rw [e, hu1] at hl; cases hl
  have hu : (ι.put b .dead) (2 * h.next) = .unborn := by rw [Ren.put_other _ _ (Ne.symm hbn)]; exact hu1
  have hle2 : (ι.put b .dead).le ((ι.put b .dead).put (2 * h.next) (.live K)) := Ren.le_born hu
  have hle : ι.le ((ι.put b .dead).put (2 * h.next) (.live K)) := r.le.trans hle2
  have hown := s.own b L hb hl
  -- who lives
  have hlive : ∀ x J, ((ι.put b .dead).put (2 * h.next) (.live K)) x = .live J → (x = 2 * h.next ∧ J = K) ∨ (x ≠ 2 * h.next ∧ x ≠ b ∧ ι x = .live J) := fun x J hx => by
    by_cases e : x = 2 * h.next
    · subst e; rw [Ren.put_same] at hx; cases hx; exact .inl ⟨rfl, rfl⟩
    · rw [Ren.put_other _ _ e] at hx
      by_cases e' : x = b
      · subst e'; rw [Ren.put_same] at hx; cases hx
      · rw [Ren.put_other _ _ e'] at hx; exact .inr ⟨e, e', hx⟩
  have hga := get_alloc (h := h') o r.sim.hid
  rw [hnx] at hga
  refine ⟨⟨?_, ?_, ?_, ?_, ?_, by rw [hsz]; exact s.size, ?_⟩, hle, by simp [Heap.alloc]; omega, by rw [← hfl]; rfl, by show h'.may = _; rw [hh], fun x hx hn => ?_, ?_, ?_, ?_, by omega, hos, htp, hou⟩
  · intro x o' hx
    rw [hga] at hx
    split at hx
    · rename_i e; cases hx; subst e; exact ⟨K, Ren.put_same _ _ _, ho⟩
    · rename_i e
      obtain ⟨J, h1, h2⟩ := r.sim.live x o' hx
      refine ⟨J, by rw [Ren.put_other _ _ e]; exact h1, h2.mono hle2 (hot _ ?_)⟩
      have hxb : x ≠ b := fun e' => by subst e'; rw [Ren.put_same] at h1; cases h1
      rw [Ren.put_other _ _ hxb] at h1
      by_cases hx2 : x % 2 = 0
      · exact s.inj x b J L hx2 hb hxb h1 hl
      · have := s.ro x J (by omega) h1; omega
  · intro k h1 h2
    have : h'.next + 1 ≤ k := h1
    rw [Ren.put_other _ _ (by omega)]
    exact r.sim.unborn k (by omega) h2
  · intro x J hx h1
    rw [hsz]
    rcases hlive x J h1 with ⟨_, rfl⟩ | ⟨_, _, h2⟩
    · rw [hK]; exact hown
    · exact s.own x J hx h2
  · intro x J hx h1
    rcases hlive x J h1 with ⟨e, rfl⟩ | ⟨_, _, h2⟩
    · omega
    · exact s.ro x J hx h2
  · intro x c J I hx hc hxc h1 h2
    rcases hlive x J h1 with ⟨e, rfl⟩ | ⟨e, e', g1⟩ <;> rcases hlive c I h2 with ⟨d, rfl⟩ | ⟨d, d', g2⟩
    · omega
    · rw [hK]; exact s.inj b c L I hb hc (Ne.symm d') hl g2
    · rw [hK]; exact s.inj x b J L hx hb e' g1 hl
    · exact s.inj x c J I hx hc hxc g1 g2
  · intro p hp2; have := r.sim.hid p hp2; simp [Heap.alloc]; omega
  · rw [hga, if_neg (hn h.next (Nat.le_refl _) (by simp [Heap.alloc]; omega))] at hx
    exact put_seen hp x hx fun k k1 k2 => by omega
  · intro x hx
    have e : x ≠ 2 * h.next := hx h.next (Nat.le_refl _) (by simp [Heap.alloc]; omega)
    rw [Ren.put_other _ _ e]
    by_cases e' : x = b
    · subst e'; exact .inr ⟨hf, Ren.put_same _ _ _, L, hl⟩
    · exact .inl (Ren.put_other _ _ e')
  · intro k hk hno
    exact hot k fun e => hno b L hf hl e.symm
  · intro k J h1 h2 h3
    have : k = h.next := by simp [Heap.alloc] at h2; omega
    subst this
    rw [Ren.put_same] at h3; cases h3
    exact .inr ⟨b, L, hf, hl, hK.symm⟩
end
end Go.Ideal
namespace Go.Ideal
open Go Go.RowKit
section
variable {P : Program} {w : World}
theorem run_under {t : TypeId} {d : TypeDesc} (h : P.underlying t = some d) : (underlying t).run P w = .ok d w := by
  simp [underlying, h]
theorem run_size {t : TypeId} {n : Nat} (h : sz P t = some n) : (sizeOf t).run P w = .ok n w := by
  unfold sz at h
  cases hi : P.info? t with
  | none => simp [hi] at h
  | some i => simp [hi] at h; simp [sizeOf, typeInfo, hi, h]
theorem run_bytes {t : TypeId} {n : Nat} (h : bytesOf? P t = some n) : ∃ i, (typeInfo t).run P w = .ok i w ∧ i.bytes = n := by
  unfold bytesOf? at h
  cases hi : P.info? t with
  | none => simp [hi] at h
  | some i => simp [hi] at h; exact ⟨i, by simp [typeInfo, hi], h⟩
theorem run_zero {t : TypeId} {v : Value} (h : zero? P t = some v) : (zeroValue t).run P w = .ok v w ∧ cleanV 8 v = true := by
  unfold zero? at h
  cases hi : P.info? t with
  | none => simp [hi] at h
  | some i =>
    cases hz : i.zero with
    | none => simp [hi, hz] at h
    | some z =>
      simp [hi, hz] at h
      obtain ⟨h1, rfl⟩ := h
      exact ⟨by simp [zeroValue, typeInfo, hi, hz], h1⟩
theorem run_isAgg? {t : TypeId} {b : Bool} (h : isAgg? P t = some b) : (isAgg t).run P w = .ok b w := by
  unfold isAgg? at h
  cases hu : P.underlying t with
  | none => simp [hu] at h
  | some d =>
    simp only [isAgg, Sem.run_bind, run_under hu, Result.andThen_ok]
    rw [hu] at h
    cases d <;> simp_all
theorem ld_spec {t : TypeId} {m : Option Nat} (h : ld P t = some m) : ∃ n, sz P t = some n ∧ ((m = some n ∧ isAgg? P t = some true) ∨ (m = none ∧ isAgg? P t = some false)) := by
  unfold ld at h
  split at h
  · rename_i n h1 h2; cases h; exact ⟨n, h2, .inl ⟨rfl, h1⟩⟩
  · rename_i n h1 h2; cases h; exact ⟨n, h2, .inr ⟨rfl, h1⟩⟩
  · cases h
end
theorem Addr.add_mk (b off n : Nat) : (⟨b, off, none⟩ : Addr).add n = ⟨b, off + n, none⟩ := by
  unfold Addr.add; split
  · rename_i e; subst e; rfl
  · rfl
structure Put (w : World) (b : Nat) (o : Obj) (w' : World) : Prop where
  size : w'.heap.size = w.heap.size
  other : ∀ k, k ≠ b → w'.heap[k]? = w.heap[k]?
  at_ : w'.heap[b]? = some o
  os : w'.os = w.os
  tape : w'.tape = w.tape
  output : w'.output = w.output
theorem Put.refl {w : World} {b : Nat} {o : Obj} (h : w.heap[b]? = some o) : Put w b o w := ⟨rfl, fun _ _ => rfl, h, rfl, rfl, rfl⟩
theorem Put.trans {w w1 w2 : World} {b : Nat} {o o' : Obj} (h : Put w b o w1) (k : Put w1 b o' w2) : Put w b o' w2 :=
  ⟨k.size.trans h.size, fun x hx => (k.other x hx).trans (h.other x hx), k.at_, k.os.trans h.os, k.tape.trans h.tape, k.output.trans h.output⟩
theorem Put.setIn {w : World} {b : Nat} (o : Obj) (h : b < w.heap.size) : Put w b o { w with heap := w.heap.setIfInBounds b o } :=
  ⟨by simp, fun k hk => by simp [Array.getElem?_setIfInBounds_ne (Ne.symm hk)], by simp [h], rfl, rfl, rfl⟩
theorem lt_of_heap {w : World} {b : Nat} {o : Obj} (h : w.heap[b]? = some o) : b < w.heap.size := (Array.getElem?_eq_some_iff.1 h).1
theorem Put.setCell {w : World} {b off : Nat} {C : Array Value} {e : TypeId} {fr : Nat × Nat} (v : Value) (h : w.heap[b]? = some (.cells C e fr)) :
    Put w b (.cells (C.setIfInBounds off v) e fr) (w.setCell ⟨b, off, none⟩ v) := by
  have hb := lt_of_heap h
  refine ⟨by simp [World.setCell], fun k hk => ?_, ?_, rfl, rfl, rfl⟩
  · simp only [World.setCell, Array.getElem?_modify]
    rw [if_neg (Ne.symm hk)]
  · simp [World.setCell, Array.getElem?_modify, h]
theorem setAt_length : ∀ (vs c : List Value) (i : Nat), (setAt c i vs).length = c.length
  | [], _, _ => rfl
  | v :: vs, c, i => by simp [setAt, setAt_length vs]
theorem run_storeCells_put {P : Program} {b : Nat} {e : TypeId} {fr : Nat × Nat} : ∀ (vs C : List Value) (off i0 : Nat) (w : World), w.heap[b]? = some (.cells C.toArray e fr) → off + i0 + vs.length ≤ C.length → (∀ v ∈ vs, v.oneCell' = true) →
    (∀ i, off + i0 ≤ i → i < C.length → (decide (fr.1 ≤ i) && decide (i < fr.2)) = false) →
    ∃ w', (storeCells ⟨b, off, none⟩ vs i0).run P w = .ok () w' ∧ Put w b (.cells (setAt C (off + i0) vs).toArray e fr) w' := by
  intro vs
  induction vs with
  | nil => intro C off i0 w h _ _ _; exact ⟨w, by simp [storeCells], .refl h⟩
  | cons v vs ih =>
    intro C off i0 w h hl hv hf
    simp only [List.length_cons] at hl
    have hc : w.cell? ⟨b, off + i0, none⟩ = some (C[off + i0]'(by omega)) := by
      simp only [World.cell?, h]
      simp [show off + i0 < C.length by omega]
    have hfz : w.frozen? ⟨b, off + i0, none⟩ = false := by
      simp only [World.frozen?, h]
      exact hf (off + i0) (Nat.le_refl _) (by omega)
    have hst : (store (⟨b, off + i0, none⟩ : Addr) v).run P w = .ok () (w.setCell ⟨b, off + i0, none⟩ v) := by
      rw [run_store P w _ v .plain (hv v (by simp)), hc, hfz]; simp
    have hp := Put.setCell (off := off + i0) v h
    have h1 : (w.setCell ⟨b, off + i0, none⟩ v).heap[b]? = some (.cells (C.set (off + i0) v).toArray e fr) := by
      rw [hp.at_]; simp
    obtain ⟨w', hr, hp'⟩ := ih (C.set (off + i0) v) off (i0 + 1) _ h1 (by simp; omega) (fun u hu => hv u (by simp [hu])) (fun i hi hi2 => hf i (by omega) (by simpa using hi2))
    refine ⟨w', ?_, ?_⟩
    · simp only [storeCells, Addr.add_mk, Sem.run_bind, hst, Result.andThen_ok]
      exact hr
    · exact hp.trans hp'
theorem VR.oneCell {ι : Ren} {v v' : Value} (h : VR ι v v') : v'.oneCell' = oneCell v := by cases h <;> rfl
theorem VRs.oneCells {ι : Ren} : ∀ {xs ys : List Value}, VRs ι xs ys → xs.all oneCell = true → ∀ v ∈ ys, v.oneCell' = true
  | _, _, .nil, _, v, hv => by simp at hv
  | _, _, .cons h hs, ha, v, hv => by
    simp only [List.all_cons, Bool.and_eq_true] at ha
    rcases List.mem_cons.1 hv with e | e
    · subst e; rw [h.oneCell]; exact ha.1
    · exact VRs.oneCells hs ha.2 v e
theorem VR.cellsOf {ι : Ren} {v v' : Value} (h : VR ι v v') : VRs ι (cellsOf v) v'.cells.toList := by
  cases h with
  | agg h => exact h
  | bool b => exact .cons (.bool b) .nil
  | int k n => exact .cons (.int k n) .nil
  | float k n => exact .cons (.float k n) .nil
  | complex k n m => exact .cons (.complex k n m) .nil
  | string s => exact .cons (.string s) .nil
  | ptrNil => exact .cons .ptrNil .nil
  | ptr h => exact .cons (.ptr h) .nil
  | sliceNil => exact .cons .sliceNil .nil
  | slice hl h => exact .cons (.slice hl h) .nil
  | mapNil => exact .cons .mapNil .nil
  | map h => exact .cons (.map h) .nil
  | func f h1 h2 => exact .cons (.func f h1 h2) .nil
  | yield h h1 h2 => exact .cons (.yield h h1 h2) .nil
  | nilFunc => exact .cons .nilFunc .nil
  | nilIface => exact .cons .nilIface .nil
  | tuple h => exact .cons (.tuple h) .nil
section mem
variable {P : Program} {N M : Nat} {ι : Ren} {h : Heap} {w : World}
theorem Sim.cells (s : Sim P N M ι h w) {b : Nat} {c : List Value} {z : Nat} {t : Bool} (hg : h.get b = some (.cells c z t)) :
    ∃ L, ι b = .live L ∧ L.size = c.length ∧ L.z = z ∧ ∃ C e fr, w.heap[L.b]? = some (.cells C e fr) ∧ L.off + L.size ≤ C.size ∧ (∀ (i : Nat) (v : Value), c[i]? = some v → ∃ v', C[L.off + i]? = some v' ∧ VR ι v v') ∧
      (b % 2 = 0 → C.size = L.off + L.size + L.slack * z ∧ (t = false → L.slack = 0) ∧ (fr.1 = fr.2 ∨ C.size ≤ fr.1)) := by
  obtain ⟨L, h1, h2⟩ := s.live b _ hg
  obtain ⟨a1, a2, C, e, fr, a3, a4, a5, a6⟩ := h2
  exact ⟨L, h1, a1, a2, C, e, fr, a3, a4, a5, a6⟩
theorem readN_spec {c : List Value} {off n : Nat} {cs : List Value} (h : readN c off n = some cs) : off + n ≤ c.length ∧ cs = (c.drop off).take n := by
  unfold readN at h; split at h
  · cases h; exact ⟨by assumption, rfl⟩
  · cases h
theorem Sim.read (s : Sim P N M ι h w) {b off n : Nat} {cs : List Value} {a' : Addr} (hr : h.read ⟨b, off, none⟩ n = some cs) (hp : PR ι b off a') :
    ∃ cs' : List Value, (loadCells a' n).run P w = .ok cs'.toArray w ∧ VRs ι cs cs' ∧ ∀ (j : Nat) (v : Value), cs'[j]? = some v → w.cell? (a'.add j) = some v := by
  unfold Heap.read at hr
  split at hr
  · rename_i c z t hg
    simp only [Option.isNone_none, if_true] at hr
    obtain ⟨hb, rfl⟩ := readN_spec hr
    obtain ⟨L, h1, h2, h3, C, e, fr, h4, h5, h6, _⟩ := s.cells hg
    unfold PR at hp
    rw [h1] at hp
    subst hp
    have key : ∀ j, j < n → ∃ v v', c[off + j]? = some v ∧ C[L.off + (off + j)]? = some v' ∧ VR ι v v' := fun j hj => by
      have hlt : off + j < c.length := by omega
      obtain ⟨v', e1, e2⟩ := h6 (off + j) c[off + j] (by simp [hlt])
      exact ⟨_, v', by simp [hlt], e1, e2⟩
    have hC : L.off + off + n ≤ C.size := by omega
    have hcell : ∀ (j : Nat) (v : Value), ((C.toList.drop (L.off + off)).take n)[j]? = some v → w.cell? ((⟨L.b, L.off + off, none⟩ : Addr).add j) = some v := by
      intro j v e1
      have hj : j < n := by
        have := (List.getElem?_eq_some_iff.1 e1).1
        simp at this; omega
      rw [List.getElem?_take_of_lt hj, List.getElem?_drop] at e1
      rw [Addr.add_mk]
      simp only [World.cell?, h4]
      simpa using e1
    refine ⟨(C.toList.drop (L.off + off)).take n, ?_, ?_, hcell⟩
    · have hlen : ((C.toList.drop (L.off + off)).take n).length = n := by simp; omega
      have := run_loadCells_list (P := P) w ⟨L.b, L.off + off, none⟩ ((C.toList.drop (L.off + off)).take n) hcell
      rwa [hlen] at this
    · refine VRs.of (by simp; omega) fun i v v' e1 e2 => ?_
      have hi : i < n := by
        have := (List.getElem?_eq_some_iff.1 e1).1
        simp at this; omega
      obtain ⟨x, x', k1, k2, k3⟩ := key i hi
      rw [List.getElem?_take_of_lt hi, List.getElem?_drop] at e1 e2
      rw [k1] at e1; cases e1
      rw [Nat.add_assoc] at e2
      have : C.toList[L.off + (off + i)]? = some x' := by simpa using k2
      rw [this] at e2; cases e2
      exact k3
  · cases hr
theorem setAt_get : ∀ (vs c : List Value) (i j : Nat), i + vs.length ≤ c.length → (setAt c i vs)[j]? = if i ≤ j ∧ j < i + vs.length then vs[j - i]? else c[j]?
  | [], c, i, j, _ => by simp [setAt]; intro h1 h2; omega
  | v :: vs, c, i, j, h => by
    simp only [List.length_cons] at h
    simp only [setAt]
    rw [setAt_get vs (c.set i v) (i + 1) j (by simp; omega)]
    by_cases hj : j = i
    · subst hj
      rw [if_neg (by omega), if_pos (by simp)]
      simp [show j < c.length by omega]
    · by_cases hlt : i + 1 ≤ j ∧ j < i + 1 + vs.length
      · rw [if_pos hlt, if_pos (by simp; omega)]
        rw [show j - i = (j - (i + 1)) + 1 by omega]
        simp
      · rw [if_neg hlt, if_neg (by simp; omega)]
        rw [List.getElem?_set_ne (Ne.symm hj)]
theorem Sim.write (s : Sim P N M ι h w) {b off : Nat} {vs vs' : List Value} {a' : Addr} {h' : Heap} (hr : h.write ⟨b, off, none⟩ vs = some h') (hp : PR ι b off a') (hv : VRs ι vs vs') :
    ∃ w', (storeCells a' vs').run P w = .ok () w' ∧ Res P N M ι h w ι h' w' := by
  unfold Heap.write at hr
  split at hr
  · rename_i c z t hg
    simp only [Option.isNone_none, true_and] at hr
    split at hr
    · rename_i hc
      obtain ⟨hb, hone⟩ := hc
      obtain ⟨L, h1, h2, h3, C, e, fr, h4, h5, h6, h7⟩ := s.cells hg
      unfold PR at hp
      rw [h1] at hp
      subst hp
      have hb2 := (put_spec hr).1
      obtain ⟨k1, k2, k3⟩ := h7 hb2
      have hvl := hv.length
      obtain ⟨w', hrun, hput⟩ := run_storeCells_put (P := P) (b := L.b) (e := e) (fr := fr) vs' C.toList (L.off + off) 0 w (by simpa using h4) (by simp; omega) (hv.oneCells hone) (fun i _ hi2 => fr_free k3 i (by simpa using hi2))
      refine ⟨w', hrun, Res.write s hr h1 hput.size hput.other hput.os hput.tape hput.output ?_⟩
      refine ⟨by rw [setAt_length]; exact h2, h3, (setAt C.toList (L.off + off + 0) vs').toArray, e, fr, hput.at_, by simp [setAt_length]; exact h5, ?_, fun _ => ⟨by simp [setAt_length]; exact k1, k2, by simpa [setAt_length] using k3⟩⟩
      intro i v hi
      rw [setAt_get _ _ _ _ hb] at hi
      have hset := setAt_get vs' C.toList (L.off + off + 0) (L.off + i) (by simp; omega)
      simp only [List.getElem?_toArray]
      split at hi
      · rename_i hlt
        rw [if_pos (by omega)] at hset
        obtain ⟨v', q1, q2⟩ := hv.get _ _ hi
        refine ⟨v', ?_, q2⟩
        rw [hset, show L.off + i - (L.off + off + 0) = i - off by omega]
        exact q1
      · rename_i hlt
        rw [if_neg (by omega)] at hset
        obtain ⟨v', q1, q2⟩ := h6 i v hi
        exact ⟨v', by rw [hset]; simpa using q1, q2⟩
    · cases hr
  · cases hr
theorem byte_extract_list (s : ByteArray) (n : Nat) : ((s.extract 0 n).data.map fun b => (Value.int .u8 b.toNat : Value)).toList = (s.data.toList.take n).map fun b => Value.int .u8 b.toNat := by
  simp [ByteArray.data_extract]
theorem Sim.firstN (s : Sim P N M ι h w) {z n : Nat} {x x' : Value} {cs : List Value} (hx : VR ι x x') (hr : firstN h z n x = some cs) (hn : ∀ a len cap, x = .slice a len cap → n ≤ len) :
    ∃ cs', (Builtin.firstCells z n x').run P w = .ok cs' w ∧ VRs ι cs cs'.toList := by
  cases hx with
  | sliceNil => simp only [Ideal.firstN] at hr; cases hr; exact ⟨#[], by simp [Builtin.firstCells], .nil⟩
  | string t =>
    simp only [Ideal.firstN] at hr
    split at hr
    all_goals cases hr
    refine ⟨(t.extract 0 n).data.map fun b => .int .u8 b.toNat, by simp only [Builtin.firstCells, Sem.run_pure], ?_⟩
    rw [byte_extract_list]
    exact VRs.map _ _ (fun _ => .int _ _) _
  | slice hl hs =>
    rename_i a len cap a' cap'
    simp only [Ideal.firstN] at hr
    have hn' := hn _ _ _ rfl
    by_cases h0 : n * z = 0
    · rw [if_pos h0] at hr
      cases hr
      exact ⟨#[], by simp [Builtin.firstCells, h0, loadCells, loadCellsFrom], .nil⟩
    · rw [if_neg h0] at hr
      have hnz : n ≠ 0 := fun e => h0 (by simp [e])
      have hp : PR ι a.block a.off a' := by
        unfold SR at hs; unfold PR
        cases hi : ι a.block with
        | unborn => simp only [hi] at hs
        | dead => trivial
        | live L =>
          simp only [hi] at hs
          obtain ⟨_, h1, h2⟩ := hs
          rcases h2 with h2 | h2
          · omega
          · exact h2
      obtain ⟨cs', h1, h2, _⟩ := s.read hr hp
      exact ⟨cs'.toArray, by simpa [Builtin.firstCells] using h1, by simpa using h2⟩
  | _ => simp only [Ideal.firstN] at hr; cases hr
end mem
def GI (P : Program) (ι : Ren) : Prop := ∀ g, g < P.globals.size → PR ι (2 * g + 1) 0 ⟨g, 0, none⟩
theorem GI.step {P : Program} {N M : Nat} {ι ι' : Ren} {h h' : Heap} {w w' : World} (r : Res P N M ι h w ι' h' w') (g : GI P ι) : GI P ι' := fun x hx => (g x hx).mono r.le
def Good (P : Program) (N M : Nat) (ι : Ren) (h : Heap) (w : World) (Q : Value × Heap → Prop) (r : Result Next) : Prop :=
  ∃ v v' ι' h' w', (r = .ok (.value v') w' ∨ (r = .ok .skip w' ∧ v' = undef)) ∧ Q (v, h') ∧ VR ι' v v' ∧ Res P N M ι h w ι' h' w'
section ops
variable {P : Program} {N M : Nat} {ι : Ren} {h : Heap} {w : World} {Q : Value × Heap → Prop} {tm : List Value} {a : Act}
theorem Good.same (s : Sim P N M ι h w) {v v' : Value} (hQ : Q (v, h)) (hv : VR ι v v') : Good P N M ι h w Q (.ok (.value v') w) :=
  ⟨v, v', ι, h, w, .inl rfl, hQ, hv, .refl s⟩
theorem VR.undefV (ι : Ren) : VR ι undefV undef := .tuple .nil
theorem opd_rel (g : GI P ι) (t : VRs ι tm a.tmps.toList) {x : Operand} (hx : okOpd P x = true) : VR ι ((Opd.of x).eval tm) (a.eval x) := by
  cases x with
  | tmp i =>
    simp only [Opd.of, Opd.eval, Act.eval]
    have := t.getD i
    rw [show a.tmps.getD i undef = a.tmps.toList.getD i undef by simp [Array.getD_eq_getD_getElem?, List.getD]]
    exact this
  | const v => simp only [okOpd] at hx; exact VR.clean _ _ hx
  | global i =>
    simp only [okOpd, decide_eq_true_eq] at hx
    simp only [Opd.of, Opd.eval, Act.eval]
    exact .ptr (g i hx)
  | func f => exact .func f .nil .nil
theorem opds_rel (g : GI P ι) (t : VRs ι tm a.tmps.toList) : ∀ {xs : List Operand}, xs.all (okOpd P) = true → VRs ι ((xs.map Opd.of).map (Opd.eval tm)) (xs.map a.eval)
  | [], _ => .nil
  | x :: xs, hx => by
    simp only [List.all_cons, Bool.and_eq_true] at hx
    exact .cons (opd_rel g t hx.1) (opds_rel g t hx.2)
theorem good_v {sem : Sem Value} {v v' : Value} (s : Sim P N M ι h w) (hr : sem.run P w = .ok v' w) (hQ : Q (v, h)) (hv : VR ι v v') : Good P N M ι h w Q ((do pure (Next.value (← sem)) : Sem Next).run P w) := by
  simp only [Sem.run_bind, hr, Result.andThen_ok, Sem.run_pure]
  exact .same s hQ hv
theorem All_ofOpt {α : Type} {R : α → Prop} {o : Option α} (h : (T.ofOpt o).All R) : ∃ x, o = some x ∧ R x := by
  cases o with
  | none => exact h.elim
  | some x => exact ⟨x, rfl, h⟩
theorem good_pick (s : Sim P N M ι h w) (g : GI P ι) (t : VRs ι tm a.tmps.toList) {c x y : Operand} (oc : okOpd P c = true) (ox : okOpd P x = true) (oy : okOpd P y = true) (hr : ((IOp.pick (.of c) (.of x) (.of y)).run tm h).All Q)
    {o : Oper} (ho : o.op = .pick c x y) : Good P N M ι h w Q ((execOp a.eval o).run P w) := by
  have hc := opd_rel g t oc
  have hx := opd_rel g t ox
  have hy := opd_rel g t oy
  simp only [IOp.run] at hr
  simp only [execOp, ho]
  generalize (Opd.of c).eval tm = vc at *
  generalize (Opd.of x).eval tm = vx at *
  generalize (Opd.of y).eval tm = vy at *
  generalize a.eval c = vc' at *
  cases hc with
  | bool b =>
    simp only [T.All] at hr
    simp only [Sem.run_bind, asBool, Sem.run_pure, Result.andThen_ok]
    exact .same s hr (by cases b <;> assumption)
  | _ => exact hr.elim
theorem good_move (s : Sim P N M ι h w) (g : GI P ι) (t : VRs ι tm a.tmps.toList) {x : Operand} (ox : okOpd P x = true) (hr : ((IOp.move (.of x)).run tm h).All Q)
    {o : Oper} (ho : o.op = .move x ∨ o.op = .assign x) : Good P N M ι h w Q ((execOp a.eval o).run P w) := by
  have hx := opd_rel g t ox
  simp only [IOp.run, T.All] at hr
  rcases ho with ho | ho <;> simp only [execOp, ho, Sem.run_pure] <;> exact .same s hr hx
theorem good_nilCheck (s : Sim P N M ι h w) (g : GI P ι) (t : VRs ι tm a.tmps.toList) {x : Operand} (ox : okOpd P x = true) (hr : ((IOp.nilCheck (.of x)).run tm h).All Q)
    {o : Oper} (ho : o.op = .nilCheck x) : Good P N M ι h w Q ((execOp a.eval o).run P w) := by
  have hx := opd_rel g t ox
  simp only [IOp.run] at hr
  simp only [execOp, ho]
  generalize (Opd.of x).eval tm = v at *
  generalize a.eval x = v' at *
  cases hx with
  | ptr hp => exact .same s hr (.ptr hp)
  | func f h1 h2 => exact .same s hr (.func f h1 h2)
  | yield hm h1 h2 => exact .same s hr (.yield hm h1 h2)
  | _ => exact hr.elim
end ops
end Go.Ideal
