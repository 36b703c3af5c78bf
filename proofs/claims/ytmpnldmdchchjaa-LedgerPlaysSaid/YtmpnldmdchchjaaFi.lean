import Derived.Test.YtmpnldmdchchjaaFh
import Derived.LaidMore
import Derived.Lay
import Derived.SevenTiedAt
namespace Go.Ideal
open Go Go.RowKit Go.ChangeShapes
noncomputable def up1 : Value → Value
  | .pointer (some a) => .pointer (some ⟨2 * a.block + 1, a.off, none⟩)
  | .slice (some a) l c => .slice (some ⟨2 * a.block + 1, a.off, none⟩) l c
  | v => v
noncomputable def ok1 : Value → Bool
  | .bool _ | .int _ _ | .float _ _ | .complex _ _ _ | .string _ | .pointer none | .nilFunc | .nilIface | .map none | .slice none 0 0 => true
  | .pointer (some a) => a.spot.isNone
  | .slice (some a) l c => a.spot.isNone && decide (l ≤ c)
  | _ => false
noncomputable def up : Value → Value
  | .agg cs => .agg (cs.map up1)
  | v => up1 v
noncomputable def roW (W : World) (b : Nat) : Option (List Value × Nat) :=
  match W.heap[b]? with
  | some (.cells C _ _) => if C.toList.all ok1 then some (C.toList.map up1, 1) else none
  | _ => none
section
variable {P : Program} {W : World}
end
end Go.Ideal
namespace Go.Ideal
open Go Go.RowKit Go.ChangeShapes
theorem mapM_some {α β : Type} {f : α → Option β} : ∀ {l : List α} {r : List β}, l.mapM f = some r → r.length = l.length ∧ ∀ (i : Nat) (x : α), l[i]? = some x → ∃ y, r[i]? = some y ∧ f x = some y
  | [], r, h => by simp at h; subst h; exact ⟨rfl, fun i x hx => by simp at hx⟩
  | a :: l, r, h => by
    simp only [List.mapM_cons, Option.bind_eq_bind, Option.bind_eq_some_iff, Option.pure_def, Option.some.injEq] at h
    obtain ⟨b, hb, bs, hbs, rfl⟩ := h
    obtain ⟨h1, h2⟩ := mapM_some hbs
    refine ⟨by simp [h1], fun i x hx => ?_⟩
    cases i with
    | zero => simp at hx; subst hx; exact ⟨b, by simp, hb⟩
    | succ i => simp at hx ⊢; exact h2 i x hx
section
variable {P : Program} {H : Type} {enc : TypeId × Value → H} {W : World}
end
end Go.Ideal
