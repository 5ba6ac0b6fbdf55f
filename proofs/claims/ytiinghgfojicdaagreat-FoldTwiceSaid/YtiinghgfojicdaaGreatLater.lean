/- Rows in memory: part Later. No conditions. -/
import Derived.Test.YtiinghgfojicdaaGreatGRow
import Derived.Deep.Quiet
import Derived.BigQuiet
set_option linter.unusedVariables false
set_option linter.unusedSimpArgs false
namespace Go.RowG
open Go.RowKit
variable {P : Program}
/-- A world in which all that lay in w lies. -/
structure Later (w : World) where
  val : World
  ok : Below w.heap.size w val
instance laterThere (w : World) : Nonempty (Later w) := ⟨⟨w, Below.refl _ _⟩⟩
theorem region_later {id : Nat} {Q : Exit → Act → World → Prop} {a : Act} {w : World} {l : List Oper} (hm : P.follows .mixedOrders = true) (hB : Region.lexB .any l.toArray = true)
    (h : wpQuiet P l.toArray (fun w' => ∃ x : Later w, w' = x.val) (fun a' => ∀ w', (∃ x : Later w, w' = x.val) → Q .normal a' w') l a) : (Code.region id l.toArray true).wp P Q a w :=
  wp_region_quiet (C := fun w' => ∃ x : Later w, w' = x.val) hm hB ⟨⟨{ w with drawn := w.drawn + 1 }, (Below.refl _ _).drew⟩, rfl⟩ (by simpa using h)
/-- A callee that leaves all as it was. -/
theorem Calls.later_same {f : FuncId} {args : Array Value} {w : World} {x : Later w} {v : Value} (h : Calls P f args x.val fun e w' => e = .returned v ∧ w' = x.val) : Calls P f args x.val fun e w'' => e = .returned v ∧ ∃ y : Later w, w'' = y.val :=
  h.mono fun _ _ ⟨he, hw⟩ => ⟨he, x, hw⟩
theorem Calls.later_below {f : FuncId} {args : Array Value} {w : World} {x : Later w} {v : Value} (h : Calls P f args x.val fun e w' => e = .returned v ∧ Below x.val.heap.size x.val w') : Calls P f args x.val fun e w'' => e = .returned v ∧ ∃ y : Later w, w'' = y.val :=
  h.mono fun _ w' ⟨he, hb⟩ => ⟨he, ⟨w', x.ok.trans (hb.mono x.ok.size)⟩, rfl⟩
def oneEnd (A : Act) (F : World → Prop) : Exit → Act → World → Prop
  | .normal, a, w => a = A ∧ F w
  | _, _, _ => False
/-- Whatever the order, one end. -/
theorem region_merge {c : Code} {Q : Exit → Act → World → Prop} {a : Act} {w : World} (A : Act) (F : World → Prop) (h : c.wp P (oneEnd A F) a w) (hq : ∀ w', F w' → Q .normal A w') : c.wp P Q a w :=
  Code.wp_mono (fun e a' w' h => by
    cases e <;> simp only [oneEnd] at h
    obtain ⟨h2, h3⟩ := h
    subst h2
    exact hq w' h3) h
end Go.RowG
