/- A region that draws its order, whose operations read and whose calls leave a world of one class: one walk, in the order of the text (Derived.Deep.Quiet's theorem at a class of one's own). No condition. -/
import Derived.Test.YtomlknjpaielgaaBase
import Derived.Deep.QuietTactic
import Derived.BigQuiet
namespace Go.Proofs.Ytomlknjpaielgaa
set_option maxRecDepth 100000

/-- The worlds of which S holds, as the image of a function: the form in which the walk's simp sees through them. -/
theorem class_of (S : World → Prop) (w : World) (h : S w) : ∃ (α : Type) (f : α → World), Nonempty α ∧ (∀ x, S (f x)) ∧ (∀ w', S w' → ∃ x, w' = f x) :=
  ⟨{ w' : World // S w' }, Subtype.val, ⟨⟨w, h⟩⟩, fun x => x.2, fun w' h => ⟨⟨w', h⟩, rfl⟩⟩
theorem wp_region_class {P : Program} {id : Nat} {Q : Exit → Act → World → Prop} {a : Act} {w : World} {l : List Oper} {α : Type} (f : α → World) (hm : P.follows .mixedOrders = true) (hB : Region.lexB .any l.toArray = true) (hC : ∃ x, w.drew = f x)
    (h : wpQuiet P l.toArray (fun w' => ∃ x, w' = f x) (fun a' => ∀ w', (∃ x, w' = f x) → Q .normal a' w') l a) : (Code.region id l.toArray true).wp P Q a w :=
  wp_region_quiet (C := fun w' => ∃ x, w' = f x) hm hB hC (by simpa using h)
end Go.Proofs.Ytomlknjpaielgaa
