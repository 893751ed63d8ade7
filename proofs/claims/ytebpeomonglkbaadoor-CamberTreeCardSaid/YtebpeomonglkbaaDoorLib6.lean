/-
  A region that draws its order, whose operations only read and whose callees keep a class of worlds: walked once, in the order of the text.
  In my templates 'go_class C0, h with (tac)' (tools/pre.py writes it out): C0 : World → Prop, h : C0 at the world behind the draw. Facts on cells lie as '∀ s : Cls C0, s.w.cell? .. = some ..'.
  At a call 'tac' must close 'Calls P f args s.w fun e w'' => e = .returned ?v ∧ ∃ s', w'' = s'.w' (s inaccessible: rename_i s). Behind it: a world 'cs.w', cs : Cls C0.
-/
import Derived.Test.YtebpeomonglkbaaDoorLib5
import Derived.BigQuiet
namespace Go.RowKit
open Go
structure Cls (C0 : World → Prop) where
  w : World
  h : C0 w
theorem wp_region_class {P : Program} {id : Nat} {Q : Exit → Act → World → Prop} {a : Act} {w : World} {l : List Oper} (C0 : World → Prop) (hC : C0 w.drew) (hm : P.follows .mixedOrders = true) (hB : Region.lexB .any l.toArray = true)
    (h : wpQuiet P l.toArray (fun w' => ∃ s : Cls C0, w' = s.w) (fun a' => ∀ w', (∃ s : Cls C0, w' = s.w) → Q .normal a' w') l a) : (Code.region id l.toArray true).wp P Q a w :=
  wp_region_quiet (C := fun w' => ∃ s : Cls C0, w' = s.w) hm hB ⟨⟨_, hC⟩, rfl⟩ (by simpa using h)
end Go.RowKit
