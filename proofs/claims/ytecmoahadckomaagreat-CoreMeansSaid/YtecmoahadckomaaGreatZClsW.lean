/- A region that draws its order and holds calls that make memory, walked once in the text's order over a class of worlds. -/
import Derived.BigQuiet
import Derived.Test.YtecmoahadckomaaGreatZIntsToNumW
namespace Go.Proofs.YtecmoahadckomaaGreat
open Go.RowKit
set_option maxRecDepth 100000

/-- A region that draws its order and holds calls that make memory: one walk of the text's order, in a class of worlds. -/
theorem region_cls {P : Program} {id : Nat} {Q : Exit → Act → World → Prop} {a : Act} {w : World} {l : List Oper} (C : World → Prop) (hm : P.follows .mixedOrders = true) (hB : Region.lexB .any l.toArray = true) (hC : C w.drew)
    (h : wpQuiet P l.toArray C (fun a' => ∀ w', C w' → Q .normal a' w') l a) : (Code.region id l.toArray true).wp P Q a w :=
  wp_region_quiet (C := C) hm hB hC (by simpa using h)

theorem quiet_of {P : Program} {o : Oper} {a : Act} {C : World → Prop} {K : Act → Prop} {v : Value} (h : ∀ x, C x → o.quietAt P a C x v) (hk : K (a.put o.dst v)) : o.quiet P a C K := ⟨v, h, hk⟩
end Go.Proofs.YtecmoahadckomaaGreat
