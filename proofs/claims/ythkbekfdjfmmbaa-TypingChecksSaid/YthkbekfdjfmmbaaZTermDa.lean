/- Tables behind new blocks. -/
import Derived.Test.YthkbekfdjfmmbaaZTermC
namespace Go.Proofs.Ythkbekfdjfmmbaa
open Go.RowKit

theorem NdsAt.alloc {w : World} {v : Value} {n : Nat} {N : Nat → Nd} (h : NdsAt w v n N) (o : Obj) : NdsAt (w.alloc o) v n N := h.below ((Below.refl _ _).alloc (Nat.le_refl _) _)
theorem NdsAt.drewN {w : World} {v : Value} {n : Nat} {N : Nat → Nd} (h : NdsAt w v n N) (d : Nat) : NdsAt (w.drewN d) v n N := h.keep (Nat.le_refl _) fun _ _ => rfl
theorem NdsAt.alloc2 {w : World} {v : Value} {n : Nat} {N : Nat → Nd} (h : NdsAt w v n N) (o o' : Obj) : NdsAt ((w.alloc o).alloc o') v n N := (h.alloc o).alloc o'
theorem below_two {w w2 : World} {o o' : Obj} (hb : Below ((w.alloc o).alloc o').heap.size ((w.alloc o).alloc o') w2) : Below w.heap.size w w2 :=
  (((Below.refl _ _).alloc (Nat.le_refl _) _).alloc (by simp) _).trans (hb.mono (by simp; omega))
end Go.Proofs.Ythkbekfdjfmmbaa
