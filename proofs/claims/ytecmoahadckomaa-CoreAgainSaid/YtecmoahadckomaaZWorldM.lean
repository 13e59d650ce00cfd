/- Words for memory: worlds (sizes, functions' rows). -/
import Derived.Test.YtecmoahadckomaaZSigMSigL
import Derived.Test.YtecmoahadckomaaZIntsNumBoxes
namespace Go.Proofs.Ytecmoahadckomaa
open Go.RowKit

structure Rw where
  a0 : Int
  a1 : Int
  a2 : Int
  val : Int
def Rw.arg (r : Rw) (i : Nat) : Int := match i with | 0 => r.a0 | 1 => r.a1 | _ => r.a2
structure RwR (r : Rw) : Prop where
  a0 : R64 r.a0
  a1 : R64 r.a1
  a2 : R64 r.a2
  val : R64 r.val
def RwLies (w : World) (b o : Nat) (r : Rw) : Prop :=
  w.cell? ⟨b, o, none⟩ = some (.int .i64 r.a0) ∧ w.cell? ⟨b, o + 1, none⟩ = some (.int .i64 r.a1) ∧ w.cell? ⟨b, o + 2, none⟩ = some (.int .i64 r.a2) ∧ w.cell? ⟨b, o + 3, none⟩ = some (.int .i64 r.val)
theorem RwLies.keep {w w' : World} {b o : Nat} {r : Rw} (h : RwLies w b o r) (hk : ∀ j, w'.cell? ⟨b, j, none⟩ = w.cell? ⟨b, j, none⟩) : RwLies w' b o r := by
  obtain ⟨h0, h1, h2, h3⟩ := h
  exact ⟨(hk _).trans h0, (hk _).trans h1, (hk _).trans h2, (hk _).trans h3⟩
def RwIn (R : Nat → Rw) (w : World) (b o i : Nat) : Prop := RwLies w b o (R i) ∧ RwR (R i)
theorem RwIn.stays (R : Nat → Rw) : Stays (RwIn R) := fun {_ _ b _ _} h hb hw => ⟨h.1.keep fun j => hw.cell (p := ⟨b, j, none⟩) hb, h.2⟩
def RwsAt (w : World) (v : Value) (n : Nat) (R : Nat → Rw) : Prop := RowAt 4 (RwIn R) w v n
theorem RwsAt.below {w w' : World} {v : Value} {n : Nat} {R : Nat → Rw} (h : RwsAt w v n R) (hb : Below w.heap.size w w') : RwsAt w' v n R := RowAt.below (RwIn.stays R) h hb

/-! A function's values. -/
structure Fv where
  nr : Nat
  R : Nat → Rw
  els : Int
def FvIs (w : World) (f : Fv) (v0 v1 : Value) : Prop := RwsAt w v0 f.nr f.R ∧ v1 = .int .i64 f.els ∧ R64 f.els
theorem FvIs.below {w w' : World} {f : Fv} {v0 v1 : Value} (h : FvIs w f v0 v1) (hb : Below w.heap.size w w') : FvIs w' f v0 v1 := ⟨h.1.below hb, h.2⟩
def FvIn (F : Nat → Fv) (w : World) (b o i : Nat) : Prop := ∃ v0 v1, (w.cell? ⟨b, o, none⟩ = some v0 ∧ w.cell? ⟨b, o + 1, none⟩ = some v1) ∧ FvIs w (F i) v0 v1
theorem FvIn.stays (F : Nat → Fv) : Stays (FvIn F) := fun {_ _ b o _} h hb hw => by
  obtain ⟨v0, v1, ⟨c0, c1⟩, hf⟩ := h
  exact ⟨v0, v1, ⟨(hw.cell (p := ⟨b, o, none⟩) hb).trans c0, (hw.cell (p := ⟨b, o + 1, none⟩) hb).trans c1⟩, hf.below hw⟩
def FvsAt (w : World) (v : Value) (n : Nat) (F : Nat → Fv) : Prop := RowAt 2 (FvIn F) w v n
theorem FvsAt.below {w w' : World} {v : Value} {n : Nat} {F : Nat → Fv} (h : FvsAt w v n F) (hb : Below w.heap.size w w') : FvsAt w' v n F := RowAt.below (FvIn.stays F) h hb

/-! Worlds. -/
structure Wd where
  nz : Nat
  Z : Nat → Int
  nf : Nat
  F : Nat → Fv
def WdAt (w : World) (z f : Value) (W : Wd) : Prop := IntsAt w z W.nz W.Z ∧ FvsAt w f W.nf W.F
theorem WdAt.below {w w' : World} {z f : Value} {W : Wd} (h : WdAt w z f W) (hb : Below w.heap.size w w') : WdAt w' z f W := ⟨h.1.below hb, h.2.below hb⟩
theorem WdAt.alloc {w : World} {z f : Value} {W : Wd} (h : WdAt w z f W) (o : Obj) : WdAt (w.alloc o) z f W := h.below ((Below.refl _ _).alloc (Nat.le_refl _) _)
end Go.Proofs.Ytecmoahadckomaa
