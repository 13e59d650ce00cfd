/- sig.Check's closure: is a name fresh? -/
import Derived.Test.YthkbekfdjfmmbaaSigB
namespace Go.Proofs.Ythkbekfdjfmmbaa
open Go.RowKit
open Go.ChangeMaps (setBlock)
set_option maxRecDepth 100000

def frB (S : ByteArray × Bool → Bool) (s : ByteArray) (b : Bool) : Bool := useS s && !S (s, b) && (b || !coreS s)
def addN (S : ByteArray × Bool → Bool) (i : ByteArray × Bool) (j : ByteArray × Bool) : Bool := decide (j = i) || S j
def NamesAt (w : World) (mb n : Nat) (S : ByteArray × Bool → Bool) : Prop := SetAt 82 nmL okN w mb n S
/-- Whatever boxes were there, but for the map's block, are there. -/
def KeepsB (mb : Nat) (w w' : World) : Prop := ∀ w0 K, Bx w0 K w → w0.heap.size ≤ mb → (∀ a ∈ K, a.1 ≠ mb) → Bx w0 K w'
def FreshP (S : ByteArray × Bool → Bool) (s : ByteArray) (b : Bool) (mb n : Nat) (w : World) (e : Ending) (w' : World) : Prop :=
  e = .returned (.bool (frB S s b)) ∧ NamesAt w' mb (n + 1) (addN S (s, b)) ∧ KeepsB mb w w'
theorem fresh_of (S : ByteArray × Bool → Bool) (s : ByteArray) (b : Bool) (mb sb n : Nat) (w : World) (hs : StrR s) (h : NamesAt w mb n S) (hn : n < maxLen) (c0 : w.cell? ⟨sb, 0, none⟩ = some (.map (some mb))) (hsb : sb < w.heap.size) :
    Calls Try.prog 45 #[.string s, .bool b, .pointer (some ⟨sb, 0, none⟩)] w (FreshP S s b mb n w) := by
  have h1 : NamesAt (w.alloc (.cells #[.string s, .bool b] 82)) mb n S := h.alloc _
  have hlk := h1.look nameK (i := (s, b)) hs
  unfold nameV at hlk
  simp only at hlk
  have h1' := Lib.hid h1
  have hfr : Hid (frB S s b = (useS s && !S (s, b) && (b || !coreS s))) := rfl
  have hlt := h.lt
  have hx0 : Hid (KeepsB mb w (w.alloc (.cells #[.string s, .bool b] 82))) := fun w0 K hx _ _ => hx.skip _
  have hSd : ∀ j, j ≠ (s, b) → addN S (s, b) j = S j := fun j hj => by unfold addN; rw [decide_eq_false hj]; rfl
  have hS1 : addN S (s, b) (s, b) = true := by unfold addN; simp
  have hSd' := Lib.hid hSd
  have hS1' := Lib.hid hS1
  clear h1 h hSd hS1
  have c1 : (w.alloc (.cells #[.string s, .bool b] 82)).cell? ⟨sb, 0, none⟩ = some (.map (some mb)) := by rw [World.cell?_alloc_lt _ _ _ hsb]; exact c0
  clear c0
  generalize hsn : S (s, b) = sn at *
  clear hsn
  cases hu : useS s with
  | false =>
    have hF : Hid (frB S s b = false) := by unfold Hid; rw [hfr.out, hu]; rfl
    go_enter Try.func45, Try.ntmps45
    go_wp2_with (first | (go_at_call 36; (with_reducible refine (usable_any _ _ hs).mono ?_); rintro e w2 ⟨rfl, rfl⟩) | (go_at_call 38; (with_reducible refine (Core_any _ _).mono ?_); rintro e w2 ⟨rfl, rfl⟩) | (at_mapUpdate; refine wpList_setK nameK rfl _ _ _ rfl mb n _ (addN S (s, b)) rfl h1'.out hn (s, b) rfl rfl hs hS1'.out hSd'.out ?_; intro w4 hset4 hgr4))
    go_ret
    exact ⟨ret_bool hF.out.symm, hset4, fun w0 K hx hw hK => (hx0.out w0 K hx hw hK).grown hgr4 hw hK⟩
  | true =>
    cases sn with
    | true =>
      have hF : Hid (frB S s b = false) := by unfold Hid; rw [hfr.out, hu]; rfl
      go_enter Try.func45, Try.ntmps45
      go_wp2_with (first | (go_at_call 36; (with_reducible refine (usable_any _ _ hs).mono ?_); rintro e w2 ⟨rfl, rfl⟩) | (go_at_call 38; (with_reducible refine (Core_any _ _).mono ?_); rintro e w2 ⟨rfl, rfl⟩) | (at_mapUpdate; refine wpList_setK nameK rfl _ _ _ rfl mb n _ (addN S (s, b)) rfl h1'.out hn (s, b) rfl rfl hs hS1'.out hSd'.out ?_; intro w4 hset4 hgr4))
      go_ret
      exact ⟨ret_bool hF.out.symm, hset4, fun w0 K hx hw hK => (hx0.out w0 K hx hw hK).grown hgr4 hw hK⟩
    | false =>
      cases b with
      | true =>
        have hF : Hid (frB S s true = true) := by unfold Hid; rw [hfr.out, hu]; rfl
        go_enter Try.func45, Try.ntmps45
        go_wp2_with (first | (go_at_call 36; (with_reducible refine (usable_any _ _ hs).mono ?_); rintro e w2 ⟨rfl, rfl⟩) | (go_at_call 38; (with_reducible refine (Core_any _ _).mono ?_); rintro e w2 ⟨rfl, rfl⟩) | (at_mapUpdate; refine wpList_setK nameK rfl _ _ _ rfl mb n _ (addN S (s, true)) rfl h1'.out hn (s, true) rfl rfl hs hS1'.out hSd'.out ?_; intro w4 hset4 hgr4))
        go_ret
        exact ⟨ret_bool hF.out.symm, hset4, fun w0 K hx hw hK => (hx0.out w0 K hx hw hK).grown hgr4 hw hK⟩
      | false =>
        have hF : Hid (frB S s false = !coreS s) := by unfold Hid; rw [hfr.out, hu]; rfl
        go_enter Try.func45, Try.ntmps45
        go_wp2_with (first | (go_at_call 36; (with_reducible refine (usable_any _ _ hs).mono ?_); rintro e w2 ⟨rfl, rfl⟩) | (go_at_call 38; (with_reducible refine (Core_any _ _).mono ?_); rintro e w2 ⟨rfl, rfl⟩) | (at_mapUpdate; refine wpList_setK nameK rfl _ _ _ rfl mb n _ (addN S (s, false)) rfl h1'.out hn (s, false) rfl rfl hs hS1'.out hSd'.out ?_; intro w4 hset4 hgr4))
        go_ret
        exact ⟨ret_bool hF.out.symm, hset4, fun w0 K hx hw hK => (hx0.out w0 K hx hw hK).grown hgr4 hw hK⟩
end Go.Proofs.Ythkbekfdjfmmbaa
