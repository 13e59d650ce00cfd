/- A region that draws its order: its first n operations leave the world alone, and none of the others may come up ahead of all of those. What follows is left as it stands, to be walked by hand. -/
import Derived.StillTail
import Derived.StillTactics
namespace Go.Proofs.Ytecmoahadckomaa
open Go

section
variable {P : Program} {ops : Array Oper} {md : Region.Mode} {w : World}
/-- Each operation behind the n-th waits for one that is no head's. -/
def laterB (md : Region.Mode) (ops : Array Oper) (n : Nat) : Bool :=
  (List.range ops.size).all fun t => decide (t ≤ n) || (List.range t).any fun s => decide (n ≤ s) && Region.waitsFor md ops t s
/-- Each operation ahead of the n-th, but the 0th, is waited for by one up to the n-th. -/
def sink0B (md : Region.Mode) (ops : Array Oper) (n : Nat) : Bool :=
  (List.range n).all fun i => decide (i = 0) || (List.range (n + 1)).any fun j => decide (i < j) && Region.waitsFor md ops j i
def headB (ops : Array Oper) (n : Nat) : Nat → Nat → Array Bool → Bool
  | 0, _, listed => decide (listed = (Array.range ops.size).map fun j => decide (j < n))
  | f + 1, k, listed => (Region.ready .any ops listed).contains k && Region.free .any ops listed k && headB ops n f (k + 1) (listed.setIfInBounds k true)

theorem no_tail {n : Nat} {listed : Array Bool} (hs : sink0B md ops n = true) (hl : laterB md ops n = true) (inv : HeadInv md ops n listed) :
    ∀ (d i : Nat), n - i = d → i ≠ 0 → i < n → listed.getD i true = false → ∀ t, n ≤ t → t ∉ Region.ready md ops listed := by
  intro d
  induction d using Nat.strongRecOn with
  | _ d ih =>
    intro i hd hi0 hi hun t ht hr
    obtain ⟨_, ot, hot, hall⟩ := mem_ready.1 hr
    have htlt : t < ops.size := (Array.getElem?_eq_some_iff.1 hot).1
    rcases Nat.lt_or_ge n t with hnt | hnt
    · have h1 := List.all_eq_true.1 hl t (List.mem_range.2 htlt)
      simp only [Bool.or_eq_true, decide_eq_true_eq] at h1
      obtain ⟨s, hsr, h2⟩ := List.any_eq_true.1 (h1.resolve_left (by omega))
      simp only [Bool.and_eq_true, decide_eq_true_eq] at h2
      obtain ⟨o', ho', e, he, hb, hon⟩ := Region.waitsFor_spec h2.2
      obtain rfl : o' = ot := Option.some.inj (ho'.symm.trans hot)
      have h3 := hall e he hb
      rw [hon, getD_both (inv.tail s h2.1 (by have := List.mem_range.1 hsr; omega))] at h3
      cases h3
    · obtain rfl : t = n := by omega
      have h0 := List.all_eq_true.1 hs i (List.mem_range.2 hi)
      simp only [Bool.or_eq_true, decide_eq_true_eq] at h0
      obtain ⟨j, hj, h2⟩ := List.any_eq_true.1 (h0.resolve_left hi0)
      simp only [Bool.and_eq_true, decide_eq_true_eq] at h2
      obtain ⟨oj, hoj, e, he, hb, hon⟩ := Region.waitsFor_spec h2.2
      have hjl := List.mem_range.1 hj
      rcases Nat.lt_or_ge j t with hjt | hjt
      · cases hlj : listed.getD j false with
        | true =>
          have h3 := inv.closed j oj hoj hlj e he hb
          rw [hon, getD_both hun] at h3
          cases h3
        | false => exact ih (t - j) (by omega) j rfl (by omega) hjt (getD_in (by rw [inv.size]; omega) hlj) t ht hr
      · obtain rfl : j = t := by omega
        obtain rfl : oj = ot := Option.some.inj (hoj.symm.trans hot)
        have h3 := hall e he hb
        rw [hon, getD_both hun] at h3
        cases h3

/-- An operation of the head may be taken first. -/
theorem head_first {n i : Nat} {oi : Oper} {v : Value} {L : Array Bool → Act → Prop} (hi : ops[i]? = some oi) (hsel : ∀ (j : Nat) (o : Oper) cs b, ops[j]? = some o → o.op ≠ .select cs b)
    (hno : ∀ listed, HeadInv md ops n listed → listed.getD i true = false → ∀ t, n ≤ t → t ∉ Region.ready md ops listed)
    (hdone : ∀ listed a, L listed a → ∀ j ∈ Region.ready md ops listed, n ≤ j) (hin : i < n) :
    ∀ (f : Nat) (listed : Array Bool) (a : Act), HeadInv md ops n listed →
      (∀ j oj, ops[j]? = some oj → j ≠ i → listed.getD j true = false → (∀ e ∈ oj.after, Region.binds md e = true → e.on ≠ i) → oi.apart ops oj = true) →
      i ∈ Region.ready md ops listed → YieldsAt P ops w oi v a →
      wpAnyL P md ops w n L f (listed.setIfInBounds i true) (a.put oi.dst v) → wpAnyL P md ops w n L (f + 1) listed a := by
  intro f
  induction f with
  | zero =>
    intro listed a inv _ hr hy H
    refine ⟨fun h => (by rw [h] at hr; cases hr), fun j hj => ?_⟩
    have hjn : j < n := Nat.lt_of_not_le fun h => hno listed inv (mem_ready.1 hr).1 j h hj
    by_cases hji : j = i
    · subst hji; exact ⟨hjn, hy.stOp hi H⟩
    · have := hdone _ _ H j (ready_mono hj hji)
      omega
  | succ f ih =>
    intro listed a inv hfree hr hy H
    have hun := (mem_ready.1 hr).1
    refine ⟨fun h => (by rw [h] at hr; cases hr), fun j hj => ?_⟩
    have hjn : j < n := Nat.lt_of_not_le fun h => hno listed inv hun j h hj
    by_cases hji : j = i
    · subst hji; exact ⟨hjn, hy.stOp hi H⟩
    · obtain ⟨hjun, oj, hoj, hall⟩ := mem_ready.1 hj
      have hnot : ∀ e ∈ oj.after, Region.binds md e = true → e.on ≠ i := fun e he hb heq => by
        have h1 := hall e he hb
        rw [heq, getD_both hun] at h1
        cases h1
      refine ⟨hjn, stOp_mono (fun a' h3 => ?_) (stOp_put hoj (hfree j oj hoj hji hjun hnot) (fun cs b => hsel i oi cs b hi) (fun cs b => hsel j oj cs b hoj) hy (H.2 j (ready_mono hj hji)).2)⟩
      refine ih (listed.setIfInBounds j true) a' (inv.set hj hjn) (fun k ok hk hki hku hkn => hfree k ok hk hki ?_ hkn) (ready_mono hr (Ne.symm hji)) h3.1 ?_
      · by_cases hjk : j = k
        · subst hjk; exact hjun
        · rw [getD_set_ne true hjk] at hku; exact hku
      · rw [Array.setIfInBounds_comm _ _ hji]; exact h3.2

theorem head_lex {n : Nat} {Lq : Act → Prop} (hsel : Region.noSelect ops = true) (hs : sink0B .any ops n = true) (hl : laterB .any ops n = true) (hend : ∀ j ∈ Region.ready .any ops ((Array.range ops.size).map fun j => decide (j < n)), n ≤ j) :
    ∀ (l : List Oper) (k : Nat) (listed : Array Bool) (a : Act), (∀ j, j < l.length → l[j]? = ops[k + j]?) → 0 < k → k + l.length = n → HeadInv .any ops n listed →
    headB ops n l.length k listed = true → wpStill P ops w Lq l a →
    wpAnyL P .any ops w n (fun listed' a' => listed' = ((Array.range ops.size).map fun j => decide (j < n)) ∧ Lq a') l.length listed a
  | [], _, listed, a, _, _, _, _, hB, h => ⟨by simpa [headB] using hB, h⟩
  | o :: l, k, listed, a, hlo, hk0, hk, inv, hB, h => by
    have h0 : ops[k]? = some o := by simpa using (hlo 0 (by simp)).symm
    simp only [List.length_cons, headB, Bool.and_eq_true] at hB
    obtain ⟨⟨hr, hf⟩, hB'⟩ := hB
    simp only [List.length_cons] at hk
    have hkn : k < n := by omega
    have hr' : k ∈ Region.ready .any ops listed := by simpa using hr
    obtain ⟨v, hy, hK⟩ := yieldsAt_of_stOp h0 (show stOp P ops w k (wpStill P ops w Lq l) a by unfold stOp; simp only [h0]; exact h)
    exact head_first h0 (Region.noSelect_spec hsel) (fun listed inv hu t ht => no_tail hs hl inv _ k rfl (by omega) hkn hu t ht) (fun listed' a' hL => by rw [hL.1]; exact hend) hkn l.length listed a inv (Region.free_spec h0 hf) hr' hy
      (head_lex hsel hs hl hend l (k + 1) _ _ (fun j hj => by have := hlo (j + 1) (by simp; omega); simpa [Nat.add_assoc, Nat.add_comm 1 j] using this) (by omega) (by omega) (inv.set hr' hkn) hB' hK)

def headTailB (ops : Array Oper) (n : Nat) : Bool :=
  Region.noSelect ops && decide (0 < n) && decide (n < ops.size) && sink0B .any ops n && laterB .any ops n && (Region.ready .any ops ((Array.range ops.size).map fun j => decide (j < n))).all (fun j => decide (n ≤ j)) &&
    (Region.ready .any ops (Array.replicate ops.size false)).contains 0 && Region.free .any ops (Array.replicate ops.size false) 0 && headB ops n (n - 1) 1 ((Array.replicate ops.size false).setIfInBounds 0 true)
/-- The 0th operation yields in every world; those up to the n-th leave the world alone. -/
theorem wp_region_head {id : Nat} {Q : Exit → Act → World → Prop} {a : Act} {w : World} {o : Oper} {l : List Oper} (n : Nat) (v : Value) (hm : P.follows .mixedOrders = true) (hB : headTailB (o :: l).toArray n = true)
    (hQ : ∀ c a w, Q (.panic c) (a.put o.dst v) w → Q (.panic c) a w) (hy : Yields P (o :: l).toArray o v a)
    (h : wpStill P (o :: l).toArray w.drew (fun a' => wpAny P .any (o :: l).toArray Q (l.length + 1 - n) ((Array.range (l.length + 1)).map fun j => decide (j < n)) a' w.drew) (l.take (n - 1)) (a.put o.dst v)) : (Code.region id (o :: l).toArray true).wp P Q a w := by
  simp only [headTailB, Bool.and_eq_true, decide_eq_true_eq] at hB
  obtain ⟨⟨⟨⟨⟨⟨⟨⟨hsel, hn0⟩, hn⟩, hs⟩, hl⟩, hend⟩, hr0⟩, hf0⟩, hlex⟩ := hB
  have hn' : n < l.length + 1 := by simpa using hn
  have htl : (l.take (n - 1)).length = n - 1 := by simp; omega
  have inv0 : HeadInv .any (o :: l).toArray n (Array.replicate (o :: l).toArray.size false) :=
    ⟨by simp, fun j oj _ hl => (by rw [getD_replicate_false] at hl; cases hl), fun t _ ht => getD_in (by simpa using ht) (getD_replicate_false _ _)⟩
  have inv1 := inv0.set (i := 0) (by simpa using hr0) hn0
  have H := head_lex hsel hs hl (fun j hj => of_decide_eq_true (List.all_eq_true.1 hend j hj)) (l.take (n - 1)) 1 _ (a.put o.dst v) (fun j hj => by
    have hj' : j < n - 1 := by rw [htl] at hj; exact hj
    rw [show 1 + j = j + 1 by omega]
    simp [hj']) (by omega) (by omega) inv1 (by rw [htl]; exact hlex) h
  refine wp_region_any hm ?_
  have := wpAny_of_head (Q' := Q) (g := l.length + 1 - n) (fun listed a' hL => by
    rw [hL.1]
    have := hL.2
    simpa using this) _ _ _ H
  rw [htl, show n - 1 + (l.length + 1 - n) = l.length by omega] at this
  exact wpAny_take (i := 0) (oi := o) (v := v) rfl hsel hf0 hr0 hQ hy this
end
end Go.Proofs.Ytecmoahadckomaa
