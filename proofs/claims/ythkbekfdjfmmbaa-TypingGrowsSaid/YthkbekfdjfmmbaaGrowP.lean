/- What TypingGrows says, in plain words. -/
import Derived.Test.YthkbekfdjfmmbaaTyMk2
namespace Go.Proofs.Ythkbekfdjfmmbaa
open Go.RowKit
set_option maxRecDepth 100000

theorem sorted_node (g : Sg) (N : Nat → Nd) (X : Nd) (s : Int) : nodeT g N (X.sorted s) = nodeT g N X := rfl
theorem arg_lt {e : Nd} {at_ : Int} {n : Nat} (h : StandsP e at_) (ha : at_ ≤ n) (hn : 0 < n) (i : Nat) : (e.arg i).toNat < n := by
  have key : ∀ j : Nat, argP e at_ j → (e.arg j).toNat < n := fun j hj => by
    by_cases hl : (j : Int) < e.len
    · have := hj.1 hl; omega
    · have := hj.2 (by omega); omega
  match i with
  | 0 => exact key 0 h.arg0
  | 1 => exact key 1 h.arg1
  | 2 => exact key 2 h.arg2
  | i + 3 => exact key 2 h.arg2
theorem node_congr {g : Sg} {n : Nat} {N M : Nat → Nd} {e : Nd} {at_ : Int} (h : StandsP e at_) (ha : at_ ≤ n) (hn : 0 < n) (hM : ∀ i, i < n → M i = N i) : nodeT g M e = nodeT g N e := by
  have : sortsN M e = sortsN N e := by
    funext i
    unfold sortsN
    rw [hM _ (arg_lt h ha hn i)]
  unfold nodeT
  rw [this]
theorem tab_zero {g : Sg} {n : Nat} {N : Nat → Nd} (h : tabT g n N = 0) : checkG g = true ∧ CheckP n N ∧ ∀ i, i < n → okNd g N (N i) = true := by
  unfold tabT at h
  cases hc : checkG g with
  | false => rw [if_pos hc] at h; omega
  | true =>
    rw [if_neg (by rw [hc]; simp)] at h
    by_cases hk : checkT n N = 0
    · rw [if_neg (fun h' => h' hk)] at h
      cases hu : upTo n (fun i => okNd g N (N i)) with
      | true => exact ⟨rfl, check_zero hk, (upTo_iff _ _).1 hu⟩
      | false => rw [if_neg (by rw [hu]; simp)] at h; omega
    · rw [if_pos hk] at h; omega
theorem tab_make {g : Sg} {n : Nat} {N : Nat → Nd} (h1 : checkG g = true) (h2 : CheckP n N) (h3 : ∀ i, i < n → okNd g N (N i) = true) : tabT g n N = 0 := by
  unfold tabT
  rw [if_neg (by rw [h1]; simp), if_neg (by rw [check_yes h2]; simp), if_pos (upTo_yes h3)]
theorem may_parts {g : Sg} {n : Nat} {N : Nat → Nd} {e : Nd} (h : mayT g n N e = true) : checkG g = true ∧ CheckP n N ∧ StandsP e n := by
  unfold mayT at h
  simp only [Bool.and_eq_true] at h
  refine ⟨h.1, ?_, ?_⟩
  · rcases Classical.em (CheckP n N) with hs | hs
    · exact hs
    · rw [checkB_no' hs] at h; exact absurd h.2.1 (by decide)
  · rcases Classical.em (StandsP e n) with hs | hs
    · exact hs
    · rw [stands_no hs] at h; exact absurd h.2.2 (by decide)
theorem may_make {g : Sg} {n : Nat} {N : Nat → Nd} {e : Nd} (h1 : checkG g = true) (h2 : CheckP n N) (h3 : StandsP e n) : mayT g n N e = true := by
  unfold mayT
  rw [h1, checkB_yes' h2, stands_yes h3]; rfl
theorem opT_range {op : Int} {m : Nat} {f : Nat → Int} {s : Int} (h : opT op m f = (s, 0)) (hf : ∀ i, i < m → 0 ≤ f i ∧ f i < 6) : 0 ≤ s ∧ s < 6 := by
  by_cases h7 : op = 7
  · subst h7
    rw [opT7] at h
    by_cases h3 : m = 3
    · rw [if_neg (fun h' => h' h3)] at h
      split at h
      · cases h
      · split at h
        · cases h
        · split at h
          · injection h with h1 _
            rw [← h1]; exact hf 1 (by omega)
          · cases h
    · rw [if_pos h3] at h; cases h
  · have hfree := tyR_free h7
    have hr : tyR op = 0 ∨ tyR op = 1 := by unfold tyR; rw [if_neg h7]; split <;> simp
    unfold opT at h
    split at h
    · cases h
    · split at h
      · cases h
      · split at h
        · cases h
        · split at h
          · cases h
          · unfold tailT at h
            split at h
            · cases h
            · split at h
              · cases h
              · injection h with h1 _
                omega
theorem node_range {g : Sg} {n : Nat} {N : Nat → Nd} {X : Nd} {s : Int} (hc : checkG g = true) (hch : CheckP n N) (hst : StandsP X n) (h : nodeT g N X = (s, 0)) : 0 ≤ s ∧ s < 6 := by
  have h2 := hch.two
  have hN : ∀ i, 0 ≤ sortsN N X i ∧ sortsN N X i < 6 := fun i => by
    have := hch.all _ (arg_lt hst (Int.le_refl _) (by omega) i)
    exact ⟨this.sort0, this.sort6⟩
  unfold nodeT at h
  by_cases h13 : X.op = 13
  · rw [if_pos h13] at h
    unfold appT at h
    split at h
    · cases h
    · split at h
      · cases h
      · split at h
        · cases h
        · split at h
          · injection h with h1 _
            rename_i _ hfn _ _
            have hlt : X.fn.toNat < g.nf := by omega
            have hfu := check_fun hc hlt
            unfold funB thereB at hfu
            simp only [Bool.and_eq_true, decide_eq_true_eq] at hfu
            have hns : g.ns ≤ 4 := by
              unfold checkG fewG at hc
              simp only [Bool.and_eq_true, decide_eq_true_eq] at hc
              exact hc.1.1.1.1.1
            have := hfu.1.2
            omega
          · cases h
  · rw [if_neg h13] at h
    exact opT_range h fun i _ => hN i
theorem stands_sorted {X : Nd} {at_ s : Int} (h : StandsP X at_) (h0 : 0 ≤ s) (h6 : s < 6) : StandsP (X.sorted s) at_ :=
  ⟨h.kind, h.len, h.len0, h.len3, h0, h6, h.arg0, h.arg1, h.arg2, h.fn0, h.fn12, h.app, h.num, h.num0⟩
/-- What Make gives. -/
theorem make_cases (g : Sg) (n : Nat) (N : Nat → Nd) (op : Int) (m : Nat) (A : Nat → Int) (f k : Int) :
    makeT g n N op m A f k = (nd0, 2) ∨ makeT g n N op m A f k = (nd0, 33) ∨ (m ≤ 3 ∧ ∃ s, mayT g n N (mkNd op m A f k) = true ∧ nodeT g N (mkNd op m A f k) = (s, 0) ∧ makeT g n N op m A f k = ((mkNd op m A f k).sorted s, 0)) := by
  unfold makeT
  by_cases h3 : 3 < m
  · rw [if_pos h3]; exact .inl rfl
  · rw [if_neg h3]
    cases hm : mayT g n N (mkNd op m A f k) with
    | false => rw [if_pos rfl]; exact .inl rfl
    | true =>
      rw [if_neg (by simp)]
      by_cases h0 : (nodeT g N (mkNd op m A f k)).2 = 0
      · rw [if_pos h0]
        exact .inr (.inr ⟨by omega, _, rfl, by rw [← h0], rfl⟩)
      · rw [if_neg h0]; exact .inr (.inl rfl)
theorem grow_put {g : Sg} {n : Nat} {N : Nat → Nd} {X : Nd} {s : Int} (ht : tabT g n N = 0) (hm : mayT g n N X = true) (hs : nodeT g N X = (s, 0)) {m : Nat} {M : Nat → Nd} {a er : Int} (h : PutR n N (X.sorted s) ((n : Int) + 1) m M a er) :
    er = 0 ∧ ∃ j : Nat, a = j ∧ j < m ∧ M j = X.sorted s ∧ tabT g m M = 0 ∧ m ≤ n + 1 := by
  obtain ⟨hc, hch, hok⟩ := tab_zero ht
  obtain ⟨_, _, hst⟩ := may_parts hm
  have h2 := hch.two
  obtain ⟨s0, s6⟩ := node_range hc hch hst hs
  have hst' := stands_sorted hst s0 s6
  have her : er = 0 := by
    have := put_may h
    rw [checkB_yes' hch, stands_yes hst'] at this
    simpa using this
  subst her
  obtain ⟨j, rfl, hj, hMj, hCM, ⟨hnm, hmn⟩, hMN, _⟩ := h.good
  refine ⟨rfl, j, rfl, hj, hMj, tab_make hc hCM fun i hi => ?_, hmn⟩
  by_cases hin : i < n
  · have hok' := hok i hin
    rw [hMN i hin]
    unfold okNd at hok' ⊢
    rw [node_congr (hch.all i hin) (Int.ofNat_le.2 (Nat.le_of_lt hin)) (by omega) hMN]
    exact hok'
  · rcases h.ok with ⟨_, _, ⟨i', hi', hie, hmn', hMN', _⟩ | ⟨hne, _, hmn', hMN', _⟩⟩
    · omega
    · have hiN : i = n := by omega
      have hMi : M i = X.sorted s := by rw [hMN', hiN, extN_at]
      rw [hMi]
      unfold okNd
      rw [node_congr hst' (Int.le_refl _) (by omega) hMN, sorted_node, hs]
      show ((0 : Int) == 0 && s == s) = true
      simp
theorem grow_node {g : Sg} {n : Nat} {N : Nat → Nd} {X : Nd} {s : Int} (ht : tabT g n N = 0) (hm : mayT g n N X = true) (hs : nodeT g N X = (s, 0)) :
    nodeE g n N (X.sorted s) = 0 ∧ nodeE g n N (X.sorted (s + 1)) ≠ 0 ∧ (0 ≤ s ∧ s < 6) := by
  obtain ⟨hc, hch, hok⟩ := tab_zero ht
  obtain ⟨_, _, hst⟩ := may_parts hm
  obtain ⟨s0, s6⟩ := node_range hc hch hst hs
  refine ⟨?_, ?_, s0, s6⟩
  · unfold nodeE
    rw [if_neg (by rw [may_make hc hch (stands_sorted hst s0 s6)]; simp), if_pos ?_]
    unfold okNd
    rw [sorted_node, hs]
    show ((0 : Int) == 0 && s == s) = true
    simp
  · unfold nodeE
    split
    · omega
    · have : okNd g N (X.sorted (s + 1)) = false := by
        unfold okNd
        rw [sorted_node, hs]
        show ((0 : Int) == 0 && s == s + 1) = false
        simp
        omega
      rw [if_neg (by rw [this]; simp)]
      omega
end Go.Proofs.Ythkbekfdjfmmbaa
