/- A row of numbers of one's own, all of whose cells (the spare ones too) are numbers; one number appended. -/
import Derived.Test.YtecmoahadckomaaZMkKMkL
import Derived.Maps.AppendAt
namespace Go.Proofs.Ytecmoahadckomaa
open Go.RowKit Go.Maps
set_option maxRecDepth 100000

def OwnI (w : World) (base : Nat) (v : Value) (xs : List Int) : Prop := OwnL w base v xs ∧ ∀ g, v.ownBlock = some g → ∀ k u, w.cell? ⟨g, k, none⟩ = some u → ∃ y, u = .int .i64 y
theorem OwnI.nil (w : World) (base : Nat) : OwnI w base (.slice none 0 0) [] := ⟨OwnL.nil w base, fun g h => by cases h⟩
theorem zeroCells_int {k j : Nat} {u : Value} (h : (Builtin.zeroCells #[.int .i64 0] k)[j]? = some u) : u = .int .i64 0 := by
  unfold Builtin.zeroCells at h
  rw [Array.getElem?_map] at h
  cases hr : (Array.range (k * (#[Value.int .i64 0] : Array Value).size))[j]? with
  | none => rw [hr] at h; cases h
  | some i =>
    rw [hr] at h
    simp at h
    rw [← h]
    simp [Nat.mod_one]
theorem app_int {A B : Array Value} (hA : ∀ (j : Nat) (u : Value), A[j]? = some u → ∃ y : Int, u = Value.int .i64 y) (hB : ∀ (j : Nat) (u : Value), B[j]? = some u → ∃ y : Int, u = Value.int .i64 y) : ∀ (j : Nat) (u : Value), (A ++ B)[j]? = some u → ∃ y : Int, u = Value.int .i64 y := by
  intro j u h
  rw [Array.getElem?_append] at h
  split at h
  · exact hA _ _ h
  · exact hB _ _ h
theorem OwnI.but {S : List Nat} {w w' : World} {base : Nat} {v : Value} {xs : List Int} (h : OwnI w base v xs) (hb : But S w.heap.size w w') (hS : ∀ x ∈ S, x < base) : OwnI w' base v xs := by
  obtain ⟨⟨h1, h2⟩, hc⟩ := h
  rcases h2 with ⟨rfl, h0⟩ | ⟨g, cap, cur, rfl, hbg, hg, hr⟩
  · exact ⟨⟨h1, .inl ⟨rfl, h0⟩⟩, fun g h => by cases h⟩
  · have hlt := lt_of_block hg
    have hm : g ∉ S := fun h => by have := hS g h; omega
    have e := hb.block g hlt hm
    refine ⟨⟨h1, .inr ⟨g, cap, cur, rfl, hbg, e.trans hg, hr⟩⟩, fun g' hg' k u hu => ?_⟩
    have hg'' : some g = some g' := hg'
    injection hg'' with hg''
    subst hg''
    exact hc g rfl k u ((World.cell?_of_block (w := w) (a := ⟨g, k, none⟩) e).symm.trans hu)
theorem OwnI.ne {w : World} {base : Nat} {v : Value} {xs : List Int} (h : OwnI w base v xs) {b o c n : Nat} {N : Nat → Nd} (hN : NdsAt w (.slice (some ⟨b, o, none⟩) n c) n N) (h0 : 0 < n) : v.ownBlock ≠ some b := by
  intro hg
  obtain ⟨A, c', e, _, _, hc⟩ := hN
  injection e with e1 _ e3
  subst e1
  obtain ⟨b', o', e, _, hc⟩ := hc h0
  injection e with e
  injection e with e1 e2
  subst e1 e2
  obtain ⟨y, hy⟩ := h.2 b hg _ _ (hc 0 h0).1
  cases hy
set_option maxHeartbeats 1000000 in
theorem run_appI (w : World) (base : Nat) (v : Value) (xs : List Int) (hown : OwnI w base v xs) (G c : Nat) (y : Int) (hG : w.cell? ⟨G, 0, none⟩ = some (.int .i64 y)) (hlen : xs.length ≤ 1000000) (hb : base ≤ w.heap.size) (ty : TypeId) :
    ∃ v' w', (Builtin.append_ #[25, 25] ty #[v, .slice (some ⟨G, 0, none⟩) 1 c]).run Try.prog w = .ok v' w' ∧ OwnI w' base v' (xs ++ [y]) ∧ w.grownBy w' v.ownBlock := by
  obtain ⟨i0, hi, hz0, hz1, hz2⟩ := info_parts info_int
  have hnew : ∀ j u, [Value.int .i64 y][j]? = some u → w.cell? ((⟨G, 0, none⟩ : Addr).add j) = some u := by
    intro j u hu
    cases j with
    | zero => simp at hu; subst hu; exact hG
    | succ j => simp at hu
  have h1 : ∀ u ∈ [Value.int .i64 y], u.oneCell' = true := fun u hu => by simp at hu; subst hu; rfl
  obtain ⟨v', w', hr, hown', hgr, -, -⟩ := run_append_own_at (P := Try.prog) w base 25 ty 3 i0 (.int .i64 0) 1 8 Try.underlying25 hi hz0 hz1 hz2 rfl (by decide) v xs.length _ hown.1 ⟨G, 0, none⟩ 1 c [.int .i64 y] rfl hnew h1 (by unfold maxLen; omega) (by omega) hb
  have hL : OwnL w' base v' (xs ++ [y]) := by
    unfold OwnL
    rw [List.map_append, List.length_append]
    exact hown'
  refine ⟨v', w', hr, ⟨hL, ?_⟩, hgr⟩
  obtain ⟨⟨hl1, hl2⟩, hc⟩ := hown
  rcases hl2 with ⟨rfl, h0⟩ | ⟨g, cap, cur, rfl, hbg, hg, hnc, hcm, hcs, htk⟩
  · have hxs : xs = [] := List.eq_nil_of_length_eq_zero h0
    subst hxs
    have hr2 := run_append_nil (P := Try.prog) w 25 ty 3 i0 (.int .i64 0) Try.underlying25 hi hz0 ⟨G, 0, none⟩ 1 c [.int .i64 y] (by rw [hz1]; rfl) hnew (by decide) (by decide) (by rw [hz2]; decide)
    have := hr.symm.trans hr2
    injection this with e1 e2
    subst e1 e2
    intro g hg k u hu
    injection hg with hg
    have hg : w.heap.size = g := hg
    subst hg
    rw [cell_of_row _ w.heap.size _ _ _ _ (show (w.drew.alloc _).heap[w.heap.size]? = _ from heap_alloc_new w.drew _)] at hu
    refine app_int (fun j u h => ?_) (fun j u h => ⟨0, zeroCells_int h⟩) k u hu
    cases j with
    | zero => simp at h; exact ⟨y, h.symm⟩
    | succ j => simp at h
  · by_cases hroom : xs.length + 1 ≤ cap
    · have hr2 := run_append_room_cells (P := Try.prog) w 25 ty 3 i0 Try.underlying25 hi g 0 xs.length cap ⟨G, 0, none⟩ 1 c [.int .i64 y] (by rw [hz1]; rfl) hnew h1 hroom (fun j hj => by
        have hj : j < 1 := hj
        rw [hz1, cell_of_row _ _ _ _ _ _ hg, Array.getElem?_eq_getElem (by omega)]; rfl) (fun j hj => by simp [World.frozen?, hg])
      have := hr.symm.trans hr2
      injection this with e1 e2
      subst e1 e2
      intro g' hg' k u hu
      have hg' : some g = some g' := hg'
      injection hg' with hg'
      subst hg'
      rw [hz1] at hu
      by_cases e : k = 0 + xs.length * 1 + 0
      · subst e
        have hu : (w.setCell ⟨g, 0 + xs.length * 1, none⟩ (.int .i64 y)).cell? ⟨g, 0 + xs.length * 1, none⟩ = some u := hu
        rw [World.cell?_setCell_same' _ _ _ (by rw [cell_of_row _ _ _ _ _ _ hg, Array.getElem?_eq_getElem (by omega)]; rfl)] at hu
        injection hu with hu
        exact ⟨y, hu.symm⟩
      · have hu : (w.setCell ⟨g, 0 + xs.length * 1, none⟩ (.int .i64 y)).cell? ⟨g, k, none⟩ = some u := hu
        rw [World.cell?_setCell_other _ _ _ _ (fun h => e (by injection h with _ h; omega))] at hu
        exact hc g rfl k u hu
    · have holds : ∀ j u, (xs.map fun x => Value.int .i64 x)[j]? = some u → w.cell? ((⟨g, 0, none⟩ : Addr).add j) = some u := (World.ownsRow.cells (w := w) (base := base) (e := 3) (size := 1) ⟨hl1, .inr ⟨g, cap, cur, rfl, hbg, hg, hnc, hcm, hcs, htk⟩⟩ (g := g) rfl)
      have hr2 := run_append_grow (P := Try.prog) w 25 ty 3 i0 (.int .i64 0) Try.underlying25 hi hz0 ⟨g, 0, none⟩ xs.length cap _ (by rw [hz1]; exact hl1) holds ⟨G, 0, none⟩ 1 c [.int .i64 y] (by rw [hz1]; rfl) hnew (by omega) (by omega) (growslice_fits (by omega) (by rw [hz2]; omega))
      have := hr.symm.trans hr2
      injection this with e1 e2
      subst e1 e2
      intro g' hg' k u hu
      have hg' : some w.heap.size = some g' := hg'
      injection hg' with hg'
      subst hg'
      rw [cell_of_row _ w.heap.size _ _ _ _ (show (w.drew.alloc _).heap[w.heap.size]? = _ from heap_alloc_new w.drew _)] at hu
      refine app_int (app_int (fun j u h => ?_) (fun j u h => ?_)) (fun j u h => ⟨0, zeroCells_int h⟩) k u hu
      · simp at h
        obtain ⟨a, _, h⟩ := h
        exact ⟨a, h.symm⟩
      · cases j with
        | zero => simp at h; exact ⟨y, h.symm⟩
        | succ j => simp at h
theorem wpList_appI {ops : Array Oper} {rest : List Oper} {o : Oper} {a : Act} {w : World} {Q : Exit → Act → World → Prop} (hgd : o.guard = none) (s x : Operand)
    (ho : o.op = .call { callee := .builtin .append, args := #[s, x], argTypes := #[25, 25] }) (base : Nat) (v : Value) (xs : List Int) (hs : a.eval s = v) (hown : OwnI w base v xs) (G c : Nat) (hx : a.eval x = .slice (some ⟨G, 0, none⟩) 1 c) (y : Int)
    (hG : w.cell? ⟨G, 0, none⟩ = some (.int .i64 y)) (hlen : xs.length ≤ 1000000) (hb : base ≤ w.heap.size)
    (h : ∀ v' w', OwnI w' base v' (xs ++ [y]) → w.grownBy w' v.ownBlock → wpList Try.prog ops Q rest (a.put o.dst v') w') : wpList Try.prog ops Q (o :: rest) a w := by
  refine wpList_plain hgd fun K hK' => ?_
  obtain ⟨v', w', hrun, h1, h2⟩ := run_appI w base v xs hown G c y hG hlen hb o.type
  unfold Oper.wp
  simp [execOp, ho, resolve, invoke, builtin, hs, hx, hrun, Result.andThen]
  exact hK' _ _ (h v' w' h1 h2)
end Go.Proofs.Ytecmoahadckomaa
