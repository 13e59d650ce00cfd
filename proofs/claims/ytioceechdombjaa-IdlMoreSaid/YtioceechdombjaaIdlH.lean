/- slices.Delete of one element of a row of the call's own. -/
import Derived.Test.YtioceechdombjaaIdlG
import Derived.Lib.SliceRun
import Derived.StillTailTactics
namespace Go.Proofs.Ytioceechdombjaa
open Go.RowKit Go.Maps
set_option maxRecDepth 100000

theorem OwnL.take_at {w : World} {B g n cap i : Nat} {xs : List Int} (h : OwnL w B (.slice (some ⟨g, 0, none⟩) n cap) xs) (hi : i ≤ xs.length) : OwnL w B (.slice (some ⟨g, 0, none⟩) i cap) (xs.take i) := by
  obtain ⟨h1, h2⟩ := h
  rcases h2 with ⟨h2, _⟩ | ⟨g', cap', cur, hv, hg, hb, hn, hcap, hsz, htk⟩
  · cases h2
  · injection hv with e1 e2 e3
    injection e1 with e1
    injection e1 with e1 _ _
    subst e1 e2 e3
    have hl : (xs.take i).length = i := by simp; omega
    refine ⟨by simp, .inr ⟨g, cap, cur, by rw [hl], hg, hb, by omega, hcap, hsz, ?_⟩⟩
    rw [hl, List.map_take, ← htk, List.take_take]
    congr 1
    omega
/-- A store beyond the row's length. -/
theorem OwnL.set_out {w : World} {B g n cap j : Nat} {xs : List Int} (h : OwnL w B (.slice (some ⟨g, 0, none⟩) n cap) xs) (hj : xs.length ≤ j) (u : Value) : OwnL (w.setCell ⟨g, j, none⟩ u) B (.slice (some ⟨g, 0, none⟩) n cap) xs := by
  obtain ⟨h1, h2⟩ := h
  rcases h2 with ⟨h2, _⟩ | ⟨g', cap', cur, hv, hg, hb, hn, hcap, hsz, htk⟩
  · cases h2
  · injection hv with e1 e2 e3
    injection e1 with e1
    injection e1 with e1 _ _
    subst e1 e2 e3
    refine ⟨by simp, .inr ⟨g, cap, cur.setIfInBounds j u, rfl, hg, ?_, hn, hcap, by simpa using hsz, ?_⟩⟩
    · simp [World.setCell, Array.getElem?_modify, hb]
    · rw [Array.toList_setIfInBounds, List.take_set_of_le (by omega)]
      exact htk
theorem OwnL.room {w : World} {B g n cap : Nat} {xs : List Int} (h : OwnL w B (.slice (some ⟨g, 0, none⟩) n cap) xs) : n = xs.length ∧ xs.length ≤ cap ∧ cap ≤ maxLen ∧ B ≤ g ∧ g < w.heap.size ∧ (∀ j, j < cap → (w.cell? ⟨g, j, none⟩).isSome = true) ∧ ∀ j, w.frozen? ⟨g, j, none⟩ = false := by
  obtain ⟨h1, h2⟩ := h
  rcases h2 with ⟨h2, _⟩ | ⟨g', cap', cur, hv, hg, hb, hn, hcap, hsz, htk⟩
  · cases h2
  · injection hv with e1 e2 e3
    injection e1 with e1
    injection e1 with e1 _ _
    subst e1 e2 e3
    refine ⟨rfl, hn, hcap, hg, (Array.getElem?_eq_some_iff.1 hb).1, fun j hj => ?_, fun j => by simp [World.frozen?, hb]⟩
    have : j < cur.size := by omega
    simp [World.cell?, hb, this]

theorem OwnL.cell_at {w : World} {B g n cap : Nat} {xs : List Int} (h : OwnL w B (.slice (some ⟨g, 0, none⟩) n cap) xs) {j : Nat} (hj : j < xs.length) : w.cell? ⟨g, j, none⟩ = some (.int .i64 (xs[j]'hj)) := by
  obtain ⟨h1, h2⟩ := h
  rcases h2 with ⟨h2, _⟩ | ⟨g', cap', cur, hv, hg, hb, hn, hcap, hsz, htk⟩
  · cases h2
  · injection hv with e1 e2 e3
    injection e1 with e1
    injection e1 with e1 _ _
    subst e1 e2 e3
    have h3 : (cur.toList.take xs.length)[j]? = some (.int .i64 (xs[j]'hj)) := by
      rw [Nat.mul_one] at htk
      rw [htk]
      simp [hj]
    rw [List.getElem?_take_of_lt hj] at h3
    simpa [World.cell?, hb] using h3
theorem wpList_clear1 {ops : Array Oper} {rest : List Oper} {o : Oper} {a : Act} {w : World} {Q : Exit → Act → World → Prop} (hg : o.guard = none) (hd : o.dst = none) (s : Operand)
    (hop : o.op = .call { callee := .builtin .clear, args := #[s], argTypes := #[27] }) (b j c : Nat) (hs : a.eval s = .slice (some ⟨b, j, none⟩) 1 c) (hc : (w.cell? ⟨b, j, none⟩).isSome = true) (hf : w.frozen? ⟨b, j, none⟩ = false)
    (hK : wpList Try.prog ops Q rest a (w.setCell ⟨b, j, none⟩ (.int .i64 0))) : wpList Try.prog ops Q (o :: rest) a w := by
  refine wpList_plain hg fun K hK' => ?_
  have hrun := Lib.run_clear_slice (P := Try.prog) w 27 3 o.type (.int .i64 0) Try.underlying27 zero_int rfl rfl b j 1 c (by omega) (fun i hi => by rw [show i = 0 by omega]; exact hc) (fun i hi => by rw [show i = 0 by omega]; exact hf)
  unfold Oper.wp
  simp [execOp, hop, resolve, invoke, builtin, hs, hrun, Result.andThen]
  exact hK' _ _ (by simpa [World.setCells, hd, Act.put] using hK)

set_option maxHeartbeats 4000000 in
theorem Delete_any (g cap i : Nat) (xs : List Int) (B : Nat) (w : World) (hown : OwnL w B (.slice (some ⟨g, 0, none⟩) xs.length cap) xs) (hi : i < xs.length) (hl : xs.length ≤ 1000) :
    Calls Try.prog 39 #[.slice (some ⟨g, 0, none⟩) xs.length cap, .int .i64 i, .int .i64 ((i : Int) + 1)] w fun e w' =>
      e = .returned (.slice (some ⟨g, 0, none⟩) (xs.length - 1 : Nat) cap) ∧ OwnL w' B (.slice (some ⟨g, 0, none⟩) (xs.length - 1 : Nat) cap) (xs.eraseIdx i) ∧ Below B w w' := by
  obtain ⟨-, hr1, hr2, hBg, hgl, hcs, hfz⟩ := hown.room
  have hown' := Lib.hid hown
  have hm : cap ≤ 9223372036854775807 := by unfold maxLen at hr2; omega
  have hbase : Hid (B ≤ g) := hBg
  have k1 : (i : Int) + 1 ≤ (xs.length : Int) := by omega
  have k2 : (xs.length : Int) ≤ (cap : Int) := by omega
  have k3 : (i : Int) ≤ (cap : Int) := by omega
  have k4 : (0 : Int) ≤ (i : Int) := by omega
  have k5 : (0 : Int) ≤ (i : Int) + 1 := by omega
  have htl : (xs.take i).length = i := by simp; omega
  have hto : Hid (w.drew.ownsRow B 3 1 (.slice (some ⟨g, 0, none⟩) i cap) i ((xs.take i).map fun x => Value.int .i64 x)) := by
    have h := hown.take_at (i := i) (by omega)
    unfold OwnL at h
    rw [htl] at h
    exact h.drew
  have hel : (xs.eraseIdx i).length = xs.length - 1 := List.length_eraseIdx_of_lt hi
  clear hown hcs hfz hBg htl
  go_enter Try.func39, Try.ntmps39
  go_wp2
  go_still_tail 6, (by kernel_rfl)
  change wpList _ _ _ _ _ w.drew
  obtain ⟨i0, hi0, hz0, hz1, hz2⟩ := info_parts info_int
  refine wpList_append_fits_any w.drew rfl (.tmp 22) (.tmp 25) 27 rfl B 3 i0 1 Try.underlying27 hi0 hz1 g i cap _ rfl hto.out _ (xs.length - (i + 1)) _ ((xs.drop (i + 1)).map (Value.int .i64)) rfl (by simp) ?nonei ?cellsi (ints_oneCell _ _) (by omega) ?_
  case nonei => intro h; split at h <;> cases h
  case cellsi =>
    refine cells_from (w := w.drew) (b := g) (o := 0) (l := xs.length) (c := cap) rfl (by omega) (fun t ht => ?_) (by intro h; simp [h])
    have h := hown'.out.cell_at ht
    rw [getD_lt _ _ ht, Nat.zero_add]
    exact h
  intro w2 hown2 hgr
  have hbel : Hid (Below B w w2) := (Below.refl B w).drew.grown hgr (by have := hbase.out; show B ≤ w.heap.size; omega) (fun k hk => by injection hk with hk; have := hbase.out; omega)
  have e1 : i + (xs.length - (i + 1)) = xs.length - 1 := by omega
  have hO : Hid (OwnL w2 B (.slice (some ⟨g, 0, none⟩) (xs.length - 1) cap) (xs.eraseIdx i)) := by
    unfold Hid OwnL
    rw [hel, List.eraseIdx_eq_take_drop_succ, List.map_append, ← e1]
    exact hown2
  rw [e1]
  obtain ⟨-, -, -, -, q1, q2, q3⟩ := hO.out.room
  clear hown2 hgr hto e1
  generalize hL : xs.length - 1 = L at *
  have hL1 : xs.length = L + 1 := by omega
  have q2' := q2 L (by omega)
  have q3' := q3 L
  rw [hL1] at k1 k2 ⊢
  have k6 : (L : Int) ≤ ((L + 1 : Nat) : Int) := by omega
  have k7 : ((L + 1 : Nat) : Int) ≤ (cap : Int) := by omega
  have k8 : (0 : Int) ≤ (L : Int) := by omega
  clear q2 q3
  have hw3 : Hid (OwnL (w2.setCell ⟨g, L, none⟩ (.int .i64 0)) B (.slice (some ⟨g, 0, none⟩) L cap) (xs.eraseIdx i) ∧ Below B w (w2.setCell ⟨g, L, none⟩ (.int .i64 0))) :=
    ⟨hO.out.set_out (by omega) _, hbel.out.setCell (p := ⟨g, L, none⟩) hbase.out _⟩
  have hclr : ∀ (ops : Array Oper) (rest : List Oper) (o : Oper) (a : Act) (Q : Exit → Act → World → Prop) (c : Nat), o.guard = none → o.dst = none → o.op = .call { callee := .builtin .clear, args := #[.tmp 31], argTypes := #[27] } → a.eval (.tmp 31) = .slice (some ⟨g, L, none⟩) 1 c →
      wpList Try.prog ops Q rest a (w2.setCell ⟨g, L, none⟩ (.int .i64 0)) → wpList Try.prog ops Q (o :: rest) a w2 := fun ops rest o a Q c h1 h2 h3 h4 h5 => wpList_clear1 h1 h2 _ h3 g L c h4 q2' q3' h5
  generalize w2.setCell ⟨g, L, none⟩ (.int .i64 0) = w3 at *
  go_wp2_with (refine hclr _ _ _ _ _ _ rfl rfl rfl rfl ?_)
  all_goals go_wp2
  all_goals go_ret
  all_goals first | exact ⟨rfl, hw3.out.1, hw3.out.2⟩ | (rw [(‹cap = i + 1›)] at hw3; exact ⟨rfl, hw3.out.1, hw3.out.2⟩)
end Go.Proofs.Ytioceechdombjaa
