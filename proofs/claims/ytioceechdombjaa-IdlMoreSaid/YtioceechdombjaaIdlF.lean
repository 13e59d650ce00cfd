/- slices.Clone, idl.Lemma. -/
import Derived.Test.YtioceechdombjaaIdlE
import Derived.Test.YtioceechdombjaaAppL
import Derived.Lib.SliceRun
namespace Go.Proofs.Ytioceechdombjaa
open Go.RowKit Go.Maps
set_option maxRecDepth 100000

theorem gfn_map (xs : List Int) : (List.range xs.length).map (gfn xs) = xs := range_getD xs
theorem OwnL.nn {w : World} {b : Nat} (hb : b ≤ w.heap.size) : OwnL (w.alloc (.cells #[] 3)) b (.slice (some ⟨w.heap.size, 0, none⟩) 0 0) [] := OwnG.lit0 w b 3 1 (fun _ => []) hb
theorem wpList_appV {w : World} {ops : Array Oper} {rest : List Oper} {o : Oper} {a : Act} {Q : Exit → Act → World → Prop} (hw : Region.wanted o (yielded ops a.tmps) = true) (p q : Operand)
    (ho : o.op = .call { callee := .builtin .append, args := #[p, q], argTypes := #[27, 27] }) (base : Nat) (v : Value) (xs : List Int) (hp : a.eval p = v) (hown : OwnL w base v xs)
    (x : Value) (ys : List Int) (hq : a.eval q = x) (hx : IntsAt w x ys.length (gfn ys)) (hn : xs.length + ys.length ≤ 1000000) (hb : base ≤ w.heap.size)
    (h : ∀ v' w', OwnL w' base v' (xs ++ ys) → Below base w w' → wpList Try.prog ops Q rest (a.put o.dst v') w') : wpList Try.prog ops Q (o :: rest) a w :=
  BigFrame.wpList_want hw fun _ hK => wp_appL p q ho base v xs hp hown x ys.length (gfn ys) hq hx hn hb fun v' w' h1 h2 _ => hK _ _ (h v' w' (by rwa [gfn_map] at h1) h2)

set_option maxHeartbeats 1000000 in
theorem Clone_any (u : Value) (xs : List Int) (w : World) (hu : IntsAt w u xs.length (gfn xs)) (hm : xs.length ≤ 1000) :
    Calls Try.prog 24 #[u] w fun e w' => ∃ z, e = .returned z ∧ OwnL w' w.heap.size z xs ∧ Below w.heap.size w w' := by
  have hu' := Lib.hid hu
  obtain ⟨A, c, rfl, _, _, hc⟩ := hu
  cases A with
  | none =>
    have h0 : xs = [] := by
      rcases Nat.eq_zero_or_pos xs.length with h | h
      · exact List.length_eq_zero_iff.1 h
      · obtain ⟨b, o, h, _⟩ := hc h; cases h
    subst h0
    go_enter Try.func24, Try.ntmps24
    have he := fun w => Go.Lib.run_eql_slice_nil (P := Try.prog) w 27 3 none 0 c 0 0 Try.underlying27
    go_wp2
    go_ret
    exact ⟨_, rfl, OwnL.nil _ _, Below.refl _ _⟩
  | some ad =>
    have hb0 := (Below.refl w.heap.size w).alloc (Nat.le_refl _) (.cells #[] 3)
    have hu1 := Lib.hid (hu'.out.below hb0)
    have he := fun w => Go.Lib.run_eql_slice_nil (P := Try.prog) w 27 3 (some ad) xs.length c 0 0 Try.underlying27
    go_enter Try.func24, Try.ntmps24
    go_wp2_with (at_builtin; refine wpList_appV (by rfl) _ _ rfl w.heap.size _ _ rfl (OwnL.nn (Nat.le_refl _)) _ xs rfl hu1.out ?c1 ?c2 ?_)
    case c1 => simp; omega
    case c2 => simp
    intro v' w4 hown4 hb4
    go_wp2
    go_ret
    exact ⟨_, rfl, hown4, hb0.trans hb4⟩

/-- A store into a row of the call's own. -/
theorem OwnL.set_at {w : World} {base g n cap : Nat} {xs : List Int} (h : OwnL w base (.slice (some ⟨g, 0, none⟩) n cap) xs) (i : Nat) (hi : i < xs.length) (x : Int) :
    OwnL (w.setCell ⟨g, i, none⟩ (.int .i64 x)) base (.slice (some ⟨g, 0, none⟩) n cap) (xs.set i x) ∧ w.cell? ⟨g, i, none⟩ = some (.int .i64 (gfn xs i)) ∧ w.frozen? ⟨g, i, none⟩ = false ∧ n = xs.length ∧ base ≤ g ∧ g < w.heap.size := by
  obtain ⟨h1, h2⟩ := h
  rcases h2 with ⟨h2, _⟩ | ⟨g', cap', cur, hv, hg, hb, hn, hcap, hsz, htk⟩
  · cases h2
  · injection hv with e1 e2 e3
    injection e1 with e1
    injection e1 with e1 _ _
    subst e1 e2 e3
    have hi' : i < cur.size := by omega
    have hlt := (Array.getElem?_eq_some_iff.1 hb).1
    have hci : cur[i]? = some (.int .i64 (gfn xs i)) := by
      have : (cur.toList.take (xs.length * 1))[i]? = (xs.map fun x => Value.int .i64 x)[i]? := by rw [htk]
      rw [List.getElem?_take_of_lt (by omega), List.getElem?_map, List.getElem?_eq_getElem hi] at this
      rw [← Array.getElem?_toList, this]
      unfold gfn
      rw [List.getD_eq_getElem?_getD, List.getElem?_eq_getElem hi]
      rfl
    refine ⟨⟨by simp, .inr ⟨g, cap, cur.setIfInBounds i (.int .i64 x), by rw [List.length_set], hg, ?_, by rw [List.length_set]; exact hn, hcap, by simpa using hsz, ?_⟩⟩, ?_, ?_, rfl, hg, hlt⟩
    · simp [World.setCell, Array.getElem?_modify, hb]
    · rw [Array.toList_setIfInBounds, List.take_set, List.length_set, htk, List.map_set]
    · simp [World.cell?, hb, hci]
    · simp [World.frozen?, hb]
end Go.Proofs.Ytioceechdombjaa
