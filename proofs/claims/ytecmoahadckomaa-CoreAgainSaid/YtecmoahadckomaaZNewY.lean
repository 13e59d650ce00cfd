/- gantryref05.New's full row; two, three nodes appended to a full row. -/
import Derived.Test.YtecmoahadckomaaZTermETermF
import Derived.Test.YtecmoahadckomaaZRCheck
import Derived.Test.YtecmoahadckomaaZSetBoxMkM
namespace Go.Proofs.Ytecmoahadckomaa
open Go.RowKit Go.Maps
set_option maxRecDepth 100000

theorem cells_new (w : World) (c : Array Value) (t : TypeId) (j : Nat) (u : Value) (h : c[j]? = some u) : (w.alloc (.cells c t)).cell? ((⟨w.heap.size, 0, none⟩ : Addr).add j) = some u := by
  have e : ((⟨w.heap.size, 0, none⟩ : Addr).add j) = ⟨w.heap.size, j, none⟩ := by
    unfold Addr.add; split
    · next e => rw [e]
    · simp
  rw [e]
  have h1 : c.size > j := by
    rcases Nat.lt_or_ge j c.size with h' | h'
    · exact h'
    · rw [Array.getElem?_eq_none h'] at h; cases h
  have hr := World.rowIs_alloc w c t (fun i => c.getD i .nilIface) (fun i hi => by simp [Array.getD, hi])
  have hx := hr.cell h1
  rw [hx, ← h]
  simp [Array.getD, h1]
theorem wpList_app2n {ops : Array Oper} {rest : List Oper} {o : Oper} {a : Act} {w : World} {Q : Exit → Act → World → Prop}
    (hg : o.guard = none) (s x : Operand) (hop : o.op = Op.call { callee := Callee.builtin Builtin.append, args := #[s, x], argTypes := #[22, 22] })
    (A : Option Addr) (n : Nat) (N : Nat → Nd) (hs : a.eval s = .slice A n n) (hn0 : 0 < n) (hN : NdsAt w (.slice A n n) n N) (hn : n ≤ 1000000)
    (g c : Nat) (e1 e2 : Nd) (hx : a.eval x = .slice (some ⟨g, 0, none⟩) 2 c) (hc : ∀ j u, (ndC e1 ++ ndC e2)[j]? = some u → w.cell? ((⟨g, 0, none⟩ : Addr).add j) = some u) (h1 : NdR e1) (h2 : NdR e2)
    (hK : ∀ g' cap w', NdsAt w' (.slice (some ⟨g', 0, none⟩) (n + 2) cap) (n + 2) (extN (extN N n e1) (n + 1) e2) → Below w.heap.size w w' → w.heap.size ≤ g' → wpList Try.prog ops Q rest (a.put o.dst (.slice (some ⟨g', 0, none⟩) (n + 2) cap)) w') :
    wpList Try.prog ops Q (o :: rest) a w := by
  have hw : Region.wanted o (yielded ops a.tmps) = true := by simp [Region.wanted, hg]
  refine BigFrame.wpList_want hw fun K hK' => ?_
  obtain ⟨i0, hi, hz0, hz1, hz2⟩ := info_parts info_node
  obtain ⟨A', c', e', _, hr, hcs⟩ := hN
  injection e' with e1' _ _
  subst e1'
  obtain ⟨b, ob, rfl, hb, hcell⟩ := hcs hn0
  have H := step_append_grows (P := Try.prog) (K := K) (Q := Q) (ops := ops) (E := True) (w := w) (a := a) (o := o) hg s x _ hop 39 i0 (ndV nd0) 8 56 Try.underlying22 hi hz0 hz1 hz2 rfl (by decide) (some ⟨b, ob, none⟩) n n ((List.range n).flatMap fun i => ndC (N i)) hs (fun h => by cases h)
    (flat_len _ 8 (fun i => ndC_len _) n) ?_ ⟨g, 0, none⟩ 2 c (ndC e1 ++ ndC e2) hx rfl hc ?_ (by omega) (by unfold maxLen; omega) (by omega) ?_
  · rwa [if_pos hw] at H
  · intro b' hb' j u hu
    injection hb' with hb'
    subst hb'
    obtain ⟨i, r, hin, hr8, rfl, hu'⟩ := flat_at _ 8 (fun i => ndC_len _) n j u hu
    have e1 : ((⟨b, ob, none⟩ : Addr).add (i * 8 + r)) = ⟨b, ob + i * 8 + r, none⟩ := by
      unfold Addr.add; split
      · next e => rw [Nat.add_assoc, e, Nat.add_zero]
      · rw [Nat.add_assoc]
    rw [e1]
    obtain ⟨h0, h1, h2, h3, h4, h5, h6, h7⟩ := hcell i hin
    have : r = 0 ∨ r = 1 ∨ r = 2 ∨ r = 3 ∨ r = 4 ∨ r = 5 ∨ r = 6 ∨ r = 7 := by omega
    rcases this with rfl | rfl | rfl | rfl | rfl | rfl | rfl | rfl <;> (simp [ndC] at hu'; subst hu')
    · exact h0
    · exact h1
    · exact h2
    · exact h3
    · exact h4
    · exact h5
    · exact h6
    · exact h7
  · intro u hu
    exact (List.mem_append.1 hu).elim (ndC_one e1 u) (ndC_one e2 u)
  · intro v' w' hown hgr
    rw [← List.append_assoc, flatN_ext, flatN_ext] at hown
    have hN' : NdsAt w' v' (n + 2) (extN (extN N n e1) (n + 1) e2) := OwnN.at_ (base := w.heap.size) hown (extN_R (extN_R hr h1) h2)
    obtain ⟨g', cap, rfl, hge, _⟩ := World.ownsRow.form hown (by omega)
    exact hK' _ _ (hK g' cap w' hN' ((Below.refl w.heap.size w).grown hgr (Nat.le_refl _) (fun k hk => by cases hk)) hge)
theorem wpList_app3n {ops : Array Oper} {rest : List Oper} {o : Oper} {a : Act} {w : World} {Q : Exit → Act → World → Prop}
    (hg : o.guard = none) (s x : Operand) (hop : o.op = Op.call { callee := Callee.builtin Builtin.append, args := #[s, x], argTypes := #[22, 22] })
    (A : Option Addr) (n : Nat) (N : Nat → Nd) (hs : a.eval s = .slice A n n) (hn0 : 0 < n) (hN : NdsAt w (.slice A n n) n N) (hn : n ≤ 1000000)
    (g c : Nat) (e1 e2 e3 : Nd) (hx : a.eval x = .slice (some ⟨g, 0, none⟩) 3 c) (hc : ∀ j u, (ndC e1 ++ ndC e2 ++ ndC e3)[j]? = some u → w.cell? ((⟨g, 0, none⟩ : Addr).add j) = some u) (h1 : NdR e1) (h2 : NdR e2) (h3 : NdR e3)
    (hK : ∀ g' cap w', NdsAt w' (.slice (some ⟨g', 0, none⟩) (n + 3) cap) (n + 3) (extN (extN (extN N n e1) (n + 1) e2) (n + 2) e3) → Below w.heap.size w w' → w.heap.size ≤ g' → wpList Try.prog ops Q rest (a.put o.dst (.slice (some ⟨g', 0, none⟩) (n + 3) cap)) w') :
    wpList Try.prog ops Q (o :: rest) a w := by
  have hw : Region.wanted o (yielded ops a.tmps) = true := by simp [Region.wanted, hg]
  refine BigFrame.wpList_want hw fun K hK' => ?_
  obtain ⟨i0, hi, hz0, hz1, hz2⟩ := info_parts info_node
  obtain ⟨A', c', e', _, hr, hcs⟩ := hN
  injection e' with e1' _ _
  subst e1'
  obtain ⟨b, ob, rfl, hb, hcell⟩ := hcs hn0
  have H := step_append_grows (P := Try.prog) (K := K) (Q := Q) (ops := ops) (E := True) (w := w) (a := a) (o := o) hg s x _ hop 39 i0 (ndV nd0) 8 56 Try.underlying22 hi hz0 hz1 hz2 rfl (by decide) (some ⟨b, ob, none⟩) n n ((List.range n).flatMap fun i => ndC (N i)) hs (fun h => by cases h)
    (flat_len _ 8 (fun i => ndC_len _) n) ?_ ⟨g, 0, none⟩ 3 c (ndC e1 ++ ndC e2 ++ ndC e3) hx rfl hc ?_ (by omega) (by unfold maxLen; omega) (by omega) ?_
  · rwa [if_pos hw] at H
  · intro b' hb' j u hu
    injection hb' with hb'
    subst hb'
    obtain ⟨i, r, hin, hr8, rfl, hu'⟩ := flat_at _ 8 (fun i => ndC_len _) n j u hu
    have e1 : ((⟨b, ob, none⟩ : Addr).add (i * 8 + r)) = ⟨b, ob + i * 8 + r, none⟩ := by
      unfold Addr.add; split
      · next e => rw [Nat.add_assoc, e, Nat.add_zero]
      · rw [Nat.add_assoc]
    rw [e1]
    obtain ⟨h0, h1, h2, h3, h4, h5, h6, h7⟩ := hcell i hin
    have : r = 0 ∨ r = 1 ∨ r = 2 ∨ r = 3 ∨ r = 4 ∨ r = 5 ∨ r = 6 ∨ r = 7 := by omega
    rcases this with rfl | rfl | rfl | rfl | rfl | rfl | rfl | rfl <;> (simp [ndC] at hu'; subst hu')
    · exact h0
    · exact h1
    · exact h2
    · exact h3
    · exact h4
    · exact h5
    · exact h6
    · exact h7
  · intro u hu
    rcases List.mem_append.1 hu with hu | hu
    · exact (List.mem_append.1 hu).elim (ndC_one e1 u) (ndC_one e2 u)
    · exact ndC_one e3 u hu
  · intro v' w' hown hgr
    rw [← List.append_assoc, ← List.append_assoc, flatN_ext, flatN_ext, flatN_ext] at hown
    have hN' : NdsAt w' v' (n + 3) (extN (extN (extN N n e1) (n + 1) e2) (n + 2) e3) := OwnN.at_ (base := w.heap.size) hown (extN_R (extN_R (extN_R hr h1) h2) h3)
    obtain ⟨g', cap, rfl, hge, _⟩ := World.ownsRow.form hown (by omega)
    exact hK' _ _ (hK g' cap w' hN' ((Below.refl w.heap.size w).grown hgr (Nat.le_refl _) (fun k hk => by cases hk)) hge)
theorem RNewY_any (w : World) : Calls Try.prog 17 #[] w fun e w' => ∃ b, e = .returned (.agg #[.slice (some ⟨b, 0, none⟩) 2 2]) ∧ NdsAt w' (.slice (some ⟨b, 0, none⟩) 2 2) 2 newN ∧ w.heap.size ≤ b ∧ Below w.heap.size w w' := by
  go_enter Try.func17, Try.ntmps17
  go_wp2
  refine bodyPost_ret (results_tab rfl _ _ w.heap.size (.slice (some ⟨w.heap.size + 1, 0, none⟩) 2 2) rfl (by simp)) rfl ⟨_, rfl, ?_, by omega, ((Below.refl _ _).alloc (Nat.le_refl _) _).alloc (by simp) _⟩
  have := new_cells (w.alloc (.cells #[.slice (some ⟨w.heap.size + 1, 0, none⟩) 2 2] 24)) 39
  simpa using this

end Go.Proofs.Ytecmoahadckomaa
