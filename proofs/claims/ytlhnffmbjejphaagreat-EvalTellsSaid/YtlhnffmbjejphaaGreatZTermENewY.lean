/- term.Put. -/
import Derived.Test.YtlhnffmbjejphaaGreatZTermCToSetBox
import Derived.Test.YtlhnffmbjejphaaGreatZOwn
import Derived.Deep.RegionLawGrows
import Derived.Deep.RegionHeld3
namespace Go.Proofs.YtlhnffmbjejphaaGreat
open Go.RowKit Go.Maps

theorem ndC_len (e : Nd) : (ndC e).length = 8 := rfl
/-- A row of nodes of the call's own. -/
def OwnN (w : World) (base : Nat) (v : Value) (n : Nat) (N : Nat → Nd) : Prop := OwnG w base 53 8 v n (fun i => ndC (N i))
theorem OwnN.at_ {w : World} {base : Nat} {v : Value} {n : Nat} {N : Nat → Nd} (h : OwnN w base v n N) (hr : ∀ i, i < n → NdR (N i)) : NdsAt w v n N := by
  have hcap : ∀ A n' c, v = .slice A n' c → n ≤ c ∧ c ≤ 9223372036854775807 := by
    intro A n' c hv
    rcases h.2 with ⟨rfl, h0⟩ | ⟨g, cap, cur, rfl, _, _, h1, h2, _⟩
    · injection hv with h1 h2 h3; subst h3; omega
    · injection hv with e1 e2 e3; subst e3; unfold maxLen at h2; omega
  obtain ⟨A, c, rfl, hs, hc⟩ := OwnG.at_ h (fun i => ndC_len _)
  refine ⟨A, c, rfl, hcap _ _ _ rfl, hr, fun h0 => ?_⟩
  obtain ⟨b, o, rfl, hb, hc⟩ := hc h0
  exact ⟨b, o, rfl, hb, fun i hi => ⟨hc i hi 0 _ rfl, hc i hi 1 _ rfl, hc i hi 2 _ rfl, hc i hi 3 _ rfl, hc i hi 4 _ rfl, hc i hi 5 _ rfl, hc i hi 6 _ rfl, hc i hi 7 _ rfl⟩⟩

theorem flatN_ext (N : Nat → Nd) (n : Nat) (e : Nd) : (List.range n).flatMap (fun i => ndC (N i)) ++ ndC e = (List.range (n + 1)).flatMap (fun i => ndC (extN N n e i)) := by
  have h := flat_app (fun i => ndC (N i)) (fun _ => ndC e) n 1
  rw [show (List.range 1).flatMap (fun _ => ndC e) = ndC e by simp] at h
  rw [h]
  refine flat_congr fun i hi => ?_
  by_cases hin : i < n
  · rw [if_pos hin, extN_lt hin]
  · rw [if_neg hin]; unfold extN; rw [if_neg hin]
theorem extN_R {N : Nat → Nd} {n : Nat} {e : Nd} (h : ∀ i, i < n → NdR (N i)) (he : NdR e) : ∀ i, i < n + 1 → NdR (extN N n e i) := by
  intro i hi
  unfold extN
  split
  · next h' => exact h i h'
  · exact he

theorem ndC_one (e : Nd) : ∀ u ∈ ndC e, u.oneCell' = true := by
  intro u hu
  simp only [ndC, List.mem_cons, List.mem_nil_iff, or_false] at hu
  rcases hu with rfl | rfl | rfl | rfl | rfl | rfl | rfl | rfl <;> rfl
theorem nd_news {w : World} {g : Nat} {e : Nd} (h : NdIn w g 0 e) : ∀ j u, (ndC e)[j]? = some u → w.cell? ((⟨g, 0, none⟩ : Addr).add j) = some u := by
  intro j u hu
  have h8 : j < 8 := (List.getElem?_eq_some_iff.1 hu).1
  have e1 : ((⟨g, 0, none⟩ : Addr).add j) = ⟨g, j, none⟩ := by
    unfold Addr.add; split
    · next e => rw [e]
    · simp
  rw [e1]
  obtain ⟨h0, h1, h2, h3, h4, h5, h6, h7⟩ := h
  have : j = 0 ∨ j = 1 ∨ j = 2 ∨ j = 3 ∨ j = 4 ∨ j = 5 ∨ j = 6 ∨ j = 7 := by omega
  rcases this with rfl | rfl | rfl | rfl | rfl | rfl | rfl | rfl <;> (simp [ndC] at hu; subst hu)
  · exact h0
  · simpa using h1
  · simpa using h2
  · simpa using h3
  · simpa using h4
  · simpa using h5
  · simpa using h6
  · simpa using h7

set_option maxRecDepth 100000 in
/-- append of one node onto a full row. -/
theorem step_appN {ops : Array Oper} {o : Oper} {a : Act} {w : World} {K : Act → World → Prop} {Q : Exit → Act → World → Prop} {E : Prop}
    (hg : o.guard = none) (s x : Operand) (hop : o.op = Op.call { callee := Callee.builtin Builtin.append, args := #[s, x], argTypes := #[31, 31] })
    (A : Option Addr) (n : Nat) (N : Nat → Nd) (hs : a.eval s = .slice A n n) (hn0 : 0 < n) (hN : NdsAt w (.slice A n n) n N) (hn : n ≤ 1000000)
    (g c : Nat) (e : Nd) (hx : a.eval x = .slice (some ⟨g, 0, none⟩) 1 c) (hc : NdIn w g 0 e) (he : NdR e)
    (hK : ∀ g' cap w', NdsAt w' (.slice (some ⟨g', 0, none⟩) (n + 1) cap) (n + 1) (extN N n e) → Below w.heap.size w w' → w.heap.size ≤ g' → K (a.put o.dst (.slice (some ⟨g', 0, none⟩) (n + 1) cap)) w') :
    if Region.wanted o (yielded ops a.tmps) = true then Oper.wp Tryz.prog o a w K Q else E := by
  obtain ⟨i0, hi, hz0, hz1, hz2⟩ := info_parts info_node
  obtain ⟨A', c', e', _, hr, hcs⟩ := hN
  injection e' with e1 _ _
  subst e1
  obtain ⟨b, ob, rfl, hb, hcell⟩ := hcs hn0
  refine step_append_grows (P := Tryz.prog) hg s x _ hop 53 i0 (ndV nd0) 8 56 Tryz.underlying31 hi hz0 hz1 hz2 rfl (by decide) (some ⟨b, ob, none⟩) n n ((List.range n).flatMap fun i => ndC (N i)) hs (fun h => by cases h)
    (flat_len _ 8 (fun i => ndC_len _) n) ?_ ⟨g, 0, none⟩ 1 c (ndC e) hx rfl (nd_news hc) (ndC_one e) (by omega) (by unfold maxLen; omega) (by omega) ?_
  · intro b' hb' j u hu
    injection hb' with hb'
    subst hb'
    obtain ⟨i, r, hin, hr8, rfl, hu'⟩ := flat_at _ 8 (fun i => ndC_len _) n j u hu
    have e1 : ((⟨b, ob, none⟩ : Addr).add (i * 8 + r)) = ⟨b, ob + i * 8 + r, none⟩ := by
      unfold Addr.add; split
      · next e => rw [Nat.add_assoc, e, Nat.add_zero]
      · rw [Nat.add_assoc]
    rw [e1]
    obtain ⟨h0, h1, h2, h3, h4, h5, h6, h7⟩ := hcell i hin
    have : r = 0 ∨ r = 1 ∨ r = 2 ∨ r = 3 ∨ r = 4 ∨ r = 5 ∨ r = 6 ∨ r = 7 := by omega
    rcases this with rfl | rfl | rfl | rfl | rfl | rfl | rfl | rfl <;> (simp [ndC] at hu'; subst hu')
    · exact h0
    · exact h1
    · exact h2
    · exact h3
    · exact h4
    · exact h5
    · exact h6
    · exact h7
  · intro v' w' hown hgr
    rw [flatN_ext] at hown
    have hN' : NdsAt w' v' (n + 1) (extN N n e) := OwnN.at_ (base := w.heap.size) hown (extN_R hr he)
    obtain ⟨g', cap, rfl, hge, _⟩ := World.ownsRow.form hown (by omega)
    exact hK g' cap w' hN' ((Below.refl _ _).grown hgr (Nat.le_refl _) (fun k h => by cases h)) hge
theorem NdsAt.setOther {w : World} {g n c : Nat} {N : Nat → Nd} (h : NdsAt w (.slice (some ⟨g, 0, none⟩) n c) n N) {a : Addr} (ha : a.block ≠ g) (u : Value) : NdsAt (w.setCell a u) (.slice (some ⟨g, 0, none⟩) n c) n N := by
  obtain ⟨A, c', e, hn, hr, hc⟩ := h
  injection e with e1 _ e3
  subst e1; subst e3
  refine ⟨_, _, rfl, hn, hr, fun h0 => ?_⟩
  obtain ⟨b, o, e, hb, hc⟩ := hc h0
  injection e with e
  injection e with e1 e2
  subst e1; subst e2
  exact ⟨_, _, rfl, by simpa using hb, fun i hi => (hc i hi).keep fun j => World.cell?_setCell_far _ _ _ _ ha⟩
end Go.Proofs.YtlhnffmbjejphaaGreat

namespace Go.Proofs.YtlhnffmbjejphaaGreat
open Go.RowKit Go.Maps
set_option maxRecDepth 100000

theorem cells_new (w : World) (c : Array Value) (t : TypeId) (j : Nat) (u : Value) (h : c[j]? = some u) : (w.alloc (.cells c t)).cell? ((⟨w.heap.size, 0, none⟩ : Addr).add j) = some u := by
  have e : ((⟨w.heap.size, 0, none⟩ : Addr).add j) = ⟨w.heap.size, j, none⟩ := by
    unfold Addr.add; split
    · next e => rw [e]
    · simp
  rw [e]
  have h1 : c.size > j := by
    rcases Nat.lt_or_ge j c.size with h' | h'
    · exact h'
    · rw [Array.getElem?_eq_none h'] at h; cases h
  have hr := World.rowIs_alloc w c t (fun i => c.getD i .nilIface) (fun i hi => by simp [Array.getD, hi])
  have hx := hr.cell h1
  rw [hx, ← h]
  simp [Array.getD, h1]
theorem wpList_app2n {ops : Array Oper} {rest : List Oper} {o : Oper} {a : Act} {w : World} {Q : Exit → Act → World → Prop}
    (hg : o.guard = none) (s x : Operand) (hop : o.op = Op.call { callee := Callee.builtin Builtin.append, args := #[s, x], argTypes := #[31, 31] })
    (A : Option Addr) (n : Nat) (N : Nat → Nd) (hs : a.eval s = .slice A n n) (hn0 : 0 < n) (hN : NdsAt w (.slice A n n) n N) (hn : n ≤ 1000000)
    (g c : Nat) (e1 e2 : Nd) (hx : a.eval x = .slice (some ⟨g, 0, none⟩) 2 c) (hc : ∀ j u, (ndC e1 ++ ndC e2)[j]? = some u → w.cell? ((⟨g, 0, none⟩ : Addr).add j) = some u) (h1 : NdR e1) (h2 : NdR e2)
    (hK : ∀ g' cap w', NdsAt w' (.slice (some ⟨g', 0, none⟩) (n + 2) cap) (n + 2) (extN (extN N n e1) (n + 1) e2) → Below w.heap.size w w' → w.heap.size ≤ g' → wpList Tryz.prog ops Q rest (a.put o.dst (.slice (some ⟨g', 0, none⟩) (n + 2) cap)) w') :
    wpList Tryz.prog ops Q (o :: rest) a w := by
  have hw : Region.wanted o (yielded ops a.tmps) = true := by simp [Region.wanted, hg]
  refine BigFrame.wpList_want hw fun K hK' => ?_
  obtain ⟨i0, hi, hz0, hz1, hz2⟩ := info_parts info_node
  obtain ⟨A', c', e', _, hr, hcs⟩ := hN
  injection e' with e1' _ _
  subst e1'
  obtain ⟨b, ob, rfl, hb, hcell⟩ := hcs hn0
  have H := step_append_grows (P := Tryz.prog) (K := K) (Q := Q) (ops := ops) (E := True) (w := w) (a := a) (o := o) hg s x _ hop 53 i0 (ndV nd0) 8 56 Tryz.underlying31 hi hz0 hz1 hz2 rfl (by decide) (some ⟨b, ob, none⟩) n n ((List.range n).flatMap fun i => ndC (N i)) hs (fun h => by cases h)
    (flat_len _ 8 (fun i => ndC_len _) n) ?_ ⟨g, 0, none⟩ 2 c (ndC e1 ++ ndC e2) hx rfl hc ?_ (by omega) (by unfold maxLen; omega) (by omega) ?_
  · rwa [if_pos hw] at H
  · intro b' hb' j u hu
    injection hb' with hb'
    subst hb'
    obtain ⟨i, r, hin, hr8, rfl, hu'⟩ := flat_at _ 8 (fun i => ndC_len _) n j u hu
    have e1 : ((⟨b, ob, none⟩ : Addr).add (i * 8 + r)) = ⟨b, ob + i * 8 + r, none⟩ := by
      unfold Addr.add; split
      · next e => rw [Nat.add_assoc, e, Nat.add_zero]
      · rw [Nat.add_assoc]
    rw [e1]
    obtain ⟨h0, h1, h2, h3, h4, h5, h6, h7⟩ := hcell i hin
    have : r = 0 ∨ r = 1 ∨ r = 2 ∨ r = 3 ∨ r = 4 ∨ r = 5 ∨ r = 6 ∨ r = 7 := by omega
    rcases this with rfl | rfl | rfl | rfl | rfl | rfl | rfl | rfl <;> (simp [ndC] at hu'; subst hu')
    · exact h0
    · exact h1
    · exact h2
    · exact h3
    · exact h4
    · exact h5
    · exact h6
    · exact h7
  · intro u hu
    exact (List.mem_append.1 hu).elim (ndC_one e1 u) (ndC_one e2 u)
  · intro v' w' hown hgr
    rw [← List.append_assoc, flatN_ext, flatN_ext] at hown
    have hN' : NdsAt w' v' (n + 2) (extN (extN N n e1) (n + 1) e2) := OwnN.at_ (base := w.heap.size) hown (extN_R (extN_R hr h1) h2)
    obtain ⟨g', cap, rfl, hge, _⟩ := World.ownsRow.form hown (by omega)
    exact hK' _ _ (hK g' cap w' hN' ((Below.refl w.heap.size w).grown hgr (Nat.le_refl _) (fun k hk => by cases hk)) hge)
theorem wpList_app3n {ops : Array Oper} {rest : List Oper} {o : Oper} {a : Act} {w : World} {Q : Exit → Act → World → Prop}
    (hg : o.guard = none) (s x : Operand) (hop : o.op = Op.call { callee := Callee.builtin Builtin.append, args := #[s, x], argTypes := #[31, 31] })
    (A : Option Addr) (n : Nat) (N : Nat → Nd) (hs : a.eval s = .slice A n n) (hn0 : 0 < n) (hN : NdsAt w (.slice A n n) n N) (hn : n ≤ 1000000)
    (g c : Nat) (e1 e2 e3 : Nd) (hx : a.eval x = .slice (some ⟨g, 0, none⟩) 3 c) (hc : ∀ j u, (ndC e1 ++ ndC e2 ++ ndC e3)[j]? = some u → w.cell? ((⟨g, 0, none⟩ : Addr).add j) = some u) (h1 : NdR e1) (h2 : NdR e2) (h3 : NdR e3)
    (hK : ∀ g' cap w', NdsAt w' (.slice (some ⟨g', 0, none⟩) (n + 3) cap) (n + 3) (extN (extN (extN N n e1) (n + 1) e2) (n + 2) e3) → Below w.heap.size w w' → w.heap.size ≤ g' → wpList Tryz.prog ops Q rest (a.put o.dst (.slice (some ⟨g', 0, none⟩) (n + 3) cap)) w') :
    wpList Tryz.prog ops Q (o :: rest) a w := by
  have hw : Region.wanted o (yielded ops a.tmps) = true := by simp [Region.wanted, hg]
  refine BigFrame.wpList_want hw fun K hK' => ?_
  obtain ⟨i0, hi, hz0, hz1, hz2⟩ := info_parts info_node
  obtain ⟨A', c', e', _, hr, hcs⟩ := hN
  injection e' with e1' _ _
  subst e1'
  obtain ⟨b, ob, rfl, hb, hcell⟩ := hcs hn0
  have H := step_append_grows (P := Tryz.prog) (K := K) (Q := Q) (ops := ops) (E := True) (w := w) (a := a) (o := o) hg s x _ hop 53 i0 (ndV nd0) 8 56 Tryz.underlying31 hi hz0 hz1 hz2 rfl (by decide) (some ⟨b, ob, none⟩) n n ((List.range n).flatMap fun i => ndC (N i)) hs (fun h => by cases h)
    (flat_len _ 8 (fun i => ndC_len _) n) ?_ ⟨g, 0, none⟩ 3 c (ndC e1 ++ ndC e2 ++ ndC e3) hx rfl hc ?_ (by omega) (by unfold maxLen; omega) (by omega) ?_
  · rwa [if_pos hw] at H
  · intro b' hb' j u hu
    injection hb' with hb'
    subst hb'
    obtain ⟨i, r, hin, hr8, rfl, hu'⟩ := flat_at _ 8 (fun i => ndC_len _) n j u hu
    have e1 : ((⟨b, ob, none⟩ : Addr).add (i * 8 + r)) = ⟨b, ob + i * 8 + r, none⟩ := by
      unfold Addr.add; split
      · next e => rw [Nat.add_assoc, e, Nat.add_zero]
      · rw [Nat.add_assoc]
    rw [e1]
    obtain ⟨h0, h1, h2, h3, h4, h5, h6, h7⟩ := hcell i hin
    have : r = 0 ∨ r = 1 ∨ r = 2 ∨ r = 3 ∨ r = 4 ∨ r = 5 ∨ r = 6 ∨ r = 7 := by omega
    rcases this with rfl | rfl | rfl | rfl | rfl | rfl | rfl | rfl <;> (simp [ndC] at hu'; subst hu')
    · exact h0
    · exact h1
    · exact h2
    · exact h3
    · exact h4
    · exact h5
    · exact h6
    · exact h7
  · intro u hu
    rcases List.mem_append.1 hu with hu | hu
    · exact (List.mem_append.1 hu).elim (ndC_one e1 u) (ndC_one e2 u)
    · exact ndC_one e3 u hu
  · intro v' w' hown hgr
    rw [← List.append_assoc, ← List.append_assoc, flatN_ext, flatN_ext, flatN_ext] at hown
    have hN' : NdsAt w' v' (n + 3) (extN (extN (extN N n e1) (n + 1) e2) (n + 2) e3) := OwnN.at_ (base := w.heap.size) hown (extN_R (extN_R (extN_R hr h1) h2) h3)
    obtain ⟨g', cap, rfl, hge, _⟩ := World.ownsRow.form hown (by omega)
    exact hK' _ _ (hK g' cap w' hN' ((Below.refl w.heap.size w).grown hgr (Nat.le_refl _) (fun k hk => by cases hk)) hge)
theorem RNewY_any (w : World) : Calls Tryz.prog 21 #[] w fun e w' => ∃ b, e = .returned (.agg #[.slice (some ⟨b, 0, none⟩) 2 2]) ∧ NdsAt w' (.slice (some ⟨b, 0, none⟩) 2 2) 2 newN ∧ w.heap.size ≤ b ∧ Below w.heap.size w w' := by
  go_enter Tryz.func21, Tryz.ntmps21
  go_wp2
  refine bodyPost_ret (results_tab rfl _ _ w.heap.size (.slice (some ⟨w.heap.size + 1, 0, none⟩) 2 2) rfl (by simp)) rfl ⟨_, rfl, ?_, by omega, ((Below.refl _ _).alloc (Nat.le_refl _) _).alloc (by simp) _⟩
  have := new_cells (w.alloc (.cells #[.slice (some ⟨w.heap.size + 1, 0, none⟩) 2 2] 33)) 53
  simpa using this

end Go.Proofs.YtlhnffmbjejphaaGreat
