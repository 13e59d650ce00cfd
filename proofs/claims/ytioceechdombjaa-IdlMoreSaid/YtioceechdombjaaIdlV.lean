/- gantrylaw25.two. -/
import Derived.Test.YtioceechdombjaaIdlG
import Derived.Test.YtioceechdombjaaTermE
import Derived.Test.YtioceechdombjaaRCheck
import Derived.Test.YtioceechdombjaaSetBox
namespace Go.Proofs.Ytioceechdombjaa
open Go.RowKit Go.Maps
set_option maxRecDepth 100000

def xNd : Nd := ⟨13, 0, 0, 0, 0, 1, 0, 0⟩
def yNd : Nd := ⟨13, 0, 0, 0, 0, 1, 1, 0⟩
def dNd : Nd := ⟨12, 2, 2, 3, 0, 0, 0, 2⟩
def eNd : Nd := ⟨12, 2, 3, 2, 0, 0, 0, -3⟩
def n6 : Nat → Nd := extN (extN (extN (extN newN 2 xNd) 3 yNd) 4 dNd) 5 eNd
theorem xNd_R : NdR xNd := ⟨⟨by decide, by decide⟩, ⟨by decide, by decide⟩, ⟨by decide, by decide⟩, ⟨by decide, by decide⟩, ⟨by decide, by decide⟩, ⟨by decide, by decide⟩, ⟨by decide, by decide⟩, ⟨by decide, by decide⟩⟩
theorem yNd_R : NdR yNd := ⟨⟨by decide, by decide⟩, ⟨by decide, by decide⟩, ⟨by decide, by decide⟩, ⟨by decide, by decide⟩, ⟨by decide, by decide⟩, ⟨by decide, by decide⟩, ⟨by decide, by decide⟩, ⟨by decide, by decide⟩⟩
theorem dNd_R : NdR dNd := ⟨⟨by decide, by decide⟩, ⟨by decide, by decide⟩, ⟨by decide, by decide⟩, ⟨by decide, by decide⟩, ⟨by decide, by decide⟩, ⟨by decide, by decide⟩, ⟨by decide, by decide⟩, ⟨by decide, by decide⟩⟩
theorem eNd_R : NdR eNd := ⟨⟨by decide, by decide⟩, ⟨by decide, by decide⟩, ⟨by decide, by decide⟩, ⟨by decide, by decide⟩, ⟨by decide, by decide⟩, ⟨by decide, by decide⟩, ⟨by decide, by decide⟩, ⟨by decide, by decide⟩⟩
theorem stands_app (e : Nd) (at_ : Int) (h1 : e.op = 13) (h2 : e.len = 0) (h3 : e.a0 = 0) (h4 : e.a1 = 0) (h5 : e.a2 = 0) (h6 : e.sort = 1) (h7 : 0 ≤ e.fn ∧ e.fn < 12) (h8 : e.num = 0) : StandsP e at_ := by
  have arg : ∀ i, argP e at_ i := fun i => ⟨fun h => by omega, fun _ => by unfold Nd.arg; split <;> simp [*]⟩
  exact ⟨by rw [h1]; decide, fun h => by rw [h1] at h; exact absurd h (by decide), by omega, by omega, by omega, by omega, arg 0, arg 1, arg 2, h7.1, h7.2, fun _ => h1, fun h => by omega, fun _ _ _ => h8⟩
theorem stands_diff (e : Nd) (at_ : Int) (h1 : e.op = 12) (h2 : e.len = 2) (h3 : 0 ≤ e.a0 ∧ e.a0 < at_) (h4 : 0 ≤ e.a1 ∧ e.a1 < at_) (h5 : e.a2 = 0) (h6 : e.sort = 0) (h7 : e.fn = 0) (h8 : mayB e.num = true) : StandsP e at_ :=
  ⟨by rw [h1]; decide, fun _ => by rw [h1, h2]; decide, by omega, by omega, by omega, by omega, ⟨fun _ => h3, fun h => by omega⟩, ⟨fun _ => h4, fun h => by omega⟩, ⟨fun h => by omega, fun _ => h5⟩, by omega, by omega, fun h => absurd h7 h, fun _ => h8, fun _ _ h => absurd h1 h⟩
theorem check_n6 : CheckP 6 n6 := by
  refine CheckP.ext (n := 5) (CheckP.ext (n := 4) (CheckP.ext (n := 3) (CheckP.ext (n := 2) check_new (stands_app _ _ rfl rfl rfl rfl rfl rfl ⟨by decide, by decide⟩ rfl) ?_) (stands_app _ _ rfl rfl rfl rfl rfl rfl ⟨by decide, by decide⟩ rfl) ?_)
    (stands_diff _ _ rfl rfl ⟨by decide, by decide⟩ ⟨by decide, by decide⟩ rfl rfl rfl (by decide)) ?_) (stands_diff _ _ rfl rfl ⟨by decide, by decide⟩ ⟨by decide, by decide⟩ rfl rfl rfl (by decide)) ?_
  · intro i hi h
    have : i = 0 ∨ i = 1 := by omega
    rcases this with rfl | rfl <;> exact absurd (congrArg Nd.op h) (by decide)
  · intro i hi h
    have : i = 0 ∨ i = 1 ∨ i = 2 := by omega
    rcases this with rfl | rfl | rfl <;> exact absurd (congrArg Nd.fn h) (by decide)
  · intro i hi h
    have : i = 0 ∨ i = 1 ∨ i = 2 ∨ i = 3 := by omega
    rcases this with rfl | rfl | rfl | rfl <;> exact absurd (congrArg Nd.op h) (by decide)
  · intro i hi h
    have : i = 0 ∨ i = 1 ∨ i = 2 ∨ i = 3 ∨ i = 4 := by omega
    rcases this with rfl | rfl | rfl | rfl | rfl <;> exact absurd (congrArg Nd.num h) (by decide)
theorem two_bad : ckB 6 n6 [8, 10] = true := by decide
theorem two_ok : ckB 6 n6 [8, 11] = false := by decide
theorem two_ok' : ckE 6 n6 [8, 11] = 0 := by decide
theorem two_nums : ckL 6 n6 [8, 11] = [0, 0, 0, 0, 0, 0] := by decide
theorem two_lem : ckB 6 n6 ([9, 11].map negL) = true := by decide
theorem two_lem' : ckB 6 n6 ([9].map negL) = false := by decide
theorem two_lits (x : Int) (h : x = 8 ∨ x = 9 ∨ x = 10 ∨ x = 11) : badLit 6 n6 x = false := by rcases h with rfl | rfl | rfl | rfl <;> decide

theorem cells_new (w : World) (c : Array Value) (t : TypeId) (j : Nat) (u : Value) (h : c[j]? = some u) : (w.alloc (.cells c t)).cell? ((⟨w.heap.size, 0, none⟩ : Addr).add j) = some u := by
  have e : ((⟨w.heap.size, 0, none⟩ : Addr).add j) = ⟨w.heap.size, j, none⟩ := by
    unfold Addr.add; split
    · next e => rw [e]
    · simp
  rw [e]
  have h1 : c.size > j := by
    rcases Nat.lt_or_ge j c.size with h' | h'
    · exact h'
    · rw [Array.getElem?_eq_none h'] at h; cases h
  have hr := World.rowIs_alloc w c t (fun i => c.getD i .nilIface) (fun i hi => by simp [Array.getD, hi])
  have hx := hr.cell h1
  rw [hx, ← h]
  simp [Array.getD, h1]
theorem wpList_app4 {ops : Array Oper} {rest : List Oper} {o : Oper} {a : Act} {w : World} {Q : Exit → Act → World → Prop}
    (hg : o.guard = none) (s x : Operand) (hop : o.op = Op.call { callee := Callee.builtin Builtin.append, args := #[s, x], argTypes := #[31, 31] })
    (A : Option Addr) (n : Nat) (N : Nat → Nd) (hs : a.eval s = .slice A n n) (hn0 : 0 < n) (hN : NdsAt w (.slice A n n) n N) (hn : n ≤ 1000000)
    (g c : Nat) (e1 e2 e3 e4 : Nd) (hx : a.eval x = .slice (some ⟨g, 0, none⟩) 4 c) (hc : ∀ j u, (ndC e1 ++ ndC e2 ++ ndC e3 ++ ndC e4)[j]? = some u → w.cell? ((⟨g, 0, none⟩ : Addr).add j) = some u) (h1 : NdR e1) (h2 : NdR e2) (h3 : NdR e3) (h4 : NdR e4)
    (hK : ∀ g' cap w', NdsAt w' (.slice (some ⟨g', 0, none⟩) (n + 4) cap) (n + 4) (extN (extN (extN (extN N n e1) (n + 1) e2) (n + 2) e3) (n + 3) e4) → Below w.heap.size w w' → w.heap.size ≤ g' → wpList Try.prog ops Q rest (a.put o.dst (.slice (some ⟨g', 0, none⟩) (n + 4) cap)) w') :
    wpList Try.prog ops Q (o :: rest) a w := by
  have hw : Region.wanted o (yielded ops a.tmps) = true := by simp [Region.wanted, hg]
  refine BigFrame.wpList_want hw fun K hK' => ?_
  obtain ⟨i0, hi, hz0, hz1, hz2⟩ := info_parts info_node
  obtain ⟨A', c', e', _, hr, hcs⟩ := hN
  injection e' with e1' _ _
  subst e1'
  obtain ⟨b, ob, rfl, hb, hcell⟩ := hcs hn0
  have H := step_append_grows (P := Try.prog) (K := K) (Q := Q) (ops := ops) (E := True) (w := w) (a := a) (o := o) hg s x _ hop 72 i0 (ndV nd0) 8 56 Try.underlying31 hi hz0 hz1 hz2 rfl (by decide) (some ⟨b, ob, none⟩) n n ((List.range n).flatMap fun i => ndC (N i)) hs (fun h => by cases h)
    (flat_len _ 8 (fun i => ndC_len _) n) ?_ ⟨g, 0, none⟩ 4 c (ndC e1 ++ ndC e2 ++ ndC e3 ++ ndC e4) hx rfl hc ?_ (by omega) (by unfold maxLen; omega) (by omega) ?_
  · rwa [if_pos hw] at H
  · intro b' hb' j u hu
    injection hb' with hb'
    subst hb'
    obtain ⟨i, r, hin, hr8, rfl, hu'⟩ := flat_at _ 8 (fun i => ndC_len _) n j u hu
    have e1 : ((⟨b, ob, none⟩ : Addr).add (i * 8 + r)) = ⟨b, ob + i * 8 + r, none⟩ := by
      unfold Addr.add; split
      · next e => rw [Nat.add_assoc, e, Nat.add_zero]
      · rw [Nat.add_assoc]
    rw [e1]
    obtain ⟨h0, h1, h2, h3, h4, h5, h6, h7⟩ := hcell i hin
    have : r = 0 ∨ r = 1 ∨ r = 2 ∨ r = 3 ∨ r = 4 ∨ r = 5 ∨ r = 6 ∨ r = 7 := by omega
    rcases this with rfl | rfl | rfl | rfl | rfl | rfl | rfl | rfl <;> (simp [ndC] at hu'; subst hu')
    · exact h0
    · exact h1
    · exact h2
    · exact h3
    · exact h4
    · exact h5
    · exact h6
    · exact h7
  · intro u hu
    rcases List.mem_append.1 hu with hu | hu
    · rcases List.mem_append.1 hu with hu | hu
      · exact (List.mem_append.1 hu).elim (ndC_one e1 u) (ndC_one e2 u)
      · exact ndC_one e3 u hu
    · exact ndC_one e4 u hu
  · intro v' w' hown hgr
    rw [← List.append_assoc, ← List.append_assoc, ← List.append_assoc, flatN_ext, flatN_ext, flatN_ext, flatN_ext] at hown
    have hN' : NdsAt w' v' (n + 4) (extN (extN (extN (extN N n e1) (n + 1) e2) (n + 2) e3) (n + 3) e4) := OwnN.at_ (base := w.heap.size) hown (extN_R (extN_R (extN_R (extN_R hr h1) h2) h3) h4)
    obtain ⟨g', cap, rfl, hge, _⟩ := World.ownsRow.form hown (by omega)
    exact hK' _ _ (hK g' cap w' hN' ((Below.refl w.heap.size w).grown hgr (Nat.le_refl _) (fun k hk => by cases hk)) hge)
theorem RNewY_any (w : World) : Calls Try.prog 41 #[] w fun e w' => ∃ b, e = .returned (.agg #[.slice (some ⟨b, 0, none⟩) 2 2]) ∧ NdsAt w' (.slice (some ⟨b, 0, none⟩) 2 2) 2 newN ∧ w.heap.size ≤ b ∧ Below w.heap.size w w' := by
  go_enter Try.func41, Try.ntmps41
  go_wp2
  refine bodyPost_ret (results_tab rfl _ _ w.heap.size (.slice (some ⟨w.heap.size + 1, 0, none⟩) 2 2) rfl (by simp)) rfl ⟨_, rfl, ?_, by omega, ((Below.refl _ _).alloc (Nat.le_refl _) _).alloc (by simp) _⟩
  have := new_cells (w.alloc (.cells #[.slice (some ⟨w.heap.size + 1, 0, none⟩) 2 2] 33)) 72
  simpa using this

set_option maxHeartbeats 4000000 in
theorem two_any (w : World) : Calls Try.prog 26 #[] w fun e w' => ∃ v, e = .returned (.agg #[v]) ∧ NdsAt w' v 6 n6 ∧ Below w.heap.size w w' := by
  have htf := fun (x : World) (A : Option Addr) (n c : Nat) => run_tabField x A n c
  go_enter Try.func26, Try.ntmps26
  go_wp2_with fail
  refine (RNewY_any _).mono ?_
  rintro e w2 ⟨b2, rfl, hN2, hb2, hbb⟩
  have hN2' := Lib.hid hN2
  have hbb' := Lib.hid hbb
  have q0 := (hbb.cell (p := ⟨w.heap.size, 0, none⟩) (by simp)).trans (by simp : _ = some (Value.slice none 0 0))
  have f0 := (hbb.frozen (p := ⟨w.heap.size, 0, none⟩) (by simp)).trans (by simp : _ = false)
  have hz := hbb.size
  simp only [World.size_alloc] at hz
  clear hN2 hbb hb2
  go_wp2_with (at_builtin; refine wpList_app4 rfl _ _ rfl _ 2 newN rfl (by omega) (hN2'.out.alloc _) (by omega) w2.heap.size 4 xNd yNd dNd eNd rfl ?c1 xNd_R yNd_R dNd_R eNd_R ?_)
  case c1 =>
    intro j u hu
    refine cells_new _ _ _ _ _ ?_
    rw [List.getElem?_toArray]
    exact hu
  intro g' cap w5 hN5 hb5 hg5
  have q5 := (hb5.cell (p := ⟨w.heap.size, 0, none⟩) (by simp; omega)).trans ((World.cell?_alloc_lt _ _ _ (by show w.heap.size < _; omega)).trans q0)
  have f5 := (hb5.frozen (p := ⟨w.heap.size, 0, none⟩) (by simp; omega)).trans ((World.frozen?_alloc_old _ _ _ (by show w.heap.size ≠ _; omega)).trans f0)
  have hb1 := (((Below.refl _ w).alloc (Nat.le_refl _) (.cells #[.slice none 0 0] 33)).trans (hbb'.out.mono (by simp))).trans (((Below.refl w2.heap.size w2).alloc (Nat.le_refl _) (.cells #[.int .i8 13, .int .i8 0, .int .i64 0, .int .i64 0, .int .i64 0, .int .i64 1, .int .i64 0, .int .i64 0, .int .i8 13, .int .i8 0, .int .i64 0, .int .i64 0, .int .i64 0, .int .i64 1, .int .i64 1, .int .i64 0, .int .i8 12, .int .i8 2, .int .i64 2, .int .i64 3, .int .i64 0, .int .i64 0, .int .i64 0, .int .i64 2, .int .i8 12, .int .i8 2, .int .i64 3, .int .i64 2, .int .i64 0, .int .i64 0, .int .i64 0, .int .i64 (-3)] 72)).mono (show w.heap.size ≤ w2.heap.size by omega))
  have hb6 := hb1.trans (hb5.mono (by omega))
  have hN5' : Hid (NdsAt w5 (.slice (some ⟨g', 0, none⟩) 6 cap) 6 n6) := hN5
  clear hb1 hb5 hN5 hbb' hN2'
  go_wp2
  exact bodyPost_ret (results_tab rfl _ _ w.heap.size (.slice (some ⟨g', 0, none⟩) 6 cap) rfl (World.cell?_setCell_same' _ _ _ (by rw [q5]; rfl))) rfl ⟨_, rfl, hN5'.out.setBox q5 (fun _ _ h => by cases h) _, hb6.setCell (Nat.le_refl _) _⟩
end Go.Proofs.Ytioceechdombjaa
