/- gantrylaw25.two. -/
import Derived.Test.YtioceechdombjaaZIdlFIdlGIdlP
import Derived.Test.YtioceechdombjaaZTermE
import Derived.Test.YtioceechdombjaaZRCheckAtmA
import Derived.Test.YtioceechdombjaaZTermCTermDaSetBox
import Derived.Test.YtioceechdombjaaZIdlEIdlN
import Derived.Test.YtioceechdombjaaZAtmRHoldR
import Derived.Test.YtioceechdombjaaZAtmBAtmM
namespace Go.Proofs.Ytioceechdombjaa
open Go.RowKit Go.Maps
set_option maxRecDepth 100000

def xNd : Nd := ⟨13, 0, 0, 0, 0, 1, 0, 0⟩
def yNd : Nd := ⟨13, 0, 0, 0, 0, 1, 1, 0⟩
def dNd : Nd := ⟨12, 2, 2, 3, 0, 0, 0, 2⟩
def eNd : Nd := ⟨12, 2, 3, 2, 0, 0, 0, -3⟩
def n6 : Nat → Nd := extN (extN (extN (extN newN 2 xNd) 3 yNd) 4 dNd) 5 eNd
theorem xNd_R : NdR xNd := ⟨⟨by decide, by decide⟩, ⟨by decide, by decide⟩, ⟨by decide, by decide⟩, ⟨by decide, by decide⟩, ⟨by decide, by decide⟩, ⟨by decide, by decide⟩, ⟨by decide, by decide⟩, ⟨by decide, by decide⟩⟩
theorem yNd_R : NdR yNd := ⟨⟨by decide, by decide⟩, ⟨by decide, by decide⟩, ⟨by decide, by decide⟩, ⟨by decide, by decide⟩, ⟨by decide, by decide⟩, ⟨by decide, by decide⟩, ⟨by decide, by decide⟩, ⟨by decide, by decide⟩⟩
theorem dNd_R : NdR dNd := ⟨⟨by decide, by decide⟩, ⟨by decide, by decide⟩, ⟨by decide, by decide⟩, ⟨by decide, by decide⟩, ⟨by decide, by decide⟩, ⟨by decide, by decide⟩, ⟨by decide, by decide⟩, ⟨by decide, by decide⟩⟩
theorem eNd_R : NdR eNd := ⟨⟨by decide, by decide⟩, ⟨by decide, by decide⟩, ⟨by decide, by decide⟩, ⟨by decide, by decide⟩, ⟨by decide, by decide⟩, ⟨by decide, by decide⟩, ⟨by decide, by decide⟩, ⟨by decide, by decide⟩⟩
theorem stands_app (e : Nd) (at_ : Int) (h1 : e.op = 13) (h2 : e.len = 0) (h3 : e.a0 = 0) (h4 : e.a1 = 0) (h5 : e.a2 = 0) (h6 : e.sort = 1) (h7 : 0 ≤ e.fn ∧ e.fn < 12) (h8 : e.num = 0) : StandsP e at_ := by
  have arg : ∀ i, argP e at_ i := fun i => ⟨fun h => by omega, fun _ => by unfold Nd.arg; split <;> simp [*]⟩
  exact ⟨by rw [h1]; decide, fun h => by rw [h1] at h; exact absurd h (by decide), by omega, by omega, by omega, by omega, arg 0, arg 1, arg 2, h7.1, h7.2, fun _ => h1, fun h => by omega, fun _ _ _ => h8⟩
theorem stands_diff (e : Nd) (at_ : Int) (h1 : e.op = 12) (h2 : e.len = 2) (h3 : 0 ≤ e.a0 ∧ e.a0 < at_) (h4 : 0 ≤ e.a1 ∧ e.a1 < at_) (h5 : e.a2 = 0) (h6 : e.sort = 0) (h7 : e.fn = 0) (h8 : mayB e.num = true) : StandsP e at_ :=
  ⟨by rw [h1]; decide, fun _ => by rw [h1, h2]; decide, by omega, by omega, by omega, by omega, ⟨fun _ => h3, fun h => by omega⟩, ⟨fun _ => h4, fun h => by omega⟩, ⟨fun h => by omega, fun _ => h5⟩, by omega, by omega, fun h => absurd h7 h, fun _ => h8, fun _ _ h => absurd h1 h⟩
theorem check_n6 : CheckP 6 n6 := by
  refine CheckP.ext (n := 5) (CheckP.ext (n := 4) (CheckP.ext (n := 3) (CheckP.ext (n := 2) check_new (stands_app _ _ rfl rfl rfl rfl rfl rfl ⟨by decide, by decide⟩ rfl) ?_) (stands_app _ _ rfl rfl rfl rfl rfl rfl ⟨by decide, by decide⟩ rfl) ?_)
    (stands_diff _ _ rfl rfl ⟨by decide, by decide⟩ ⟨by decide, by decide⟩ rfl rfl rfl (by decide)) ?_) (stands_diff _ _ rfl rfl ⟨by decide, by decide⟩ ⟨by decide, by decide⟩ rfl rfl rfl (by decide)) ?_
  · intro i hi h
    have : i = 0 ∨ i = 1 := by omega
    rcases this with rfl | rfl <;> exact absurd (congrArg Nd.op h) (by decide)
  · intro i hi h
    have : i = 0 ∨ i = 1 ∨ i = 2 := by omega
    rcases this with rfl | rfl | rfl <;> exact absurd (congrArg Nd.fn h) (by decide)
  · intro i hi h
    have : i = 0 ∨ i = 1 ∨ i = 2 ∨ i = 3 := by omega
    rcases this with rfl | rfl | rfl | rfl <;> exact absurd (congrArg Nd.op h) (by decide)
  · intro i hi h
    have : i = 0 ∨ i = 1 ∨ i = 2 ∨ i = 3 ∨ i = 4 := by omega
    rcases this with rfl | rfl | rfl | rfl | rfl <;> exact absurd (congrArg Nd.num h) (by decide)
theorem two_bad : ckB 6 n6 [8, 10] = true := by decide
theorem two_ok : ckB 6 n6 [8, 11] = false := by decide
theorem two_ok' : ckE 6 n6 [8, 11] = 0 := by decide
theorem two_nums : ckL 6 n6 [8, 11] = [0, 0, 0, 0, 0, 0] := by decide
theorem two_lem : ckB 6 n6 ([9, 11].map negL) = true := by decide
theorem two_lem' : ckB 6 n6 ([9].map negL) = false := by decide
theorem two_lits (x : Int) (h : x = 8 ∨ x = 9 ∨ x = 10 ∨ x = 11) : badLit 6 n6 x = false := by rcases h with rfl | rfl | rfl | rfl <;> decide

theorem cells_new (w : World) (c : Array Value) (t : TypeId) (j : Nat) (u : Value) (h : c[j]? = some u) : (w.alloc (.cells c t)).cell? ((⟨w.heap.size, 0, none⟩ : Addr).add j) = some u := by
  have e : ((⟨w.heap.size, 0, none⟩ : Addr).add j) = ⟨w.heap.size, j, none⟩ := by
    unfold Addr.add; split
    · next e => rw [e]
    · simp
  rw [e]
  have h1 : c.size > j := by
    rcases Nat.lt_or_ge j c.size with h' | h'
    · exact h'
    · rw [Array.getElem?_eq_none h'] at h; cases h
  have hr := World.rowIs_alloc w c t (fun i => c.getD i .nilIface) (fun i hi => by simp [Array.getD, hi])
  have hx := hr.cell h1
  rw [hx, ← h]
  simp [Array.getD, h1]
theorem wpList_app4 {ops : Array Oper} {rest : List Oper} {o : Oper} {a : Act} {w : World} {Q : Exit → Act → World → Prop}
    (hg : o.guard = none) (s x : Operand) (hop : o.op = Op.call { callee := Callee.builtin Builtin.append, args := #[s, x], argTypes := #[31, 31] })
    (A : Option Addr) (n : Nat) (N : Nat → Nd) (hs : a.eval s = .slice A n n) (hn0 : 0 < n) (hN : NdsAt w (.slice A n n) n N) (hn : n ≤ 1000000)
    (g c : Nat) (e1 e2 e3 e4 : Nd) (hx : a.eval x = .slice (some ⟨g, 0, none⟩) 4 c) (hc : ∀ j u, (ndC e1 ++ ndC e2 ++ ndC e3 ++ ndC e4)[j]? = some u → w.cell? ((⟨g, 0, none⟩ : Addr).add j) = some u) (h1 : NdR e1) (h2 : NdR e2) (h3 : NdR e3) (h4 : NdR e4)
    (hK : ∀ g' cap w', NdsAt w' (.slice (some ⟨g', 0, none⟩) (n + 4) cap) (n + 4) (extN (extN (extN (extN N n e1) (n + 1) e2) (n + 2) e3) (n + 3) e4) → Below w.heap.size w w' → w.heap.size ≤ g' → wpList Try.prog ops Q rest (a.put o.dst (.slice (some ⟨g', 0, none⟩) (n + 4) cap)) w') :
    wpList Try.prog ops Q (o :: rest) a w := by
  have hw : Region.wanted o (yielded ops a.tmps) = true := by simp [Region.wanted, hg]
  refine BigFrame.wpList_want hw fun K hK' => ?_
  obtain ⟨i0, hi, hz0, hz1, hz2⟩ := info_parts info_node
  obtain ⟨A', c', e', _, hr, hcs⟩ := hN
  injection e' with e1' _ _
  subst e1'
  obtain ⟨b, ob, rfl, hb, hcell⟩ := hcs hn0
  have H := step_append_grows (P := Try.prog) (K := K) (Q := Q) (ops := ops) (E := True) (w := w) (a := a) (o := o) hg s x _ hop 72 i0 (ndV nd0) 8 56 Try.underlying31 hi hz0 hz1 hz2 rfl (by decide) (some ⟨b, ob, none⟩) n n ((List.range n).flatMap fun i => ndC (N i)) hs (fun h => by cases h)
    (flat_len _ 8 (fun i => ndC_len _) n) ?_ ⟨g, 0, none⟩ 4 c (ndC e1 ++ ndC e2 ++ ndC e3 ++ ndC e4) hx rfl hc ?_ (by omega) (by unfold maxLen; omega) (by omega) ?_
  · rwa [if_pos hw] at H
  · intro b' hb' j u hu
    injection hb' with hb'
    subst hb'
    obtain ⟨i, r, hin, hr8, rfl, hu'⟩ := flat_at _ 8 (fun i => ndC_len _) n j u hu
    have e1 : ((⟨b, ob, none⟩ : Addr).add (i * 8 + r)) = ⟨b, ob + i * 8 + r, none⟩ := by
      unfold Addr.add; split
      · next e => rw [Nat.add_assoc, e, Nat.add_zero]
      · rw [Nat.add_assoc]
    rw [e1]
    obtain ⟨h0, h1, h2, h3, h4, h5, h6, h7⟩ := hcell i hin
    have : r = 0 ∨ r = 1 ∨ r = 2 ∨ r = 3 ∨ r = 4 ∨ r = 5 ∨ r = 6 ∨ r = 7 := by omega
    rcases this with rfl | rfl | rfl | rfl | rfl | rfl | rfl | rfl <;> (simp [ndC] at hu'; subst hu')
    · exact h0
    · exact h1
    · exact h2
    · exact h3
    · exact h4
    · exact h5
    · exact h6
    · exact h7
  · intro u hu
    rcases List.mem_append.1 hu with hu | hu
    · rcases List.mem_append.1 hu with hu | hu
      · exact (List.mem_append.1 hu).elim (ndC_one e1 u) (ndC_one e2 u)
      · exact ndC_one e3 u hu
    · exact ndC_one e4 u hu
  · intro v' w' hown hgr
    rw [← List.append_assoc, ← List.append_assoc, ← List.append_assoc, flatN_ext, flatN_ext, flatN_ext, flatN_ext] at hown
    have hN' : NdsAt w' v' (n + 4) (extN (extN (extN (extN N n e1) (n + 1) e2) (n + 2) e3) (n + 3) e4) := OwnN.at_ (base := w.heap.size) hown (extN_R (extN_R (extN_R (extN_R hr h1) h2) h3) h4)
    obtain ⟨g', cap, rfl, hge, _⟩ := World.ownsRow.form hown (by omega)
    exact hK' _ _ (hK g' cap w' hN' ((Below.refl w.heap.size w).grown hgr (Nat.le_refl _) (fun k hk => by cases hk)) hge)
theorem RNewY_any (w : World) : Calls Try.prog 41 #[] w fun e w' => ∃ b, e = .returned (.agg #[.slice (some ⟨b, 0, none⟩) 2 2]) ∧ NdsAt w' (.slice (some ⟨b, 0, none⟩) 2 2) 2 newN ∧ w.heap.size ≤ b ∧ Below w.heap.size w w' := by
  go_enter Try.func41, Try.ntmps41
  go_wp2
  refine bodyPost_ret (results_tab rfl _ _ w.heap.size (.slice (some ⟨w.heap.size + 1, 0, none⟩) 2 2) rfl (by simp)) rfl ⟨_, rfl, ?_, by omega, ((Below.refl _ _).alloc (Nat.le_refl _) _).alloc (by simp) _⟩
  have := new_cells (w.alloc (.cells #[.slice (some ⟨w.heap.size + 1, 0, none⟩) 2 2] 33)) 72
  simpa using this

set_option maxHeartbeats 4000000 in
theorem two_any (w : World) : Calls Try.prog 26 #[] w fun e w' => ∃ v, e = .returned (.agg #[v]) ∧ NdsAt w' v 6 n6 ∧ Below w.heap.size w w' := by
  have htf := fun (x : World) (A : Option Addr) (n c : Nat) => run_tabField x A n c
  go_enter Try.func26, Try.ntmps26
  go_wp2_with fail
  refine (RNewY_any _).mono ?_
  rintro e w2 ⟨b2, rfl, hN2, hb2, hbb⟩
  have hN2' := Lib.hid hN2
  have hbb' := Lib.hid hbb
  have q0 := (hbb.cell (p := ⟨w.heap.size, 0, none⟩) (by simp)).trans (by simp : _ = some (Value.slice none 0 0))
  have f0 := (hbb.frozen (p := ⟨w.heap.size, 0, none⟩) (by simp)).trans (by simp : _ = false)
  have hz := hbb.size
  simp only [World.size_alloc] at hz
  clear hN2 hbb hb2
  go_wp2_with (at_builtin; refine wpList_app4 rfl _ _ rfl _ 2 newN rfl (by omega) (hN2'.out.alloc _) (by omega) w2.heap.size 4 xNd yNd dNd eNd rfl ?c1 xNd_R yNd_R dNd_R eNd_R ?_)
  case c1 =>
    intro j u hu
    refine cells_new _ _ _ _ _ ?_
    rw [List.getElem?_toArray]
    exact hu
  intro g' cap w5 hN5 hb5 hg5
  have q5 := (hb5.cell (p := ⟨w.heap.size, 0, none⟩) (by simp; omega)).trans ((World.cell?_alloc_lt _ _ _ (by show w.heap.size < _; omega)).trans q0)
  have f5 := (hb5.frozen (p := ⟨w.heap.size, 0, none⟩) (by simp; omega)).trans ((World.frozen?_alloc_old _ _ _ (by show w.heap.size ≠ _; omega)).trans f0)
  have hb1 := (((Below.refl _ w).alloc (Nat.le_refl _) (.cells #[.slice none 0 0] 33)).trans (hbb'.out.mono (by simp))).trans (((Below.refl w2.heap.size w2).alloc (Nat.le_refl _) (.cells #[.int .i8 13, .int .i8 0, .int .i64 0, .int .i64 0, .int .i64 0, .int .i64 1, .int .i64 0, .int .i64 0, .int .i8 13, .int .i8 0, .int .i64 0, .int .i64 0, .int .i64 0, .int .i64 1, .int .i64 1, .int .i64 0, .int .i8 12, .int .i8 2, .int .i64 2, .int .i64 3, .int .i64 0, .int .i64 0, .int .i64 0, .int .i64 2, .int .i8 12, .int .i8 2, .int .i64 3, .int .i64 2, .int .i64 0, .int .i64 0, .int .i64 0, .int .i64 (-3)] 72)).mono (show w.heap.size ≤ w2.heap.size by omega))
  have hb6 := hb1.trans (hb5.mono (by omega))
  have hN5' : Hid (NdsAt w5 (.slice (some ⟨g', 0, none⟩) 6 cap) 6 n6) := hN5
  clear hb1 hb5 hN5 hbb' hN2'
  go_wp2
  exact bodyPost_ret (results_tab rfl _ _ w.heap.size (.slice (some ⟨g', 0, none⟩) 6 cap) rfl (World.cell?_setCell_same' _ _ _ (by rw [q5]; rfl))) rfl ⟨_, rfl, hN5'.out.setBox q5 (fun _ _ h => by cases h) _, hb6.setCell (Nat.le_refl _) _⟩
end Go.Proofs.Ytioceechdombjaa

namespace Go.Proofs.Ytioceechdombjaa
open Go.RowKit Go.Maps
set_option maxRecDepth 100000

theorem ints2 (w : World) (x y : Int) (hx : R64 x) (hy : R64 y) : IntsAt (w.alloc (.cells #[.int .i64 x, .int .i64 y] 3)) (.slice (some ⟨w.heap.size, 0, none⟩) 2 2) [x, y].length (gfn [x, y]) := by
  refine ⟨_, _, rfl, by simp, fun i hi => ?_, fun _ => ⟨w.heap.size, 0, rfl, by simp, fun i hi => ?_⟩⟩
  · have hi' : i < 2 := hi
    have : i = 0 ∨ i = 1 := by omega
    rcases this with rfl | rfl
    · exact hx
    · exact hy
  · have hi' : i < 2 := hi
    have : i = 0 ∨ i = 1 := by omega
    rcases this with rfl | rfl
    · simp [gfn]
    · simp [gfn]
theorem ints1' (w : World) (x : Int) (hx : R64 x) : IntsAt (w.alloc (.cells #[.int .i64 x] 3)) (.slice (some ⟨w.heap.size, 0, none⟩) 1 1) [x].length (gfn [x]) := by
  refine ⟨_, _, rfl, by simp, fun i hi => ?_, fun _ => ⟨w.heap.size, 0, rfl, by simp, fun i hi => ?_⟩⟩
  · have : i = 0 := by have : i < 1 := hi; omega
    subst this; exact hx
  · have : i = 0 := by have : i < 1 := hi; omega
    subst this; simp [gfn]
theorem lits2 (x y : Int) (hx : x = 8 ∨ x = 9 ∨ x = 10 ∨ x = 11) (hy : y = 8 ∨ y = 9 ∨ y = 10 ∨ y = 11) : ∀ a ∈ [x, y], badLit 6 n6 a = false := by
  intro a ha
  rcases List.mem_cons.1 ha with rfl | ha
  · exact two_lits _ hx
  · exact two_lits _ ((List.mem_singleton.1 ha) ▸ hy)
theorem lits1 (x : Int) (hx : x = 8 ∨ x = 9 ∨ x = 10 ∨ x = 11) : ∀ a ∈ [x], badLit 6 n6 a = false := fun _ ha => two_lits _ ((List.mem_singleton.1 ha) ▸ hx)
theorem two_at (w0 x : World) (h : Below w0.heap.size w0 x) : Calls Try.prog 26 #[] x fun e w' => ∃ v, e = .returned (.agg #[v]) ∧ NdsAt w' v 6 n6 ∧ Below x.heap.size x w' ∧ Below w0.heap.size w0 w' :=
  (two_any x).mono fun _ _ ⟨v, h1, h2, h3⟩ => ⟨v, h1, h2, h3, h.trans (h3.mono h.size)⟩
theorem lem_at (w0 x : World) (h : Below w0.heap.size w0 x) (v u : Value) (xs : List Int) (b : Bool) (hN : NdsAt x v 6 n6) (hu : IntsAt x u xs.length (gfn xs)) (hm : xs.length ≤ 1000) (hxs : ∀ a ∈ xs, badLit 6 n6 a = false) (hb : ckB 6 n6 (xs.map negL) = b) :
    Calls Try.prog 10 #[.agg #[v], u] x fun e w' => e = .returned (.bool b) ∧ Below w0.heap.size w0 w' :=
  (Lemma_any v u 6 n6 xs x hN (by omega) check_n6 hu hm hxs).mono fun _ _ ⟨h1, h2⟩ => ⟨by rw [h1, hb], h.trans (h2.mono h.size)⟩

set_option maxHeartbeats 4000000 in
theorem wakes25_any (w : World) : Calls Try.prog 11 #[] w fun e w' => e = .returned (.bool true) ∧ Below w.heap.size w w' := by
  go_enter Try.func11, Try.ntmps11
  go_wp2_with fail
  refine (two_any _).mono ?_
  rintro e w2 ⟨v2, rfl, hN2, hb2⟩
  go_wp2_with fail
  refine (ICheck_any _ _ 6 n6 [8, 10] _ (hN2.alloc _) (by omega) check_n6 (ints2 w2 8 10 ⟨by decide, by decide⟩ ⟨by decide, by decide⟩) (by decide) (lits2 8 10 (by omega) (by omega))).mono ?_
  rintro e w3 ⟨z3, rfl, _, hb3⟩
  rw [ckE_zero two_bad, two_bad]
  have hw3 := hb2.trans (((Below.refl w2.heap.size w2).alloc (Nat.le_refl _) (.cells #[.int .i64 8, .int .i64 10] 3)).trans (hb3.mono (by simp)) |>.mono hb2.size)
  clear hN2 hb2 hb3
  go_wp2_with fail
  refine (two_any _).mono ?_
  rintro e w4 ⟨v4, rfl, hN4, hb4⟩
  go_wp2_with fail
  refine (ICheck_any _ _ 6 n6 [8, 11] _ (hN4.alloc _) (by omega) check_n6 (ints2 w4 8 11 ⟨by decide, by decide⟩ ⟨by decide, by decide⟩) (by decide) (lits2 8 11 (by omega) (by omega))).mono ?_
  rintro e w5 ⟨z5, rfl, ho5, hb5⟩
  rw [two_ok', two_ok]
  rw [two_nums] at ho5
  have hi5 := ho5.ints (by decide) (fun x hx => by simp at hx; subst hx; exact ⟨by decide, by decide⟩)
  have hw4 := hw3.trans (hb4.mono hw3.size)
  have hw5 := hw4.trans (((Below.refl w4.heap.size w4).alloc (Nat.le_refl _) (.cells #[.int .i64 8, .int .i64 11] 3)).trans (hb5.mono (by simp)) |>.mono hw4.size)
  obtain ⟨Z, zc, rfl, _, _, hz⟩ := hi5
  obtain ⟨zb, zo, rfl, hzb, hzc⟩ := hz (by decide)
  have c1 := hzc 1 (by decide)
  have c2 := hzc 2 (by decide)
  have c3 := hzc 3 (by decide)
  simp at c1 c2 c3
  have hz6 : [0, 0, 0, 0, 0, (0 : Int)].length = 6 := rfl
  clear hN4 hb4 hb5 hw3 hw4 hzc hz ho5
  rw [hz6]
  clear hz6
  have hKp : ∀ {x : World}, Below w5.heap.size w5 x → (x.cell? ⟨zb, zo + 1, none⟩ = some (.int .i64 0) ∧ x.cell? ⟨zb, zo + 2, none⟩ = some (.int .i64 0) ∧ x.cell? ⟨zb, zo + 3, none⟩ = some (.int .i64 0)) := fun h =>
    ⟨(h.cell (p := ⟨zb, zo + 1, none⟩) hzb).trans c1, (h.cell (p := ⟨zb, zo + 2, none⟩) hzb).trans c2, (h.cell (p := ⟨zb, zo + 3, none⟩) hzb).trans c3⟩
  have hb0 : Below w5.heap.size w5 w5.drew := (Below.refl _ _).drew
  have hb0a : Below w5.heap.size w5 (w5.alloc (.cells #[.int .i64 9, .int .i64 11] 3)).drew := ((Below.refl _ _).alloc (Nat.le_refl _) _).drew
  have hT := fun x h => two_at w5 x h
  have hL1 := fun x h v u hN hu => lem_at w5 x h v u [9, 11] true hN hu (by decide) (lits2 9 11 (by omega) (by omega)) two_lem
  have hL2 := fun x h v u hN hu => lem_at w5 x h v u [9] false hN hu (by decide) (lits1 9 (by omega)) two_lem'
  have hI1 := fun x => ints2 x 9 11 ⟨by decide, by decide⟩ ⟨by decide, by decide⟩
  have hI2 := fun x => ints1' x 9 ⟨by decide, by decide⟩
  go_wp2_with fail
  clear c1 c2 c3
  go_region_held3 (fun x => x.cell? ⟨zb, zo + 1, none⟩ = some (.int .i64 0) ∧ x.cell? ⟨zb, zo + 2, none⟩ = some (.int .i64 0) ∧ x.cell? ⟨zb, zo + 3, none⟩ = some (.int .i64 0))
    (first | exact hKp hb0 | exact hKp hb0a | exact hKp hb7 | exact hKp (hb7.alloc hb7.size _) | exact hKp hb8 | exact hKp (hb8.alloc hb8.size _) | exact hKp hb9 | exact hKp (hb9.alloc hb9.size _) | exact hKp hb10 | fail)
    (first | (go_at_call 26; (with_reducible refine Calls.mono (hT _ hb0) ?_); rintro e w7 ⟨v7, rfl, hN7, hx7, hb7⟩)
           | (go_at_call 26; (with_reducible refine Calls.mono (hT _ hb0a) ?_); rintro e w7 ⟨v7, rfl, hN7, hx7, hb7⟩; have hi7 := IntsAt.below (w := (w5.alloc (.cells #[.int .i64 9, .int .i64 11] 3)).drew) (hI1 w5) hx7)
           | (go_at_call 10; (with_reducible refine Calls.mono (hL1 _ (hb7.alloc hb7.size _) v7 _ (hN7.alloc _) (hI1 w7)) ?_); rintro e w8 ⟨rfl, hb8⟩)
           | (go_at_call 10; (with_reducible refine Calls.mono (hL1 _ hb7 v7 _ hN7 hi7) ?_); rintro e w8 ⟨rfl, hb8⟩)
           | (go_at_call 26; (with_reducible refine Calls.mono (hT _ hb8) ?_); rintro e w9 ⟨v9, rfl, hN9, hx9, hb9⟩)
           | (go_at_call 26; (with_reducible refine Calls.mono (hT _ (hb8.alloc hb8.size (.cells #[.int .i64 9] 3))) ?_); rintro e w9 ⟨v9, rfl, hN9, hx9, hb9⟩; have hi9 := (hI2 w8).below hx9)
           | (go_at_call 10; (with_reducible refine Calls.mono (hL2 _ (hb9.alloc hb9.size _) v9 _ (hN9.alloc _) (hI2 w9)) ?_); rintro e w10 ⟨rfl, hb10⟩)
           | (go_at_call 10; (with_reducible refine Calls.mono (hL2 _ hb9 v9 _ hN9 hi9) ?_); rintro e w10 ⟨rfl, hb10⟩)
           | fail)
  all_goals go_wp2
  all_goals go_ret
  all_goals exact ⟨rfl, hw5.trans (hb10.mono hw5.size)⟩
end Go.Proofs.Ytioceechdombjaa

namespace Go.Proofs.Ytioceechdombjaa
open Go.RowKit Go.Maps
set_option maxRecDepth 100000

theorem icK_vals {n : Nat} {N : Nat → Nd} (hc : CheckP n N) (hn : n ≤ 4096) {xs : List Int} (hxs : ∀ x ∈ xs, badLit n N x = false) : icK n N xs = 0 ∨ icK n N xs = 10 := by
  unfold icK checkR
  rw [if_neg (by omega)]
  have he : edsB n (icF N xs) (icM N xs) = true := by
    rw [edsB_iff]
    unfold icF icM
    rw [eF_all (fun e => 0 ≤ e.src ∧ e.src < (n : Int) ∧ 0 ≤ e.dst ∧ e.dst < (n : Int))]
    intro e he
    obtain ⟨x, hx, hd, rfl⟩ := edsL_mem.1 he
    obtain ⟨_, h1, g0, g1, g2, g3, g4, g5⟩ := diff_at hc (hxs x hx) hd
    unfold edOf
    split
    · exact ⟨g0, g1, g2, g3⟩
    · exact ⟨g2, g3, g0, g1⟩
  rw [he, if_neg (by simp)]
  split
  · exact .inr rfl
  · exact .inl rfl
theorem sumI_bd {N : Nat → Nd} {n : Nat} {s : Int} (h : sumI N n = some s) : 0 ≤ s ∧ s ≤ 2305843009213693952 := sumTo_bd (by decide) h
theorem nums_facts {n : Nat} {N : Nat → Nd} (hc : CheckP n N) {xs : List Int} (hxs : ∀ x ∈ xs, badLit n N x = false) {s : Int} (hs : sumI N n = some s) (hk : icK n N xs = 0) (hb : icB n N xs = false)
    {f : Nat → Int} (hf : ∀ i, i < n → f i = icP n N xs i - icP n N xs 1) : (∀ i, i < n → -s ≤ f i ∧ f i ≤ s) ∧ holdsB n f (icM N xs) (icF N xs) = true := by
  obtain ⟨_, hfe⟩ := good_facts (n := (n : Int)) (m := icM N xs) (E := icF N xs) hk hb
  have hho : HoldL (edsL N xs) (icP n N xs) := feas_hold.1 hfe
  have hp0 := fun v => pot_le (n : Int) (icM N xs) (icF N xs) v
  have hlow := fun v => pot_in_sum hc hxs hho hp0 (fun x hx h0 v => pot_ge (n := (n : Int)) (feas_hold.2 hx) h0 v) hs v
  have hsb := sumI_bd hs
  have hbd : ∀ i, i < n → -s ≤ f i ∧ f i ≤ s := by
    intro i hi
    rw [hf i hi]
    have h1 := hlow i
    have h2 := hlow 1
    have h3 : icP n N xs i ≤ 0 := hp0 i
    have h4 : icP n N xs 1 ≤ 0 := hp0 1
    omega
  refine ⟨hbd, ?_⟩
  obtain ⟨_, _, hE, _⟩ := check_ok (n := (n : Int)) (m := icM N xs) (E := icF N xs) hk
  have hE' : EdOk n (icF N xs) (icM N xs) := hE
  unfold holdsB
  rw [Bool.and_eq_true]
  constructor
  · rw [numsB_iff]
    intro i hi
    have := hbd i hi
    unfold mayB
    simp
    omega
  · rw [hedsB_iff]
    intro i hi
    obtain ⟨s0, s1, d0, d1, w0, w1⟩ := hE' i hi
    have hff := hfe i hi
    have e1 := hf (icF N xs i).src.toNat (by omega)
    have e2 := hf (icF N xs i).dst.toNat (by omega)
    have b1 := hbd (icF N xs i).src.toNat (by omega)
    have b2 := hbd (icF N xs i).dst.toNat (by omega)
    unfold hedB atmB
    rw [Bool.and_eq_true]
    refine ⟨decide_eq_true ⟨s0, s1, d0, d1⟩, decide_eq_true ⟨by omega, by omega, ⟨w0, w1⟩, ?_⟩⟩
    rw [e1, e2]
    have hff' : icP n N xs (icF N xs i).dst.toNat ≤ icP n N xs (icF N xs i).src.toNat + (icF N xs i).wt := hff
    omega

theorem lst_len (f : Nat → Int) (m : Nat) : ((List.range m).map f).length = m := by simp
theorem lst_at (f : Nat → Int) (m i : Nat) (h : i < m) : gfn ((List.range m).map f) i = f i := by unfold gfn; simp [h]
theorem IntsAt.lst {w : World} {v : Value} {m : Nat} {f : Nat → Int} (h : IntsAt w v m f) : IntsAt w v ((List.range m).map f).length (gfn ((List.range m).map f)) := by
  rw [lst_len]
  exact h.congr fun i hi => (lst_at f m i hi).symm
theorem may_lst {n m : Nat} {N : Nat → Nd} {f : Nat → Int} (h : mayT n N m f = true) : CheckP n N ∧ ∀ x ∈ (List.range m).map f, badLit n N x = false := by
  have hc : CheckP n N := by
    rcases Classical.em (CheckP n N) with hc | hc
    · exact hc
    · rw [mayT_no hc] at h; cases h
  refine ⟨hc, fun x hx => ?_⟩
  rw [mayT_chk hc, Bool.not_eq_true', anyBadL_iff] at h
  obtain ⟨i, hi, rfl⟩ := List.mem_map.1 hx
  exact h i (List.mem_range.1 hi)

set_option maxHeartbeats 4000000 in
theorem Numbers_main (v u : Value) (n m : Nat) (N : Nat → Nd) (f : Nat → Int) (w : World) (hv : NdsAt w v n N) (hu : IntsAt w u m f) (hn : n ≤ 60) (hm : m ≤ 60) (hmay : mayT n N m f = true) :
    Calls Try.prog 4 #[.agg #[v], u] w fun x w' => x = .returned (.bool true) ∧ Below w.heap.size w w' := by
  obtain ⟨hch, hxs⟩ := may_lst hmay
  have hul := Lib.hid hu.lst
  have hlx : ((List.range m).map f).length ≤ 1000 := by simp; omega
  generalize (List.range m).map f = xs at *
  have hv' := Lib.hid hv
  have hu' := Lib.hid hu
  have hmay' := Lib.hid hmay
  have hch' := Lib.hid hch
  have hxs' := Lib.hid hxs
  have h2 := hch.two
  have hKv := icK_vals hch (by omega) hxs
  have hKv' := Lib.hid hKv
  obtain ⟨A, c, rfl, _, _, hcs⟩ := hv
  obtain ⟨b, o, rfl, hbl, hcs⟩ := hcs (by omega)
  obtain ⟨U, cu, rfl, _, _, _⟩ := hu
  have d1 : decide ((60 : Int) < (n : Int)) = false := decide_eq_false (by omega)
  have d2 : decide ((60 : Int) < (m : Int)) = false := decide_eq_false (by omega)
  have hx0 := (Bx.nil w).one (.slice (some ⟨b, o, none⟩) n c) 33
  clear hcs hch hxs hmay hKv
  go_enter Try.func4, Try.ntmps4
  go_wp2_with fail
  refine (RMay13_any _ _ n m N f _ (hv'.out.below hx0.bel) (by omega) (hu'.out.below hx0.bel)).mono ?_
  rintro e w2 ⟨rfl, hb2⟩
  rw [hmay'.out]
  have hx2 := hx0.step hb2
  obtain ⟨⟨q2, _⟩, -⟩ := hx2.cells
  go_wp2_with fail
  refine (ICheck_any _ _ n N xs w2 (hv'.out.below hx2.bel) (by omega) hch'.out (hul.out.below hx2.bel) hlx hxs'.out).mono ?_
  rintro e w3 ⟨z3, rfl, ho3, hb3⟩
  have hx3 := hx2.step hb3
  obtain ⟨⟨q3, _⟩, -⟩ := hx3.cells
  clear q2 hb2 hb3 hx0 hx2
  have hn60 := Lib.hid hn
  go_wp2_with fail
  refine (ISum_any _ n N w3 (hv'.out.below hx3.bel) (by omega) hch'.out).mono ?_
  rintro e w4 ⟨rfl, hb4⟩
  have ho4 := Lib.hid (ho3.below hb4 (Nat.le_refl _))
  have hx4 := Lib.hid (hx3.step hb4)
  obtain ⟨⟨q4, _⟩, -⟩ := hx4.out.cells
  clear q3 hb4 hx3 ho3
  cases hs : sumI N n with
  | none =>
    have hsv : sumIV N n = .tuple #[.int .i64 0, .bool false] := by unfold sumIV sumR; unfold sumI at hs; rw [hs]
    have hso : sumOk N n = false := by unfold sumOk; rw [hs]; rfl
    have hB : ckB n N xs = false := by unfold ckB; rw [hso]; rfl
    have hE : ckE n N xs = 10 := by unfold ckE; rw [hso]; rfl
    have hL : ckL n N xs = [] := by unfold ckL; rw [hso]; rfl
    rw [hsv, hB, hE]
    rw [hL] at ho4
    obtain ⟨Z, zc, rfl⟩ : ∃ Z zc, z3 = .slice Z 0 zc := by
      obtain ⟨Z, zc, h, _⟩ := ho4.out.ints (by decide) (fun x hx => by cases hx)
      exact ⟨Z, zc, h⟩
    clear hs hsv hso hB hE hL ho4
    go_wp2_with fail
    refine (wakes25_any _).mono ?_
    rintro e w5 ⟨rfl, hb5⟩
    go_wp2
    go_ret
    exact ⟨rfl, (hx4.out.step hb5).bel⟩
  | some s =>
    have hsv : sumIV N n = .tuple #[.int .i64 s, .bool true] := by unfold sumIV sumR; unfold sumI at hs; rw [hs]
    have hso : sumOk N n = true := by unfold sumOk; rw [hs]; rfl
    rw [hsv]
    clear hsv
    cases hib : icB n N xs with
    | true =>
      have hB : ckB n N xs = true := by unfold ckB; rw [hso, hib]; rfl
      have hE := ckE_zero hB
      have hL : ckL n N xs = [] := by unfold ckL; rw [hso, hib]; simp
      rw [hB, hE]
      rw [hL] at ho4
      obtain ⟨Z, zc, rfl⟩ : ∃ Z zc, z3 = .slice Z 0 zc := by
        obtain ⟨Z, zc, h, _⟩ := ho4.out.ints (by decide) (fun x hx => by cases hx)
        exact ⟨Z, zc, h⟩
      clear hs hso hB hE hL ho4 hib
      go_wp2_with fail
      refine (wakes25_any _).mono ?_
      rintro e w5 ⟨rfl, hb5⟩
      go_wp2
      go_ret
      exact ⟨rfl, (hx4.out.step hb5).bel⟩
    | false =>
      have hB : ckB n N xs = false := by unfold ckB; rw [hso, hib]; rfl
      have hE : ckE n N xs = icK n N xs := by unfold ckE; rw [hso, if_pos rfl]
      rcases hKv'.out with hK | hK
      · have hL : ckL n N xs = (List.range n).map (fun i => icP n N xs i - icP n N xs 1) := by unfold ckL; rw [hso, hib, hK]; simp
        rw [hB, hE, hK]
        rw [hL] at ho4
        obtain ⟨hbd, hhold⟩ := nums_facts hch'.out hxs'.out hs hK hib (f := gfn ((List.range n).map (fun i => icP n N xs i - icP n N xs 1))) (fun i hi => lst_at _ n i hi)
        have hz1 : gfn ((List.range n).map (fun i => icP n N xs i - icP n N xs 1)) 1 = 0 := by rw [lst_at _ n 1 (by omega)]; omega
        have hsb := sumI_bd hs
        obtain ⟨hs0, hs1⟩ := hsb
        have hints := (ho4.out.ints (by simp; omega) (fun x hx => by
          obtain ⟨i, hi, rfl⟩ := List.mem_map.1 hx
          have := hbd i (List.mem_range.1 hi)
          rw [lst_at _ n i (List.mem_range.1 hi)] at this
          unfold R64
          omega))
        rw [lst_len] at hints
        have hints' : IntsAt w4 z3 n (gfn ((List.range n).map (fun i => icP n N xs i - icP n N xs 1))) := hints
        clear hints
        generalize gfn ((List.range n).map (fun i => icP n N xs i - icP n N xs 1)) = F at *
        have hi4 := Lib.hid hints'
        have hbd' := Lib.hid hbd
        have hhold' := Lib.hid hhold
        obtain ⟨Z, zc, rfl, _, _, hzc⟩ := hints'
        obtain ⟨zb, zo, rfl, hzb, hzc⟩ := hzc (by omega)
        have hzc' := Lib.hid hzc
        have r1 := hzc 1 (by omega)
        rw [hz1] at r1
        have i1 : (1 : Int) < (n : Int) := by omega
        clear hs hso hB hE hL ho4 hib hK hbd hhold hzc hz1
        go_wp2_with fail
        refine (Edges_any _ _ n N xs w4 (hv'.out.below hx4.out.bel) (by omega) hch'.out (hul.out.below hx4.out.bel) hlx hxs'.out).mono ?_
        rintro e w5 ⟨z5, rfl, ho5, hb5⟩
        have hx5 := Lib.hid (hx4.out.step hb5)
        have hed := ho5.eds (eds_len hlx) (eds_R hch'.out (by omega) hxs'.out)
        have hed' := Lib.hid hed
        obtain ⟨E5, c5, rfl, _, _, _⟩ := hed
        clear ho5
        go_wp2_with fail
        refine (RHolds_any _ _ (icM N xs) n (icF N xs) F w5 hed'.out (hi4.out.below hb5)).mono ?_
        rintro e w6 ⟨rfl, hb6⟩
        rw [hhold'.out]
        have hx6 := Lib.hid (hx5.out.step hb6)
        have hz6 : Hid (∀ i, i < n → w6.cell? ⟨zb, zo + i, none⟩ = some (.int .i64 (F i))) := fun i hi => (hb6.cell (p := ⟨zb, zo + i, none⟩) (Nat.lt_of_lt_of_le hzb hb5.size)).trans ((hb5.cell (p := ⟨zb, zo + i, none⟩) hzb).trans (hzc'.out i hi))
        clear hb5 hb6 r1 q4
        go_wp2
        go_loopw [92] (fun i wr => ∃ j : Nat, j ≤ n ∧ i = .int .i64 j ∧ wr = w6) (fun i _ => n - (intOf i).toNat)
        case atStart => exact ⟨0, Nat.zero_le _, rfl, rfl⟩
        case round =>
          obtain ⟨j, hj, rfl, rfl⟩ := hrel
          by_cases hlt : j < n
          · have rj := hz6.out j hlt
            obtain ⟨b0, b1⟩ := hbd'.out j hlt
            have k1 : decide ((j : Int) < (n : Int)) = true := decide_eq_true (by omega)
            have k2 : decide (F j < -s) = false := decide_eq_false (by omega)
            have k3 : decide (s < F j) = false := decide_eq_false (by omega)
            go_wp2
            go_roundw
            case rel => exact ⟨j + 1, by omega, by go_num, trivial⟩
            case measure => simp [intOf]; omega
          · have k1 : decide ((j : Int) < (n : Int)) = false := decide_eq_false (by omega)
            go_wp2_with fail
            refine (wakes25_any _).mono ?_
            rintro e w7 ⟨rfl, hb7⟩
            go_wp2
            go_ret
            exact ⟨rfl, (hx6.out.step hb7).bel⟩
      · have hL : ckL n N xs = [] := by unfold ckL; rw [hso, hK]; simp
        rw [hB, hE, hK]
        rw [hL] at ho4
        obtain ⟨Z, zc, rfl⟩ : ∃ Z zc, z3 = .slice Z 0 zc := by
          obtain ⟨Z, zc, h, _⟩ := ho4.out.ints (by decide) (fun x hx => by cases hx)
          exact ⟨Z, zc, h⟩
        clear hs hso hB hE hL ho4 hib hK
        go_wp2_with fail
        refine (wakes25_any _).mono ?_
        rintro e w5 ⟨rfl, hb5⟩
        go_wp2
        go_ret
        exact ⟨rfl, (hx4.out.step hb5).bel⟩

set_option maxHeartbeats 1000000 in
theorem INums_any (v u : Value) (n m : Nat) (N : Nat → Nd) (f : Nat → Int) (w : World) (hv : NdsAt w v n N) (hu : IntsAt w u m f) :
    Calls Try.prog 4 #[.agg #[v], u] w fun x w' => x = .returned (.bool true) ∧ Below w.heap.size w w' := by
  have hv' := Lib.hid hv
  have hu' := Lib.hid hu
  obtain ⟨A, c, rfl, _, _, _⟩ := hv
  obtain ⟨U, cu, rfl, _, _, _⟩ := hu
  have hx0 := (Bx.nil w).one (.slice A n c) 33
  by_cases hn : n ≤ 60
  · by_cases hm : m ≤ 60
    · cases hmay : mayT n N m f with
      | true => exact Numbers_main (.slice A n c) (.slice U m cu) n m N f w hv'.out hu'.out hn hm hmay
      | false =>
        have d1 : decide ((60 : Int) < (n : Int)) = false := decide_eq_false (by omega)
        have d2 : decide ((60 : Int) < (m : Int)) = false := decide_eq_false (by omega)
        have hmay' := Lib.hid hmay
        clear hmay
        go_enter Try.func4, Try.ntmps4
        go_wp2_with fail
        refine (RMay13_any _ _ n m N f _ (hv'.out.below hx0.bel) (by omega) (hu'.out.below hx0.bel)).mono ?_
        rintro e w2 ⟨rfl, hb2⟩
        rw [hmay'.out]
        have hx2 := hx0.step hb2
        go_wp2_with fail
        refine (wakes25_any _).mono ?_
        rintro e w7 ⟨rfl, hb7⟩
        go_wp2
        go_ret
        exact ⟨rfl, (hx2.step hb7).bel⟩
    · have d1 : decide ((60 : Int) < (n : Int)) = false := decide_eq_false (by omega)
      have d2 : decide ((60 : Int) < (m : Int)) = true := decide_eq_true (by omega)
      go_enter Try.func4, Try.ntmps4
      go_wp2_with fail
      refine (wakes25_any _).mono ?_
      rintro e w7 ⟨rfl, hb7⟩
      go_wp2
      go_ret
      exact ⟨rfl, (hx0.step hb7).bel⟩
  · have d1 : decide ((60 : Int) < (n : Int)) = true := decide_eq_true (by omega)
    go_enter Try.func4, Try.ntmps4
    go_wp2_with fail
    refine (wakes25_any _).mono ?_
    rintro e w7 ⟨rfl, hb7⟩
    go_wp2
    go_ret
    exact ⟨rfl, (hx0.step hb7).bel⟩
end Go.Proofs.Ytioceechdombjaa
