/- term.Put. -/
import Derived.Test.YtecmoahadckomaaZTermCTermDaRCheck
import Derived.Test.YtecmoahadckomaaZOwn
import Derived.Deep.RegionLawGrows
import Derived.Deep.RegionHeld3
import Derived.Test.YtecmoahadckomaaZSetBoxMkM
namespace Go.Proofs.Ytecmoahadckomaa
open Go.RowKit Go.Maps

theorem ndC_len (e : Nd) : (ndC e).length = 8 := rfl
/-- A row of nodes of the call's own. -/
def OwnN (w : World) (base : Nat) (v : Value) (n : Nat) (N : Nat → Nd) : Prop := OwnG w base 39 8 v n (fun i => ndC (N i))
theorem OwnN.at_ {w : World} {base : Nat} {v : Value} {n : Nat} {N : Nat → Nd} (h : OwnN w base v n N) (hr : ∀ i, i < n → NdR (N i)) : NdsAt w v n N := by
  have hcap : ∀ A n' c, v = .slice A n' c → n ≤ c ∧ c ≤ 9223372036854775807 := by
    intro A n' c hv
    rcases h.2 with ⟨rfl, h0⟩ | ⟨g, cap, cur, rfl, _, _, h1, h2, _⟩
    · injection hv with h1 h2 h3; subst h3; omega
    · injection hv with e1 e2 e3; subst e3; unfold maxLen at h2; omega
  obtain ⟨A, c, rfl, hs, hc⟩ := OwnG.at_ h (fun i => ndC_len _)
  refine ⟨A, c, rfl, hcap _ _ _ rfl, hr, fun h0 => ?_⟩
  obtain ⟨b, o, rfl, hb, hc⟩ := hc h0
  exact ⟨b, o, rfl, hb, fun i hi => ⟨hc i hi 0 _ rfl, hc i hi 1 _ rfl, hc i hi 2 _ rfl, hc i hi 3 _ rfl, hc i hi 4 _ rfl, hc i hi 5 _ rfl, hc i hi 6 _ rfl, hc i hi 7 _ rfl⟩⟩

theorem flatN_ext (N : Nat → Nd) (n : Nat) (e : Nd) : (List.range n).flatMap (fun i => ndC (N i)) ++ ndC e = (List.range (n + 1)).flatMap (fun i => ndC (extN N n e i)) := by
  have h := flat_app (fun i => ndC (N i)) (fun _ => ndC e) n 1
  rw [show (List.range 1).flatMap (fun _ => ndC e) = ndC e by simp] at h
  rw [h]
  refine flat_congr fun i hi => ?_
  by_cases hin : i < n
  · rw [if_pos hin, extN_lt hin]
  · rw [if_neg hin]; unfold extN; rw [if_neg hin]
theorem extN_R {N : Nat → Nd} {n : Nat} {e : Nd} (h : ∀ i, i < n → NdR (N i)) (he : NdR e) : ∀ i, i < n + 1 → NdR (extN N n e i) := by
  intro i hi
  unfold extN
  split
  · next h' => exact h i h'
  · exact he

theorem ndC_one (e : Nd) : ∀ u ∈ ndC e, u.oneCell' = true := by
  intro u hu
  simp only [ndC, List.mem_cons, List.mem_nil_iff, or_false] at hu
  rcases hu with rfl | rfl | rfl | rfl | rfl | rfl | rfl | rfl <;> rfl
theorem nd_news {w : World} {g : Nat} {e : Nd} (h : NdIn w g 0 e) : ∀ j u, (ndC e)[j]? = some u → w.cell? ((⟨g, 0, none⟩ : Addr).add j) = some u := by
  intro j u hu
  have h8 : j < 8 := (List.getElem?_eq_some_iff.1 hu).1
  have e1 : ((⟨g, 0, none⟩ : Addr).add j) = ⟨g, j, none⟩ := by
    unfold Addr.add; split
    · next e => rw [e]
    · simp
  rw [e1]
  obtain ⟨h0, h1, h2, h3, h4, h5, h6, h7⟩ := h
  have : j = 0 ∨ j = 1 ∨ j = 2 ∨ j = 3 ∨ j = 4 ∨ j = 5 ∨ j = 6 ∨ j = 7 := by omega
  rcases this with rfl | rfl | rfl | rfl | rfl | rfl | rfl | rfl <;> (simp [ndC] at hu; subst hu)
  · exact h0
  · simpa using h1
  · simpa using h2
  · simpa using h3
  · simpa using h4
  · simpa using h5
  · simpa using h6
  · simpa using h7

set_option maxRecDepth 100000 in
/-- append of one node onto a full row. -/
theorem step_appN {ops : Array Oper} {o : Oper} {a : Act} {w : World} {K : Act → World → Prop} {Q : Exit → Act → World → Prop} {E : Prop}
    (hg : o.guard = none) (s x : Operand) (hop : o.op = Op.call { callee := Callee.builtin Builtin.append, args := #[s, x], argTypes := #[22, 22] })
    (A : Option Addr) (n : Nat) (N : Nat → Nd) (hs : a.eval s = .slice A n n) (hn0 : 0 < n) (hN : NdsAt w (.slice A n n) n N) (hn : n ≤ 1000000)
    (g c : Nat) (e : Nd) (hx : a.eval x = .slice (some ⟨g, 0, none⟩) 1 c) (hc : NdIn w g 0 e) (he : NdR e)
    (hK : ∀ g' cap w', NdsAt w' (.slice (some ⟨g', 0, none⟩) (n + 1) cap) (n + 1) (extN N n e) → Below w.heap.size w w' → w.heap.size ≤ g' → K (a.put o.dst (.slice (some ⟨g', 0, none⟩) (n + 1) cap)) w') :
    if Region.wanted o (yielded ops a.tmps) = true then Oper.wp Try.prog o a w K Q else E := by
  obtain ⟨i0, hi, hz0, hz1, hz2⟩ := info_parts info_node
  obtain ⟨A', c', e', _, hr, hcs⟩ := hN
  injection e' with e1 _ _
  subst e1
  obtain ⟨b, ob, rfl, hb, hcell⟩ := hcs hn0
  refine step_append_grows (P := Try.prog) hg s x _ hop 39 i0 (ndV nd0) 8 56 Try.underlying22 hi hz0 hz1 hz2 rfl (by decide) (some ⟨b, ob, none⟩) n n ((List.range n).flatMap fun i => ndC (N i)) hs (fun h => by cases h)
    (flat_len _ 8 (fun i => ndC_len _) n) ?_ ⟨g, 0, none⟩ 1 c (ndC e) hx rfl (nd_news hc) (ndC_one e) (by omega) (by unfold maxLen; omega) (by omega) ?_
  · intro b' hb' j u hu
    injection hb' with hb'
    subst hb'
    obtain ⟨i, r, hin, hr8, rfl, hu'⟩ := flat_at _ 8 (fun i => ndC_len _) n j u hu
    have e1 : ((⟨b, ob, none⟩ : Addr).add (i * 8 + r)) = ⟨b, ob + i * 8 + r, none⟩ := by
      unfold Addr.add; split
      · next e => rw [Nat.add_assoc, e, Nat.add_zero]
      · rw [Nat.add_assoc]
    rw [e1]
    obtain ⟨h0, h1, h2, h3, h4, h5, h6, h7⟩ := hcell i hin
    have : r = 0 ∨ r = 1 ∨ r = 2 ∨ r = 3 ∨ r = 4 ∨ r = 5 ∨ r = 6 ∨ r = 7 := by omega
    rcases this with rfl | rfl | rfl | rfl | rfl | rfl | rfl | rfl <;> (simp [ndC] at hu'; subst hu')
    · exact h0
    · exact h1
    · exact h2
    · exact h3
    · exact h4
    · exact h5
    · exact h6
    · exact h7
  · intro v' w' hown hgr
    rw [flatN_ext] at hown
    have hN' : NdsAt w' v' (n + 1) (extN N n e) := OwnN.at_ (base := w.heap.size) hown (extN_R hr he)
    obtain ⟨g', cap, rfl, hge, _⟩ := World.ownsRow.form hown (by omega)
    exact hK g' cap w' hN' ((Below.refl _ _).grown hgr (Nat.le_refl _) (fun k h => by cases h)) hge
theorem NdsAt.setOther {w : World} {g n c : Nat} {N : Nat → Nd} (h : NdsAt w (.slice (some ⟨g, 0, none⟩) n c) n N) {a : Addr} (ha : a.block ≠ g) (u : Value) : NdsAt (w.setCell a u) (.slice (some ⟨g, 0, none⟩) n c) n N := by
  obtain ⟨A, c', e, hn, hr, hc⟩ := h
  injection e with e1 _ e3
  subst e1; subst e3
  refine ⟨_, _, rfl, hn, hr, fun h0 => ?_⟩
  obtain ⟨b, o, e, hb, hc⟩ := hc h0
  injection e with e
  injection e with e1 e2
  subst e1; subst e2
  exact ⟨_, _, rfl, by simpa using hb, fun i hi => (hc i hi).keep fun j => World.cell?_setCell_far _ _ _ _ ha⟩
end Go.Proofs.Ytecmoahadckomaa

namespace Go.Proofs.Ytecmoahadckomaa
open Go.RowKit Go.Maps

def PutPost (n : Nat) (N : Nat → Nd) (e : Nd) (most : Int) (w : World) (x : Ending) (w' : World) : Prop :=
  ∃ v' m M at_ er, x = .returned (.tuple #[.agg #[v'], .int .i64 at_, .int .i64 er]) ∧ PutR n N e most m M at_ er ∧ NdsAt w' v' m M ∧ Below w.heap.size w w'

/-- What the boxes of Put hold. -/
def PutBox (B : Nat) (A : Option Addr) (n c : Nat) (e : Nd) (w x : World) : Prop :=
  x.cell? ⟨B, 0, none⟩ = some (.slice A n c) ∧ NdIn x (B + 1) 0 e ∧ x.cell? ⟨B + 2, 0, none⟩ = some (.slice none 0 0) ∧ B + 2 < x.heap.size ∧ Below B w x ∧ x.frozen? ⟨B + 2, 0, none⟩ = false
theorem PutBox.step {B n c : Nat} {A : Option Addr} {e : Nd} {w x y : World} (h : PutBox B A n c e w x) (hb : Below x.heap.size x y) : PutBox B A n c e w y := by
  obtain ⟨h0, h1, h2, h3, h4, h5⟩ := h
  exact ⟨(hb.cell (p := ⟨B, 0, none⟩) (by show B < _; omega)).trans h0, h1.below hb (by omega), (hb.cell (p := ⟨B + 2, 0, none⟩) h3).trans h2, by have := hb.size; omega, h4.trans (hb.mono (by omega)), (hb.frozen (p := ⟨B + 2, 0, none⟩) h3).trans h5⟩
theorem putBox (w : World) (A : Option Addr) (n c : Nat) (e : Nd) (t0 t1 t2 : TypeId) : PutBox w.heap.size A n c e w (((w.alloc (.cells #[.slice A n c] t0)).alloc (.cells #[.int .i8 e.op, .int .i8 e.len, .int .i64 e.a0, .int .i64 e.a1, .int .i64 e.a2, .int .i64 e.sort, .int .i64 e.fn, .int .i64 e.num] t1)).alloc (.cells #[.slice none 0 0] t2)) := by
  obtain ⟨w1, h1⟩ : ∃ x, x = w.alloc (.cells #[.slice A n c] t0) := ⟨_, rfl⟩
  have s1 : w1.heap.size = w.heap.size + 1 := by rw [h1]; simp
  have c1 : w1.cell? ⟨w.heap.size, 0, none⟩ = some (.slice A n c) := by rw [h1]; simp
  have b1 : Below w.heap.size w w1 := by rw [h1]; exact (Below.refl _ _).alloc (Nat.le_refl _) _
  rw [← h1]
  obtain ⟨w2, h2⟩ : ∃ x, x = w1.alloc (.cells #[.int .i8 e.op, .int .i8 e.len, .int .i64 e.a0, .int .i64 e.a1, .int .i64 e.a2, .int .i64 e.sort, .int .i64 e.fn, .int .i64 e.num] t1) := ⟨_, rfl⟩
  have s2 : w2.heap.size = w.heap.size + 2 := by rw [h2]; simp [s1]
  have c2 : NdIn w2 (w.heap.size + 1) 0 e := by
    rw [h2, ← s1]
    unfold NdIn
    refine ⟨?_, ?_, ?_, ?_, ?_, ?_, ?_, ?_⟩ <;> simp
  have b2 : Below w1.heap.size w1 w2 := by rw [h2]; exact (Below.refl _ _).alloc (Nat.le_refl _) _
  rw [← h2]
  have b3 : Below w2.heap.size w2 (w2.alloc (.cells #[.slice none 0 0] t2)) := (Below.refl _ _).alloc (Nat.le_refl _) _
  refine ⟨?_, c2.below b3 (by omega), ?_, by simp; omega, b1.trans ((b2.trans (b3.mono (by omega))).mono (by omega)), ?_⟩
  · exact (b3.cell (p := ⟨w.heap.size, 0, none⟩) (by show w.heap.size < _; omega)).trans ((b2.cell (p := ⟨w.heap.size, 0, none⟩) (by show w.heap.size < _; omega)).trans c1)
  · rw [← s2]; simp
  · rw [← s2]; simp

theorem PutBox.alloc {B n c : Nat} {A : Option Addr} {e : Nd} {w x : World} (h : PutBox B A n c e w x) (o : Obj) : PutBox B A n c e w (x.alloc o) := h.step ((Below.refl _ _).alloc (Nat.le_refl _) _)
theorem PutBox.drew {B n c : Nat} {A : Option Addr} {e : Nd} {w x : World} (h : PutBox B A n c e w x) : PutBox B A n c e w x.drew := h.step (Below.refl _ _).drew
theorem putS {B n c : Nat} {A : Option Addr} {e : Nd} {w x : World} (h : PutBox B A n c e w x) :
    x.cell? ⟨B, 0, none⟩ = some (.slice A n c) ∧ x.cell? ⟨B + 1, 0, none⟩ = some (.int .i8 e.op) ∧ x.cell? ⟨B + 1, 1, none⟩ = some (.int .i8 e.len) ∧ x.cell? ⟨B + 1, 2, none⟩ = some (.int .i64 e.a0) ∧ x.cell? ⟨B + 1, 3, none⟩ = some (.int .i64 e.a1) ∧ x.cell? ⟨B + 1, 4, none⟩ = some (.int .i64 e.a2)
      ∧ x.cell? ⟨B + 1, 5, none⟩ = some (.int .i64 e.sort) ∧ x.cell? ⟨B + 1, 6, none⟩ = some (.int .i64 e.fn) ∧ x.cell? ⟨B + 1, 7, none⟩ = some (.int .i64 e.num) ∧ B + 2 < x.heap.size ∧ Below B w x := by
  obtain ⟨h0, ⟨e0, e1, e2, e3, e4, e5, e6, e7⟩, h2, h3, h4, h5⟩ := h
  simp only [Nat.zero_add] at e1 e2 e3 e4 e5 e6 e7
  exact ⟨h0, e0, e1, e2, e3, e4, e5, e6, e7, h3, h4⟩

theorem putS_set {B n c : Nat} {A : Option Addr} {e : Nd} {w x : World} (h : PutBox B A n c e w x) (u : Value) :
    (x.setCell ⟨B + 2, 0, none⟩ u).cell? ⟨B, 0, none⟩ = some (.slice A n c) ∧ (x.setCell ⟨B + 2, 0, none⟩ u).cell? ⟨B + 1, 0, none⟩ = some (.int .i8 e.op) ∧ (x.setCell ⟨B + 2, 0, none⟩ u).cell? ⟨B + 1, 1, none⟩ = some (.int .i8 e.len) ∧ (x.setCell ⟨B + 2, 0, none⟩ u).cell? ⟨B + 1, 2, none⟩ = some (.int .i64 e.a0) ∧ (x.setCell ⟨B + 2, 0, none⟩ u).cell? ⟨B + 1, 3, none⟩ = some (.int .i64 e.a1) ∧ (x.setCell ⟨B + 2, 0, none⟩ u).cell? ⟨B + 1, 4, none⟩ = some (.int .i64 e.a2)
      ∧ (x.setCell ⟨B + 2, 0, none⟩ u).cell? ⟨B + 1, 5, none⟩ = some (.int .i64 e.sort) ∧ (x.setCell ⟨B + 2, 0, none⟩ u).cell? ⟨B + 1, 6, none⟩ = some (.int .i64 e.fn) ∧ (x.setCell ⟨B + 2, 0, none⟩ u).cell? ⟨B + 1, 7, none⟩ = some (.int .i64 e.num) ∧ B + 2 < (x.setCell ⟨B + 2, 0, none⟩ u).heap.size ∧ Below B w (x.setCell ⟨B + 2, 0, none⟩ u) := by
  obtain ⟨h0, ⟨e0, e1, e2, e3, e4, e5, e6, e7⟩, h2, h3, h4, h5⟩ := h
  simp only [Nat.zero_add] at e1 e2 e3 e4 e5 e6 e7
  have f : ∀ b o, b ≠ B + 2 → (x.setCell ⟨B + 2, 0, none⟩ u).cell? ⟨b, o, none⟩ = x.cell? ⟨b, o, none⟩ := fun b o hb => World.cell?_setCell_far _ _ _ _ (fun h => hb h.symm)
  refine ⟨(f _ _ (by omega)).trans h0, (f _ _ (by omega)).trans e0, (f _ _ (by omega)).trans e1, (f _ _ (by omega)).trans e2, (f _ _ (by omega)).trans e3, (f _ _ (by omega)).trans e4, (f _ _ (by omega)).trans e5, (f _ _ (by omega)).trans e6, (f _ _ (by omega)).trans e7, by simpa using h3, h4.setCell (by show B ≤ B + 2; omega) _⟩
theorem PutBox.res {B n c : Nat} {A : Option Addr} {e : Nd} {w x : World} (h : PutBox B A n c e w x) (u : Value) : (x.setCell ⟨B + 2, 0, none⟩ u).cell? ⟨B + 2, 0, none⟩ = some u :=
  World.cell?_setCell_same' _ _ _ (by rw [h.2.2.1]; rfl)
theorem PutBox.bel {B n c : Nat} {A : Option Addr} {e : Nd} {w x : World} (h : PutBox B A n c e w x) (u : Value) : Below B w (x.setCell ⟨B + 2, 0, none⟩ u) := h.2.2.2.2.1.setCell (by show B ≤ B + 2; omega) _

set_option maxHeartbeats 2000000 in
set_option maxRecDepth 100000 in
theorem Put_arg1 (v : Value) (n : Nat) (N : Nat → Nd) (e : Nd) (most : Int) (w : World) (hv : NdsAt w v n N) (hn : n ≤ 1000000) (_he : NdR e) (hm : R64 most) (hch : ¬ CheckP n N) :
    Calls Try.prog 83 #[.agg #[v], ndV e, .int .i64 most] w (PutPost n N e most w) := by
  have hv' := Lib.hid hv
  obtain ⟨A, c, rfl, hc, _, _⟩ := hv
  obtain ⟨hc0, hc1⟩ := hc
  obtain ⟨hm0, hm1⟩ := hm
  have hbx := putBox w A n c e 24 39 24
  obtain ⟨W0, hW0⟩ : ∃ x, x = (((w.alloc (.cells #[.slice A n c] 24)).alloc (.cells #[.int .i8 e.op, .int .i8 e.len, .int .i64 e.a0, .int .i64 e.a1, .int .i64 e.a2, .int .i64 e.sort, .int .i64 e.fn, .int .i64 e.num] 39)).alloc (.cells #[.slice none 0 0] 24)) := ⟨_, rfl⟩
  rw [← hW0] at hbx
  have hW0' := Lib.hid hW0
  clear hW0
  have hv0 := Lib.hid (hv'.out.below hbx.2.2.2.2.1)
  unfold ndV
  have hR := Lib.hid (PutR.arg (n := n) (N := N) (e := e) (most := most) (fun h => hch h.1) N)
  have hy := Lib.hid (check_not hch)
  clear hch
  go_enter Try.func83, Try.ntmps83
  go_wp2_with fail
  rw [← hW0'.out]
  obtain ⟨q0, q1, q2, q3, q4, q5⟩ := hbx
  go_wp2_with fail
  refine (Check_any _ n N _ hv0.out hn).mono ?_
  rintro x w2 ⟨rfl, hb2⟩
  rw [hy.out]
  have pb2 := PutBox.step ⟨q0, q1, q2, q3, q4, q5⟩ hb2
  clear q0 q1 q2 q3 q4 q5
  obtain ⟨q0, q1, q2, q3, q4, q5⟩ := pb2
  go_wp2
  exact bodyPost_ret (results_tab2 rfl _ _ (w.heap.size + 2) (.slice none 0 0) rfl (PutBox.res ⟨q0, q1, q2, q3, q4, q5⟩ _)) rfl ⟨_, 0, N, 0, 2, rfl, hR.out, NdsAt.nil _ _, PutBox.bel ⟨q0, q1, q2, q3, q4, q5⟩ _⟩
set_option maxHeartbeats 2000000 in
set_option maxRecDepth 100000 in
theorem Put_arg2 (v : Value) (n : Nat) (N : Nat → Nd) (e : Nd) (most : Int) (w : World) (hv : NdsAt w v n N) (hn : n ≤ 1000000) (he : NdR e) (hm : R64 most) (hch : CheckP n N) (hst : ¬ StandsP e n) :
    Calls Try.prog 83 #[.agg #[v], ndV e, .int .i64 most] w (PutPost n N e most w) := by
  have hv' := Lib.hid hv
  obtain ⟨A, c, rfl, hc, _, _⟩ := hv
  obtain ⟨hc0, hc1⟩ := hc
  obtain ⟨hm0, hm1⟩ := hm
  have hbx := putBox w A n c e 24 39 24
  obtain ⟨W0, hW0⟩ : ∃ x, x = (((w.alloc (.cells #[.slice A n c] 24)).alloc (.cells #[.int .i8 e.op, .int .i8 e.len, .int .i64 e.a0, .int .i64 e.a1, .int .i64 e.a2, .int .i64 e.sort, .int .i64 e.fn, .int .i64 e.num] 39)).alloc (.cells #[.slice none 0 0] 24)) := ⟨_, rfl⟩
  rw [← hW0] at hbx
  have hW0' := Lib.hid hW0
  clear hW0
  have hv0 := Lib.hid (hv'.out.below hbx.2.2.2.2.1)
  unfold ndV
  have hR := Lib.hid (PutR.arg (n := n) (N := N) (e := e) (most := most) (fun h => hst h.2) N)
  have hy := Lib.hid (check_yes hch)
  have hsy := Lib.hid (stands_no hst)
  clear hch hst
  go_enter Try.func83, Try.ntmps83
  go_wp2_with fail
  rw [← hW0'.out]
  obtain ⟨q0, q1, q2, q3, q4, q5⟩ := hbx
  go_wp2_with fail
  refine (Check_any _ n N _ hv0.out hn).mono ?_
  rintro x w2 ⟨rfl, hb2⟩
  rw [hy.out]
  have pb2 := PutBox.step ⟨q0, q1, q2, q3, q4, q5⟩ hb2
  clear q0 q1 q2 q3 q4 q5
  obtain ⟨q0, q1, q2, q3, q4, q5⟩ := pb2
  go_wp2_with fail
  refine (Stands_any e _ _ n w2 he q1 (by omega) (by unfold R64; omega)).mono ?_
  rintro x w3 ⟨rfl, hb3⟩
  rw [hsy.out]
  have pb3 := PutBox.step ⟨q0, q1, q2, q3, q4, q5⟩ hb3
  clear q0 q1 q2 q3 q4 q5
  obtain ⟨q0, q1, q2, q3, q4, q5⟩ := pb3
  go_wp2
  exact bodyPost_ret (results_tab2 rfl _ _ (w.heap.size + 2) (.slice none 0 0) rfl (PutBox.res ⟨q0, q1, q2, q3, q4, q5⟩ _)) rfl ⟨_, 0, N, 0, 2, rfl, hR.out, NdsAt.nil _ _, PutBox.bel ⟨q0, q1, q2, q3, q4, q5⟩ _⟩
set_option maxHeartbeats 2000000 in
set_option maxRecDepth 100000 in
theorem Put_many (v : Value) (n : Nat) (N : Nat → Nd) (e : Nd) (most : Int) (w : World) (hv : NdsAt w v n N) (hn : n ≤ 1000000) (he : NdR e) (hm : R64 most) (hch : CheckP n N) (hst : StandsP e n) (hpl : placeN N n e = none) (hmn : most ≤ n) :
    Calls Try.prog 83 #[.agg #[v], ndV e, .int .i64 most] w (PutPost n N e most w) := by
  have hv' := Lib.hid hv
  obtain ⟨A, c, rfl, hc, _, _⟩ := hv
  obtain ⟨hc0, hc1⟩ := hc
  obtain ⟨hm0, hm1⟩ := hm
  have hbx := putBox w A n c e 24 39 24
  obtain ⟨W0, hW0⟩ : ∃ x, x = (((w.alloc (.cells #[.slice A n c] 24)).alloc (.cells #[.int .i8 e.op, .int .i8 e.len, .int .i64 e.a0, .int .i64 e.a1, .int .i64 e.a2, .int .i64 e.sort, .int .i64 e.fn, .int .i64 e.num] 39)).alloc (.cells #[.slice none 0 0] 24)) := ⟨_, rfl⟩
  rw [← hW0] at hbx
  have hW0' := Lib.hid hW0
  clear hW0
  have hv0 := Lib.hid (hv'.out.below hbx.2.2.2.2.1)
  unfold ndV
  have hR := Lib.hid (PutR.many hch hst ((placeN_none N n e).1 hpl) hmn N)
  have hy := Lib.hid (check_yes hch)
  have hsy := Lib.hid (stands_yes hst)
  have hpl' := Lib.hid hpl
  have hd0 : decide (most ≤ (n : Int)) = true := by simp; omega
  clear hch hst hpl
  go_enter Try.func83, Try.ntmps83
  go_wp2_with fail
  rw [← hW0'.out]
  obtain ⟨q0, q1, q2, q3, q4, q5⟩ := hbx
  go_wp2_with fail
  refine (Check_any _ n N _ hv0.out hn).mono ?_
  rintro x w2 ⟨rfl, hb2⟩
  rw [hy.out]
  have pb2 := PutBox.step ⟨q0, q1, q2, q3, q4, q5⟩ hb2
  clear q0 q1 q2 q3 q4 q5
  obtain ⟨q0, q1, q2, q3, q4, q5⟩ := pb2
  go_wp2_with fail
  refine (Stands_any e _ _ n w2 he q1 (by omega) (by unfold R64; omega)).mono ?_
  rintro x w3 ⟨rfl, hb3⟩
  rw [hsy.out]
  have pb3 := PutBox.step ⟨q0, q1, q2, q3, q4, q5⟩ hb3
  clear q0 q1 q2 q3 q4 q5
  obtain ⟨q0, q1, q2, q3, q4, q5⟩ := pb3
  go_wp2_with fail
  refine (places_any _ n N w3 (hv'.out.below q4) hn).mono ?_
  rintro x w4 ⟨b4, rfl, hp4, _, hb4⟩
  have pb4 := PutBox.step ⟨q0, q1, q2, q3, q4, q5⟩ hb4
  clear q0 q1 q2 q3 q4 q5
  have hlook : (Instr.lookup 65 (.map (some b4)) (.agg #[.int .i8 e.op, .int .i8 e.len, .int .i64 e.a0, .int .i64 e.a1, .int .i64 e.a2, .int .i64 e.sort, .int .i64 e.fn, .int .i64 e.num]) true).run Try.prog w4 = .ok (.tuple #[.int .i64 0, .bool false]) w4 := by
    have := hp4.look he
    rw [hpl'.out] at this
    exact this
  obtain ⟨q0, ⟨e0, e1, e2, e3, e4, e5, e6, e7⟩, q2, q3, q4, q5⟩ := pb4
  have pb : PutBox w.heap.size A n c e w w4 := ⟨q0, ⟨e0, e1, e2, e3, e4, e5, e6, e7⟩, q2, q3, q4, q5⟩
  simp only [Nat.zero_add] at e1 e2 e3 e4 e5 e6 e7
  go_wp2
  exact bodyPost_ret (results_tab2 rfl _ _ (w.heap.size + 2) (.slice none 0 0) rfl (PutBox.res pb _)) rfl ⟨_, 0, N, 0, 40, rfl, hR.out, NdsAt.nil _ _, PutBox.bel pb _⟩
set_option maxHeartbeats 2000000 in
set_option maxRecDepth 100000 in
theorem Put_there (v : Value) (n : Nat) (N : Nat → Nd) (e : Nd) (most : Int) (w : World) (hv : NdsAt w v n N) (hn : n ≤ 1000000) (he : NdR e) (hm : R64 most) (hch : CheckP n N) (hst : StandsP e n) (i : Nat) (hi : i < n) (hie : N i = e) (hpl : placeN N n e = some i) :
    Calls Try.prog 83 #[.agg #[v], ndV e, .int .i64 most] w (PutPost n N e most w) := by
  have hv' := Lib.hid hv
  obtain ⟨A, c, rfl, hc, _, _⟩ := hv
  obtain ⟨hc0, hc1⟩ := hc
  obtain ⟨hm0, hm1⟩ := hm
  have hbx := putBox w A n c e 24 39 24
  obtain ⟨W0, hW0⟩ : ∃ x, x = (((w.alloc (.cells #[.slice A n c] 24)).alloc (.cells #[.int .i8 e.op, .int .i8 e.len, .int .i64 e.a0, .int .i64 e.a1, .int .i64 e.a2, .int .i64 e.sort, .int .i64 e.fn, .int .i64 e.num] 39)).alloc (.cells #[.slice none 0 0] 24)) := ⟨_, rfl⟩
  rw [← hW0] at hbx
  have hW0' := Lib.hid hW0
  clear hW0
  have hv0 := Lib.hid (hv'.out.below hbx.2.2.2.2.1)
  unfold ndV
  have hR := Lib.hid (PutR.there (most := most) hch hst i hi hie)
  have hy := Lib.hid (check_yes hch)
  have hsy := Lib.hid (stands_yes hst)
  have hpl' := Lib.hid hpl
  clear hch hst hpl hie
  go_enter Try.func83, Try.ntmps83
  go_wp2_with fail
  rw [← hW0'.out]
  obtain ⟨q0, q1, q2, q3, q4, q5⟩ := hbx
  go_wp2_with fail
  refine (Check_any _ n N _ hv0.out hn).mono ?_
  rintro x w2 ⟨rfl, hb2⟩
  rw [hy.out]
  have pb2 := PutBox.step ⟨q0, q1, q2, q3, q4, q5⟩ hb2
  clear q0 q1 q2 q3 q4 q5
  obtain ⟨q0, q1, q2, q3, q4, q5⟩ := pb2
  go_wp2_with fail
  refine (Stands_any e _ _ n w2 he q1 (by omega) (by unfold R64; omega)).mono ?_
  rintro x w3 ⟨rfl, hb3⟩
  rw [hsy.out]
  have pb3 := PutBox.step ⟨q0, q1, q2, q3, q4, q5⟩ hb3
  clear q0 q1 q2 q3 q4 q5
  obtain ⟨q0, q1, q2, q3, q4, q5⟩ := pb3
  go_wp2_with fail
  refine (places_any _ n N w3 (hv'.out.below q4) hn).mono ?_
  rintro x w4 ⟨b4, rfl, hp4, _, hb4⟩
  have pb4 := PutBox.step ⟨q0, q1, q2, q3, q4, q5⟩ hb4
  clear q0 q1 q2 q3 q4 q5
  have hlook : (Instr.lookup 65 (.map (some b4)) (.agg #[.int .i8 e.op, .int .i8 e.len, .int .i64 e.a0, .int .i64 e.a1, .int .i64 e.a2, .int .i64 e.sort, .int .i64 e.fn, .int .i64 e.num]) true).run Try.prog w4 = .ok (.tuple #[.int .i64 i, .bool true]) w4 := by
    have := hp4.look he
    rw [hpl'.out] at this
    exact this
  obtain ⟨q0, ⟨e0, e1, e2, e3, e4, e5, e6, e7⟩, q2, q3, q4, q5⟩ := pb4
  have pb : PutBox w.heap.size A n c e w w4 := ⟨q0, ⟨e0, e1, e2, e3, e4, e5, e6, e7⟩, q2, q3, q4, q5⟩
  simp only [Nat.zero_add] at e1 e2 e3 e4 e5 e6 e7
  go_wp2
  exact bodyPost_ret (results_tab2 rfl _ _ (w.heap.size + 2) (.slice A n c) rfl (PutBox.res pb _)) rfl ⟨_, n, N, i, 0, rfl, hR.out, hv'.out.below (PutBox.bel pb _), PutBox.bel pb _⟩
set_option maxHeartbeats 2000000 in
set_option maxRecDepth 100000 in
theorem Put_put (v : Value) (n : Nat) (N : Nat → Nd) (e : Nd) (most : Int) (w : World) (hv : NdsAt w v n N) (hn : n ≤ 1000000) (he : NdR e) (hm : R64 most) (hch : CheckP n N) (hst : StandsP e n) (hpl : placeN N n e = none) (hmn : (n : Int) < most) :
    Calls Try.prog 83 #[.agg #[v], ndV e, .int .i64 most] w (PutPost n N e most w) := by
  have hv' := Lib.hid hv
  obtain ⟨A, c, rfl, hc, _, _⟩ := hv
  obtain ⟨hc0, hc1⟩ := hc
  obtain ⟨hm0, hm1⟩ := hm
  have hbx := putBox w A n c e 24 39 24
  obtain ⟨W0, hW0⟩ : ∃ x, x = (((w.alloc (.cells #[.slice A n c] 24)).alloc (.cells #[.int .i8 e.op, .int .i8 e.len, .int .i64 e.a0, .int .i64 e.a1, .int .i64 e.a2, .int .i64 e.sort, .int .i64 e.fn, .int .i64 e.num] 39)).alloc (.cells #[.slice none 0 0] 24)) := ⟨_, rfl⟩
  rw [← hW0] at hbx
  have hW0' := Lib.hid hW0
  clear hW0
  have hv0 := Lib.hid (hv'.out.below hbx.2.2.2.2.1)
  unfold ndV
  have hR := Lib.hid (PutR.put (most := most) hch hst ((placeN_none N n e).1 hpl) hmn)
  have hy := Lib.hid (check_yes hch)
  have h2 := hch.two
  have hsy := Lib.hid (stands_yes hst)
  have hpl' := Lib.hid hpl
  have hd0 : decide (most ≤ (n : Int)) = false := by simp; omega
  clear hch hst hpl
  go_enter Try.func83, Try.ntmps83
  go_wp2_with fail
  rw [← hW0'.out]
  obtain ⟨q0, q1, q2, q3, q4, q5⟩ := hbx
  go_wp2_with fail
  refine (Check_any _ n N _ hv0.out hn).mono ?_
  rintro x w2 ⟨rfl, hb2⟩
  rw [hy.out]
  have pb2 := PutBox.step ⟨q0, q1, q2, q3, q4, q5⟩ hb2
  clear q0 q1 q2 q3 q4 q5
  obtain ⟨q0, q1, q2, q3, q4, q5⟩ := pb2
  go_wp2_with fail
  refine (Stands_any e _ _ n w2 he q1 (by omega) (by unfold R64; omega)).mono ?_
  rintro x w3 ⟨rfl, hb3⟩
  rw [hsy.out]
  have pb3 := PutBox.step ⟨q0, q1, q2, q3, q4, q5⟩ hb3
  clear q0 q1 q2 q3 q4 q5
  obtain ⟨q0, q1, q2, q3, q4, q5⟩ := pb3
  go_wp2_with fail
  refine (places_any _ n N w3 (hv'.out.below q4) hn).mono ?_
  rintro x w4 ⟨b4, rfl, hp4, _, hb4⟩
  have pb4 := PutBox.step ⟨q0, q1, q2, q3, q4, q5⟩ hb4
  clear q0 q1 q2 q3 q4 q5
  have hlook : (Instr.lookup 65 (.map (some b4)) (.agg #[.int .i8 e.op, .int .i8 e.len, .int .i64 e.a0, .int .i64 e.a1, .int .i64 e.a2, .int .i64 e.sort, .int .i64 e.fn, .int .i64 e.num]) true).run Try.prog w4 = .ok (.tuple #[.int .i64 0, .bool false]) w4 := by
    have := hp4.look he
    rw [hpl'.out] at this
    exact this
  obtain ⟨q0, ⟨e0, e1, e2, e3, e4, e5, e6, e7⟩, q2, q3, q4, q5⟩ := pb4
  have pb : PutBox w.heap.size A n c e w w4 := ⟨q0, ⟨e0, e1, e2, e3, e4, e5, e6, e7⟩, q2, q3, q4, q5⟩
  simp only [Nat.zero_add] at e1 e2 e3 e4 e5 e6 e7
  go_wp2
  clear hlook hp4 hb4 hb3 hb2 q2 q5
  have pb5 : PutBox w.heap.size A n c e w (w4.alloc (.cells #[.int .i8 e.op, .int .i8 e.len, .int .i64 e.a0, .int .i64 e.a1, .int .i64 e.a2, .int .i64 e.sort, .int .i64 e.fn, .int .i64 e.num] 39)).drew := (pb.alloc _).drew
  have hsrc := Lib.hid ((hv'.out.pre (Nat.le_refl n) n (by omega)).below pb5.2.2.2.2.1)
  have hnw := Lib.hid (show NdIn (w4.alloc (.cells #[.int .i8 e.op, .int .i8 e.len, .int .i64 e.a0, .int .i64 e.a1, .int .i64 e.a2, .int .i64 e.sort, .int .i64 e.fn, .int .i64 e.num] 39)).drew w4.heap.size 0 e from ⟨by simp, by simp, by simp, by simp, by simp, by simp, by simp, by simp⟩)
  go_region_held3 (fun x => x.cell? ⟨w.heap.size, 0, none⟩ = some (.slice A n c) ∧ x.cell? ⟨w.heap.size + 1, 0, none⟩ = some (.int .i8 e.op) ∧ x.cell? ⟨w.heap.size + 1, 1, none⟩ = some (.int .i8 e.len) ∧ x.cell? ⟨w.heap.size + 1, 2, none⟩ = some (.int .i64 e.a0) ∧ x.cell? ⟨w.heap.size + 1, 3, none⟩ = some (.int .i64 e.a1) ∧ x.cell? ⟨w.heap.size + 1, 4, none⟩ = some (.int .i64 e.a2)
      ∧ x.cell? ⟨w.heap.size + 1, 5, none⟩ = some (.int .i64 e.sort) ∧ x.cell? ⟨w.heap.size + 1, 6, none⟩ = some (.int .i64 e.fn) ∧ x.cell? ⟨w.heap.size + 1, 7, none⟩ = some (.int .i64 e.num) ∧ w.heap.size + 2 < x.heap.size ∧ Below w.heap.size w x)
    (first | exact putS pb.drew | exact putS pb5 | exact putS pb6 | exact hs7)
    (first | (refine step_appN rfl (.tmp 50) (.tmp 52) rfl A n N rfl (by omega) hsrc.out hn _ _ e rfl hnw.out he ?_; intro g6 c6 w6 hN6 hb6 hg6; have pb6 := pb5.step hb6; have hs7 := putS_set pb6 (.slice (some ⟨g6, 0, none⟩) (n + 1) c6); have q2 := pb6.2.2.1; have q5 := pb6.2.2.2.2.2))
  go_wp2
  have hg : w.heap.size + 2 ≠ g6 := by have := pb5.2.2.2.1; omega
  exact bodyPost_ret (results_tab2 rfl _ _ (w.heap.size + 2) (.slice (some ⟨g6, 0, none⟩) (n + 1) c6) rfl (PutBox.res pb6 _)) rfl ⟨_, n + 1, extN N n e, n, 0, rfl, hR.out, hN6.setOther hg _, PutBox.bel pb6 _⟩
theorem Put_any (v : Value) (n : Nat) (N : Nat → Nd) (e : Nd) (most : Int) (w : World) (hv : NdsAt w v n N) (hn : n ≤ 1000000) (he : NdR e) (hm : R64 most) :
    Calls Try.prog 83 #[.agg #[v], ndV e, .int .i64 most] w (PutPost n N e most w) := by
  rcases Classical.em (CheckP n N) with hch | hch
  · rcases Classical.em (StandsP e n) with hst | hst
    · cases hpl : placeN N n e with
      | some x =>
        obtain ⟨i, h1, h2, h3⟩ := placeN_some N n e x hpl
        subst h3
        exact Put_there v n N e most w hv hn he hm hch hst i h1 h2 hpl
      | none =>
        by_cases hmn : most ≤ n
        · exact Put_many v n N e most w hv hn he hm hch hst hpl hmn
        · exact Put_put v n N e most w hv hn he hm hch hst hpl (by omega)
    · exact Put_arg2 v n N e most w hv hn he hm hch hst
  · exact Put_arg1 v n N e most w hv hn he hm hch
end Go.Proofs.Ytecmoahadckomaa

namespace Go.Proofs.Ytecmoahadckomaa
open Go.RowKit Go.Maps
set_option maxRecDepth 100000

theorem cells_new (w : World) (c : Array Value) (t : TypeId) (j : Nat) (u : Value) (h : c[j]? = some u) : (w.alloc (.cells c t)).cell? ((⟨w.heap.size, 0, none⟩ : Addr).add j) = some u := by
  have e : ((⟨w.heap.size, 0, none⟩ : Addr).add j) = ⟨w.heap.size, j, none⟩ := by
    unfold Addr.add; split
    · next e => rw [e]
    · simp
  rw [e]
  have h1 : c.size > j := by
    rcases Nat.lt_or_ge j c.size with h' | h'
    · exact h'
    · rw [Array.getElem?_eq_none h'] at h; cases h
  have hr := World.rowIs_alloc w c t (fun i => c.getD i .nilIface) (fun i hi => by simp [Array.getD, hi])
  have hx := hr.cell h1
  rw [hx, ← h]
  simp [Array.getD, h1]
theorem wpList_app2n {ops : Array Oper} {rest : List Oper} {o : Oper} {a : Act} {w : World} {Q : Exit → Act → World → Prop}
    (hg : o.guard = none) (s x : Operand) (hop : o.op = Op.call { callee := Callee.builtin Builtin.append, args := #[s, x], argTypes := #[22, 22] })
    (A : Option Addr) (n : Nat) (N : Nat → Nd) (hs : a.eval s = .slice A n n) (hn0 : 0 < n) (hN : NdsAt w (.slice A n n) n N) (hn : n ≤ 1000000)
    (g c : Nat) (e1 e2 : Nd) (hx : a.eval x = .slice (some ⟨g, 0, none⟩) 2 c) (hc : ∀ j u, (ndC e1 ++ ndC e2)[j]? = some u → w.cell? ((⟨g, 0, none⟩ : Addr).add j) = some u) (h1 : NdR e1) (h2 : NdR e2)
    (hK : ∀ g' cap w', NdsAt w' (.slice (some ⟨g', 0, none⟩) (n + 2) cap) (n + 2) (extN (extN N n e1) (n + 1) e2) → Below w.heap.size w w' → w.heap.size ≤ g' → wpList Try.prog ops Q rest (a.put o.dst (.slice (some ⟨g', 0, none⟩) (n + 2) cap)) w') :
    wpList Try.prog ops Q (o :: rest) a w := by
  have hw : Region.wanted o (yielded ops a.tmps) = true := by simp [Region.wanted, hg]
  refine BigFrame.wpList_want hw fun K hK' => ?_
  obtain ⟨i0, hi, hz0, hz1, hz2⟩ := info_parts info_node
  obtain ⟨A', c', e', _, hr, hcs⟩ := hN
  injection e' with e1' _ _
  subst e1'
  obtain ⟨b, ob, rfl, hb, hcell⟩ := hcs hn0
  have H := step_append_grows (P := Try.prog) (K := K) (Q := Q) (ops := ops) (E := True) (w := w) (a := a) (o := o) hg s x _ hop 39 i0 (ndV nd0) 8 56 Try.underlying22 hi hz0 hz1 hz2 rfl (by decide) (some ⟨b, ob, none⟩) n n ((List.range n).flatMap fun i => ndC (N i)) hs (fun h => by cases h)
    (flat_len _ 8 (fun i => ndC_len _) n) ?_ ⟨g, 0, none⟩ 2 c (ndC e1 ++ ndC e2) hx rfl hc ?_ (by omega) (by unfold maxLen; omega) (by omega) ?_
  · rwa [if_pos hw] at H
  · intro b' hb' j u hu
    injection hb' with hb'
    subst hb'
    obtain ⟨i, r, hin, hr8, rfl, hu'⟩ := flat_at _ 8 (fun i => ndC_len _) n j u hu
    have e1 : ((⟨b, ob, none⟩ : Addr).add (i * 8 + r)) = ⟨b, ob + i * 8 + r, none⟩ := by
      unfold Addr.add; split
      · next e => rw [Nat.add_assoc, e, Nat.add_zero]
      · rw [Nat.add_assoc]
    rw [e1]
    obtain ⟨h0, h1, h2, h3, h4, h5, h6, h7⟩ := hcell i hin
    have : r = 0 ∨ r = 1 ∨ r = 2 ∨ r = 3 ∨ r = 4 ∨ r = 5 ∨ r = 6 ∨ r = 7 := by omega
    rcases this with rfl | rfl | rfl | rfl | rfl | rfl | rfl | rfl <;> (simp [ndC] at hu'; subst hu')
    · exact h0
    · exact h1
    · exact h2
    · exact h3
    · exact h4
    · exact h5
    · exact h6
    · exact h7
  · intro u hu
    exact (List.mem_append.1 hu).elim (ndC_one e1 u) (ndC_one e2 u)
  · intro v' w' hown hgr
    rw [← List.append_assoc, flatN_ext, flatN_ext] at hown
    have hN' : NdsAt w' v' (n + 2) (extN (extN N n e1) (n + 1) e2) := OwnN.at_ (base := w.heap.size) hown (extN_R (extN_R hr h1) h2)
    obtain ⟨g', cap, rfl, hge, _⟩ := World.ownsRow.form hown (by omega)
    exact hK' _ _ (hK g' cap w' hN' ((Below.refl w.heap.size w).grown hgr (Nat.le_refl _) (fun k hk => by cases hk)) hge)
theorem wpList_app3n {ops : Array Oper} {rest : List Oper} {o : Oper} {a : Act} {w : World} {Q : Exit → Act → World → Prop}
    (hg : o.guard = none) (s x : Operand) (hop : o.op = Op.call { callee := Callee.builtin Builtin.append, args := #[s, x], argTypes := #[22, 22] })
    (A : Option Addr) (n : Nat) (N : Nat → Nd) (hs : a.eval s = .slice A n n) (hn0 : 0 < n) (hN : NdsAt w (.slice A n n) n N) (hn : n ≤ 1000000)
    (g c : Nat) (e1 e2 e3 : Nd) (hx : a.eval x = .slice (some ⟨g, 0, none⟩) 3 c) (hc : ∀ j u, (ndC e1 ++ ndC e2 ++ ndC e3)[j]? = some u → w.cell? ((⟨g, 0, none⟩ : Addr).add j) = some u) (h1 : NdR e1) (h2 : NdR e2) (h3 : NdR e3)
    (hK : ∀ g' cap w', NdsAt w' (.slice (some ⟨g', 0, none⟩) (n + 3) cap) (n + 3) (extN (extN (extN N n e1) (n + 1) e2) (n + 2) e3) → Below w.heap.size w w' → w.heap.size ≤ g' → wpList Try.prog ops Q rest (a.put o.dst (.slice (some ⟨g', 0, none⟩) (n + 3) cap)) w') :
    wpList Try.prog ops Q (o :: rest) a w := by
  have hw : Region.wanted o (yielded ops a.tmps) = true := by simp [Region.wanted, hg]
  refine BigFrame.wpList_want hw fun K hK' => ?_
  obtain ⟨i0, hi, hz0, hz1, hz2⟩ := info_parts info_node
  obtain ⟨A', c', e', _, hr, hcs⟩ := hN
  injection e' with e1' _ _
  subst e1'
  obtain ⟨b, ob, rfl, hb, hcell⟩ := hcs hn0
  have H := step_append_grows (P := Try.prog) (K := K) (Q := Q) (ops := ops) (E := True) (w := w) (a := a) (o := o) hg s x _ hop 39 i0 (ndV nd0) 8 56 Try.underlying22 hi hz0 hz1 hz2 rfl (by decide) (some ⟨b, ob, none⟩) n n ((List.range n).flatMap fun i => ndC (N i)) hs (fun h => by cases h)
    (flat_len _ 8 (fun i => ndC_len _) n) ?_ ⟨g, 0, none⟩ 3 c (ndC e1 ++ ndC e2 ++ ndC e3) hx rfl hc ?_ (by omega) (by unfold maxLen; omega) (by omega) ?_
  · rwa [if_pos hw] at H
  · intro b' hb' j u hu
    injection hb' with hb'
    subst hb'
    obtain ⟨i, r, hin, hr8, rfl, hu'⟩ := flat_at _ 8 (fun i => ndC_len _) n j u hu
    have e1 : ((⟨b, ob, none⟩ : Addr).add (i * 8 + r)) = ⟨b, ob + i * 8 + r, none⟩ := by
      unfold Addr.add; split
      · next e => rw [Nat.add_assoc, e, Nat.add_zero]
      · rw [Nat.add_assoc]
    rw [e1]
    obtain ⟨h0, h1, h2, h3, h4, h5, h6, h7⟩ := hcell i hin
    have : r = 0 ∨ r = 1 ∨ r = 2 ∨ r = 3 ∨ r = 4 ∨ r = 5 ∨ r = 6 ∨ r = 7 := by omega
    rcases this with rfl | rfl | rfl | rfl | rfl | rfl | rfl | rfl <;> (simp [ndC] at hu'; subst hu')
    · exact h0
    · exact h1
    · exact h2
    · exact h3
    · exact h4
    · exact h5
    · exact h6
    · exact h7
  · intro u hu
    rcases List.mem_append.1 hu with hu | hu
    · exact (List.mem_append.1 hu).elim (ndC_one e1 u) (ndC_one e2 u)
    · exact ndC_one e3 u hu
  · intro v' w' hown hgr
    rw [← List.append_assoc, ← List.append_assoc, flatN_ext, flatN_ext, flatN_ext] at hown
    have hN' : NdsAt w' v' (n + 3) (extN (extN (extN N n e1) (n + 1) e2) (n + 2) e3) := OwnN.at_ (base := w.heap.size) hown (extN_R (extN_R (extN_R hr h1) h2) h3)
    obtain ⟨g', cap, rfl, hge, _⟩ := World.ownsRow.form hown (by omega)
    exact hK' _ _ (hK g' cap w' hN' ((Below.refl w.heap.size w).grown hgr (Nat.le_refl _) (fun k hk => by cases hk)) hge)
theorem RNewY_any (w : World) : Calls Try.prog 17 #[] w fun e w' => ∃ b, e = .returned (.agg #[.slice (some ⟨b, 0, none⟩) 2 2]) ∧ NdsAt w' (.slice (some ⟨b, 0, none⟩) 2 2) 2 newN ∧ w.heap.size ≤ b ∧ Below w.heap.size w w' := by
  go_enter Try.func17, Try.ntmps17
  go_wp2
  refine bodyPost_ret (results_tab rfl _ _ w.heap.size (.slice (some ⟨w.heap.size + 1, 0, none⟩) 2 2) rfl (by simp)) rfl ⟨_, rfl, ?_, by omega, ((Below.refl _ _).alloc (Nat.le_refl _) _).alloc (by simp) _⟩
  have := new_cells (w.alloc (.cells #[.slice (some ⟨w.heap.size + 1, 0, none⟩) 2 2] 24)) 39
  simpa using this

end Go.Proofs.Ytecmoahadckomaa
