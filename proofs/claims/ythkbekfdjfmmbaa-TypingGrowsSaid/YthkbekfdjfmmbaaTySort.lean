/- typing.sort. -/
import Derived.Test.YthkbekfdjfmmbaaTyApp
import Derived.Test.YthkbekfdjfmmbaaStands
namespace Go.Proofs.Ythkbekfdjfmmbaa
open Go.RowKit
set_option maxRecDepth 100000

def sortsN (N : Nat → Nd) (e : Nd) (i : Nat) : Int := (N (e.arg i).toNat).sort
/-- The sort that a node has, its Args standing in a table; and whether it has one. -/
def nodeT (g : Sg) (N : Nat → Nd) (e : Nd) : Int × Int := if e.op = 13 then appT g e.fn e.len.toNat (sortsN N e) else opT e.op e.len.toNat (sortsN N e)
/-- The node's Args stand in a table of n nodes. -/
structure InT (n : Nat) (e : Nd) : Prop where
  R : NdR e
  len0 : 0 ≤ e.len
  len3 : e.len ≤ 3
  arg : ∀ i : Nat, (i : Int) < e.len → 0 ≤ e.arg i ∧ e.arg i < n
def sortV (p : Int × Int) : Value := .tuple #[.int .i64 p.1, .bool (p.2 == 0)]
theorem own3 (w : World) (base : Nat) (hb : base ≤ w.heap.size) : OwnL (w.alloc (.cells #[.int .i64 0, .int .i64 0, .int .i64 0] 3)) base (.slice (some ⟨w.heap.size, 0, none⟩) 0 3) [] :=
  World.ownsRow_made w _ 3 hb (by unfold maxLen; omega) rfl
theorem cellsK.under {K : List (Nat × Nat × Value)} {B : Nat} {x y : World} (h : cellsK K x) (hb : Below B x y) (hK : ∀ a ∈ K, a.1 < B) : cellsK K y := by
  induction K with
  | nil => trivial
  | cons a K ih =>
    obtain ⟨b, o, v⟩ := a
    obtain ⟨⟨h0, h1⟩, h2⟩ := h
    exact ⟨⟨(hb.cell (p := ⟨b, o, none⟩) (hK (b, o, v) (by simp))).trans h0, Nat.lt_of_lt_of_le h1 hb.size⟩, ih h2 fun a ha => hK a (by simp [ha])⟩
theorem Bx.under {K : List (Nat × Nat × Value)} {B : Nat} {w x y : World} (h : Bx w K x) (hb : Below B x y) (hK : ∀ a ∈ K, a.1 < B) (hw : w.heap.size ≤ B) : Bx w K y :=
  ⟨h.cells.under hb hK, h.bel.trans (hb.mono hw)⟩
def soK (w : World) (sv fv mv tv : Value) (e : Nd) : List (Nat × Nat × Value) :=
  [(w.heap.size + 2, 0, .int .i8 e.op), (w.heap.size + 2, 1, .int .i8 e.len), (w.heap.size + 2, 2, .int .i64 e.a0), (w.heap.size + 2, 3, .int .i64 e.a1), (w.heap.size + 2, 4, .int .i64 e.a2), (w.heap.size + 2, 6, .int .i64 e.fn),
   (w.heap.size + 1, 0, tv), (w.heap.size, 0, sv), (w.heap.size, 1, fv), (w.heap.size, 2, mv)]
theorem soK_lt {w : World} {sv fv mv tv : Value} {e : Nd} : ∀ a ∈ soK w sv fv mv tv e, a.1 < w.heap.size + 3 := by
  intro a ha
  simp [soK] at ha
  rcases ha with rfl | rfl | rfl | rfl | rfl | rfl | rfl | rfl | rfl | rfl <;> simp
theorem soK_bx (w : World) (sv fv mv tv : Value) (e : Nd) : Bx w (soK w sv fv mv tv e) (((w.alloc (.cells #[sv, fv, mv] 26)).alloc (.cells #[tv] 60)).alloc (.cells (ndC e).toArray 62)) := by
  have h := (((Bx.nil w).row #[sv, fv, mv] 26).row #[tv] 60).row (ndC e).toArray 62
  simp only [rowK, ndC, World.size_alloc, List.append_nil, List.cons_append, List.nil_append] at h
  obtain ⟨⟨h0, h1, h2, h3, h4, h5, h6, h7, h8⟩, hb⟩ := h
  exact ⟨⟨h0, h1, h2, h3, h4, h6, h8⟩, hb⟩
theorem arg_cell {w x : World} {sv fv mv tv : Value} {e : Nd} (h : Bx w (soK w sv fv mv tv e) x) {j : Nat} (hj : j < 3) : x.cell? ⟨w.heap.size + 2, 2 + j, none⟩ = some (.int .i64 (e.arg j)) := by
  obtain ⟨h0, h1, ⟨h2, _⟩, ⟨h3, _⟩, ⟨h4, _⟩, _⟩ := h.cells
  match j, hj with
  | 0, _ => exact h2
  | 1, _ => exact h3
  | 2, _ => exact h4
theorem range_snoc {f : Nat → Int} {j : Nat} : (List.range (j + 1)).map f = (List.range j).map f ++ [f j] := by rw [List.range_succ, List.map_append]; rfl
theorem OwnL.capOk {w : World} {b : Nat} {v : Value} {xs : List Int} (h : OwnL w b v xs) : CapOk v := by
  intro A n c hv
  rcases h.2 with ⟨rfl, _⟩ | ⟨g, cap, cur, rfl, _, _, h1, h2, _⟩
  · injection hv with _ e1 e2; omega
  · injection hv with _ e1 e2
    unfold maxLen at h2
    omega
set_option maxHeartbeats 4000000 in
theorem TSort_any (sv fv mv tv : Value) (g : Sg) (n : Nat) (N : Nat → Nd) (e : Nd) (w : World) (hG : SgAt w sv fv mv g) (hf : FewG g) (hv : NdsAt w tv n N) (he : InT n e) :
    Calls Try.prog 55 #[.agg #[sv, fv, mv], .agg #[tv], ndV e] w fun z w' => z = .returned (sortV (nodeT g N e)) ∧ Below w.heap.size w w' := by
  have hG' := Lib.hid hG
  have hf' := Lib.hid hf
  obtain ⟨A, c, rfl, -, -⟩ := hG.1
  obtain ⟨FA, fc, rfl, -, -⟩ := hG.2.1
  obtain ⟨MA, mc, rfl, -, -⟩ := hG.2.2
  have hv' := Lib.hid hv
  obtain ⟨TA, tc, rfl, hcap, hRn, hcs⟩ := hv
  have hcs' := Lib.hid hcs
  have hRn' := Lib.hid hRn
  have he' := Lib.hid he
  have hx := soK_bx w (.slice A g.ns c) (.slice FA g.nf fc) (.slice MA g.nm mc) (.slice TA n tc) e
  have hmk : ∀ W : World, (Instr.makeSlice 52 (.int .i64 0) (.int .i64 3)).run Try.prog W = .ok (.slice (some ⟨W.heap.size, 0, none⟩) 0 3) (W.alloc (.cells #[.int .i64 0, .int .i64 0, .int .i64 0] 3)) := fun _ => by kernel_rfl
  have hown := Lib.hid (own3 (((w.alloc (.cells #[.slice A g.ns c, .slice FA g.nf fc, .slice MA g.nm mc] 26)).alloc (.cells #[.slice TA n tc] 60)).alloc (.cells (ndC e).toArray 62)) (w.heap.size + 3) (by simp))
  have hl0 := he.len0
  have hl3 := he.len3
  obtain ⟨m, hm⟩ : ∃ m : Nat, e.len = m := ⟨e.len.toNat, by omega⟩
  have hT : Hid (nodeT g N e = if e.op = 13 then appT g e.fn m (sortsN N e) else opT e.op m (sortsN N e)) := by unfold Hid nodeT; rw [hm]; rfl
  have hwl : IntKind.i64.wrap e.len = e.len := by rw [IntKind.wrap_i64]; omega
  clear hG hf hcs hRn
  unfold ndV
  go_enter Try.func55, Try.ntmps55
  have hx' := Lib.hid hx
  have hal : Try.prog.arrayLen 27 = 3 := by kernel_rfl
  have hm0 : (0 : Int) ≤ (m : Int) := by omega
  have hm3 : (m : Int) ≤ 3 := by omega
  clear hx he
  have hm1 : e.len.toNat = m := by omega
  have hm' := Lib.hid hm
  clear hm
  have hS := Lib.hid fun j => range_snoc (f := sortsN N e) (j := j)
  have hSR : Hid (∀ j, j < m → 0 ≤ e.arg j ∧ (e.arg j).toNat < n ∧ R64 (sortsN N e j)) := fun j hj => by
    have := he'.out.arg j (by rw [hm'.out]; omega)
    refine ⟨this.1, by omega, (hRn'.out _ (by omega)).sort⟩
  go_wp2_with fail
  go_loopw [8, 10, 19] (fun z _ i wr => ∃ j : Nat, j ≤ m ∧ i = .int .i64 j ∧ Hid (OwnL wr (w.heap.size + 3) z ((List.range j).map (sortsN N e))) ∧ Hid (Bx w (soK w (.slice A g.ns c) (.slice FA g.nf fc) (.slice MA g.nm mc) (.slice TA n tc) e) wr)) (fun _ _ i _ => m - (intOf i).toNat)
  case atStart =>
    have h1 := hown.out
    simp only [World.size_alloc] at h1
    have h2 := hx'.out.skip (.cells #[.int .i64 0, .int .i64 0, .int .i64 0] 3)
    exact ⟨0, Nat.zero_le _, rfl, h1, h2⟩
  case round =>
    clear hown hx'
    obtain ⟨j, hj, rfl, hown, hx⟩ := hrel
    obtain ⟨_, _, _, _, _, _, ⟨k7, kz7⟩, _⟩ := hx.out.cells
    by_cases hlt : j < m
    · have i1 : decide ((j : Int) < (m : Int)) = true := decide_eq_true (by omega)
      have pj := arg_cell hx.out (j := j) (by omega)
      obtain ⟨ha0, han, hR⟩ := hSR.out j hlt
      obtain ⟨aj, haj⟩ : ∃ aj : Nat, e.arg j = aj := ⟨(e.arg j).toNat, by omega⟩
      obtain ⟨b, o, rfl, hbl, hcs⟩ := hcs'.out (by omega)
      obtain ⟨_, _, _, _, _, q5, _, _⟩ := hcs aj (by rw [haj] at han; omega)
      have q := (hx.out.bel.cell (p := ⟨b, o + aj * 8 + 5, none⟩) hbl).trans q5
      have hsj : Hid (sortsN N e j = (N aj).sort) := by unfold Hid sortsN; rw [haj]; rfl
      have han' : aj < n := by rw [haj] at han; omega
      have hz := hx.out.bel.size
      clear hcs q5 ha0 han
      rw [haj] at pj
      have hSj : Hid ((List.range (j + 1)).map (sortsN N e) = (List.range j).map (sortsN N e) ++ [(N aj).sort]) := by unfold Hid; rw [hS.out, hsj.out]
      have hRs : R64 (N aj).sort := by rw [← hsj.out]; exact hR
      have haj' := Lib.hid haj
      clear haj hR
      have hlen : ((List.range j).map (sortsN N e)).length = j := by simp
      go_wp2_with (at_builtin; refine wpList_app1 rfl rfl _ _ rfl (w.heap.size + 3) _ _ (N aj).sort rfl (hown.out.alloc _) wr.heap.size 1 rfl ?c1 ?c2 ?c3 ?_)
      case c1 => simp
      case c2 => omega
      case c3 => simp; omega
      intro v' w4 hown4 hb4 _
      go_wp2_with fail
      go_roundw
      case rel => exact ⟨j + 1, by omega, by go_num, by rw [hSj.out]; exact hown4, (hx.out.skip _).under hb4 soK_lt (by omega)⟩
      case measure => simp [intOf]; omega
    · have i1 : decide ((j : Int) < (m : Int)) = false := decide_eq_false (by omega)
      obtain rfl : j = m := by omega
      have hli := hown.out.intsF (by omega) (fun i hi => (hSR.out i hi).2.2)
      have hli' := Lib.hid hli
      have hcap := Lib.hid hown.out.capOk
      obtain ⟨⟨k0, _⟩, _, _, _, _, ⟨k6, _⟩, _, ⟨k8, _⟩, ⟨k9, _⟩, ⟨k10, _⟩, _⟩ := hx.out.cells
      clear hli hown
      by_cases h13 : e.op = 13
      · have d13 : (e.op == 13) = true := by simpa using h13
        have hT2 : Hid (nodeT g N e = appT g e.fn j (sortsN N e)) := by unfold Hid; rw [hT.out, if_pos h13]
        clear h13
        go_wp2_with fail
        refine (TApp_any _ _ _ g e.fn _ j (sortsN N e) wr (hG'.out.below hx.out.bel) hf'.out hli'.out).mono ?_
        rintro z w5 ⟨rfl, hb5⟩
        have hx5 := Lib.hid (hx.out.step hb5)
        rw [← hT2.out]
        unfold opV
        go_wp2_with fail
        refine bodyPost_ret (results_tmp2 rfl _ _ _) rfl ⟨rfl, hx5.out.bel⟩
      · have d13 : (e.op == 13) = false := by simpa using h13
        have hT2 : Hid (nodeT g N e = opT e.op j (sortsN N e)) := by unfold Hid; rw [hT.out, if_neg h13]
        clear h13
        go_wp2_with fail
        refine (TOp_any e.op _ j (sortsN N e) wr he'.out.R.op hli'.out hcap.out).mono ?_
        rintro z w5 ⟨rfl, hb5⟩
        have hx5 := Lib.hid (hx.out.step hb5)
        rw [← hT2.out]
        unfold opV
        go_wp2_with fail
        refine bodyPost_ret (results_tmp2 rfl _ _ _) rfl ⟨rfl, hx5.out.bel⟩
end Go.Proofs.Ythkbekfdjfmmbaa
