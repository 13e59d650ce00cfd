/- term.gathered: walked once for both ways of putting together. -/
import Derived.Test.YtoppfcfalciibaaGathA
namespace Go.Proofs.Ytoppfcfalciibaa
open Go.RowKit Go.Shelf
set_option maxRecDepth 100000
attribute [local go_sem] Oper.semAt_some

structure GJ (w : World) (op : Int → Int → Int) (fk : Nat) (N : Nat → Nd) (id k : Nat) (Ds : List Nat) (W : World) : Prop where
  row : W.rowIs (w.heap.size + 1) 3 (id + 1) (fun j => .int .i64 (if j < k then gth op N j else 0))
  c5 : W.cell? ⟨w.heap.size, 0, none⟩ = some (.func (.func fk) #[] #[])
  c7 : W.cell? ⟨w.heap.size + 1 + 1, 0, none⟩ = some (.slice (some ⟨w.heap.size + 1, 0, none⟩) (id + 1) (id + 1))
  bel : Below w.heap.size w W
  marks : Marks (w.heap.size + 3) W Ds
  sz : w.heap.size + 3 ≤ W.heap.size

set_option maxHeartbeats 4000000 in
theorem gathered_in (op : Int → Int → Int) (ho : OpP op) (fk : Nat) (hent : ∀ args w, (callFunc fk args).run Try.prog w = .ok (.enter fk args) w)
    (hput : ∀ s x w, 0 ≤ s → s ≤ 4294967296 → 0 ≤ x → x ≤ 1073741824 → Calls Try.prog fk #[.int .i64 s, .int .i64 x] w fun e w' => e = .returned (.int .i64 (op s x)) ∧ w' = w)
    (Bt b o m c id : Nat) (N : Nat → Nd) (w : World) (ht : w.cell? ⟨Bt, 0, none⟩ = some (.slice (some ⟨b, o, none⟩) m c)) (hnd : ∀ i, i < m → NdIn w b (o + i * 8) (N i)) (hch : CheckP m N) (hid : id < m) (hm : m ≤ 1000000)
    (gt : Bt < w.heap.size) (gb : b < w.heap.size) :
    CallsIn Fence.wide 5 Try.prog 50 #[.pointer (some ⟨Bt, 0, none⟩), .int .i64 id, .func (.func fk) #[] #[]] w fun e w' => e = .returned (.int .i64 (gth op N id)) ∧ Below w.heap.size w w' := by
  refine callsIn_of_wp_marks Try.func50 rfl trivial ?_ rfl
  simp only [Try.ntmps50, List.size_toArray, List.length_cons, List.length_nil, Nat.reduceAdd, Nat.reduceSub, Array.replicate_succ, Array.replicate_zero, List.push_toArray, List.append_toArray, List.nil_append, List.cons_append]
  have i0 : decide ((id : Int) < 0) = false := decide_eq_false (by omega)
  have i1 : decide ((id : Int) ≥ (m : Int)) = false := decide_eq_false (by omega)
  have hwr : IntKind.i64.wrap ((id : Int) + 1) = ((id + 1 : Nat) : Int) := by rw [IntKind.wrap_i64]; omega
  have hmk := run_make_row' (P := Try.prog) 41 3 (.int .i64 0) 8 Try.underlying41 info_int rfl .i64 .i64 (id + 1) (by omega) (by omega)
  rw [show ((id + 1 : Nat) : Int) = (id : Int) + 1 by omega] at hmk
  gi_wp2
  have hd : decide (m ≤ id) = false := decide_eq_false (by omega)
  simp only [hd]
  clear hmk hwr i0 i1 hd
  refine wpIn_loop (fun a W => ∃ (k : Nat) (u8 u9 u27 u28 u29 u30 u31 u32 u33 u34 u35 u36 u37 u38 u39 u40 u41 u42 u43 u44 u45 u46 u47 u48 u49 u50 u51 u52 u53 u54 u55 : Value) (Ds : List Nat), a = { tmps := #[.pointer (some ⟨Bt, 0, none⟩), .int .i64 id, .func (.func fk) #[] #[], undef, undef, .pointer (some ⟨w.heap.size, 0, none⟩), .int .i64 0, .pointer (some ⟨(w.heap.size + 1 + 1), 0, none⟩), u8, u9, .int .i64 id, .bool false, .bool false, .int .i64 id, .pointer (some ⟨Bt, 0, none⟩), .pointer (some ⟨Bt, 0, none⟩), .pointer (some ⟨Bt, 0, none⟩), .slice (some ⟨b, o, none⟩) m c, .int .i64 m, .bool false, .bool false, .int .i64 id, .int .i64 ((id : Int) + 1), .slice (some ⟨w.heap.size + 1, 0, none⟩) (id + 1) (id + 1), .slice (some ⟨w.heap.size + 1, 0, none⟩) (id + 1) (id + 1), .int .i64 ((id : Int) + 1), .int .i64 (k : Int), u27, u28, u29, u30, u31, u32, u33, u34, u35, u36, u37, u38, u39, u40, u41, u42, u43, u44, u45, u46, u47, u48, u49, u50, u51, u52, u53, u54, u55, undef, undef, undef, undef], defers := Ds.map markD } ∧ k ≤ id + 1 ∧ GJ w op fk N id k Ds W) (fun a _ => id + 1 - (intOf (a.tmps.getD 26 undef)).toNat) ?start ?round
  case start =>
    refine ⟨0, undef, undef, undef, undef, undef, undef, undef, undef, undef, undef, undef, undef, undef, undef, undef, undef, undef, undef, undef, undef, undef, undef, undef, undef, undef, undef, undef, undef, undef, undef, undef, [], rfl, by omega, ?_⟩
    have hbw := (((Below.refl _ w).alloc (Nat.le_refl _) (.cells #[.func (.func fk) #[] #[]] 87)).alloc (by simp) (.cells (madeCells #[.int .i64 0] (id + 1)) 3)).alloc (by simp; omega) (.cells #[.slice (some ⟨w.heap.size + 1, 0, none⟩) (id + 1) (id + 1)] 41)
    have hB := (((Bx.nil w).one (.func (.func fk) #[] #[]) 87).skip (.cells (madeCells #[.int .i64 0] (id + 1)) 3)).one (.slice (some ⟨w.heap.size + 1, 0, none⟩) (id + 1) (id + 1)) 41
    simp only [World.size_alloc] at hB
    refine ⟨?_, ?_, ?_, hbw, Marks.nil _ _, by simp⟩
    · have h := (World.rowIs_made (w.alloc (.cells #[.func (.func fk) #[] #[]] 87)) (.int .i64 0) (id + 1) 3).alloc (.cells #[.slice (some ⟨w.heap.size + 1, 0, none⟩) (id + 1) (id + 1)] 41)
      rw [World.size_alloc] at h
      exact h.congr fun i _ => by rw [if_neg (Nat.not_lt_zero _)]
    · exact hB.cells.2.1.1
    · exact hB.cells.1.1
  case round =>
    rintro _ W ⟨k, u8, u9, u27, u28, u29, u30, u31, u32, u33, u34, u35, u36, u37, u38, u39, u40, u41, u42, u43, u44, u45, u46, u47, u48, u49, u50, u51, u52, u53, u54, u55, Ds, rfl, hk, hJ⟩
    by_cases hlt : k < id + 1
    · have hc5 := hJ.c5
      have hc7 := hJ.c7
      have i2 : decide ((k : Int) < (id : Int) + 1) = true := decide_eq_true (by omega)
      gi_wp2_with (refine ⟨trivial, ?_⟩; gi_at_call 53; refine (callsIn_wide.2 (args_w _ _ _)).mono ?_; rintro e w' ⟨rfl, rfl⟩)
      have hz := hJ.sz
      have hid' : k < m := by omega
      obtain ⟨E, hE⟩ : ∃ E, ((W.alloc (.cells #[.int .i64 (k : Int)] 3)).alloc (.cells #[.pointer (some ⟨Bt, 0, none⟩)] 86)).alloc (.cells #[.int .i64 (k : Int)] 3) = E := ⟨_, rfl⟩
      have hbE : Below W.heap.size W E := by
        rw [← hE]; exact (((Below.refl _ W).alloc (Nat.le_refl _) _).alloc (by simp) _).alloc (by simp; omega) _
      have hsE : E.heap.size = W.heap.size + 3 := by rw [← hE]; simp
      have hB := (((Bx.nil W).one (.int .i64 (k : Int)) 3).one (.pointer (some ⟨Bt, 0, none⟩)) 86).one (.int .i64 (k : Int)) 3
      simp only [World.size_alloc] at hB
      rw [hE] at hB
      have b8 := hB.cells.2.2.1.1
      have b1 := hB.cells.2.1.1
      have b2 := hB.cells.1.1
      clear hB
      rw [hE]
      clear hE
      have e5 := (hbE.cell (p := ⟨w.heap.size, 0, none⟩) (by show w.heap.size < _; omega)).trans hc5
      have e7 := (hbE.cell (p := ⟨w.heap.size + 1 + 1, 0, none⟩) (by show w.heap.size + 1 + 1 < _; omega)).trans hc7
      have hbw := hJ.bel.trans (hbE.mono hJ.bel.size)
      have et := (hbw.cell (p := ⟨Bt, 0, none⟩) gt).trans ht
      have hrE := hJ.row.of_block (hbE.block (w.heap.size + 1) (by omega))
      have hmE : Marks (w.heap.size + 3) E Ds := hJ.marks.keep fun D hD => hbE.block D (hJ.marks.lt hD)
      refine wpIn_rangeFunc_ownF (n := 5) rfl (by decide) (gf := 81) (lb := #[.pointer (some ⟨W.heap.size + 1, 0, none⟩), .pointer (some ⟨W.heap.size + 1 + 1, 0, none⟩)]) rfl trivial (enters_of Try.func81 (by kernel_rfl) rfl)
        (args_stops 4 (by decide) (w.heap.size + 1) (W.heap.size + 1) (W.heap.size + 1 + 1) Bt E.heap.size m c k b o N E b1 b2 et ((hnd k hid').keep fun j => hbw.cell (p := ⟨b, j, none⟩) gb) hid' hch (by omega) (by omega) (by omega) (by omega) (by omega) (by omega) (by omega) (by omega) (Nat.le_refl _))
        Keep2.trans (fun W' l o o' h1 h2 h3 h4 => Keep2.b (Nat.le_refl _) W' l o o' h1 h2 h3 h4) (Below.refl _ _) (fun _ => rfl)
        (fun pre W' => W'.rowIs (w.heap.size + 1) 3 (id + 1) (fun j => .int .i64 (if j < k then gth op N j else if j = k then foldG op (gth op N) (vals pre) else 0)) ∧ Keep2 (w.heap.size + 1) E.heap.size E W' ∧ Below w.heap.size w W')
        (fun _ _ _ => False)
        (ownFrom_of_below (fun s A B hs hAB => ⟨hs.1.of_block (hAB.block _ (by omega)), hs.2.1.trans (.of_below hAB (Nat.le_refl _)), hs.2.2.trans (hAB.mono (by omega))⟩) (fun s A hs => hs.2.1.size))
        (fun _ _ _ _ _ hs _ _ => hs)
        ⟨hrE.congr fun i _ => (by by_cases h1 : i < k <;> by_cases h2 : i = k <;> simp [h1, h2, vals, foldG]), Keep2.refl _ _ _, hbw⟩
        (fun x => { tmps := #[.pointer (some ⟨Bt, 0, none⟩), .int .i64 id, .func (.func fk) #[] #[], undef, undef, .pointer (some ⟨w.heap.size, 0, none⟩), .int .i64 0, .pointer (some ⟨(w.heap.size + 1 + 1), 0, none⟩), .pointer (some ⟨W.heap.size, 0, none⟩), .int .i64 x.1, .int .i64 id, .bool false, .bool false, .int .i64 id, .pointer (some ⟨Bt, 0, none⟩), .pointer (some ⟨Bt, 0, none⟩), .pointer (some ⟨Bt, 0, none⟩), .slice (some ⟨b, o, none⟩) m c, .int .i64 m, .bool false, .bool false, .int .i64 id, .int .i64 ((id : Int) + 1), .slice (some ⟨w.heap.size + 1, 0, none⟩) (id + 1) (id + 1), .slice (some ⟨w.heap.size + 1, 0, none⟩) (id + 1) (id + 1), .int .i64 ((id : Int) + 1), .int .i64 (k : Int), .bool true, .int .i64 (k : Int), .pointer (some ⟨Bt, 0, none⟩), .int .i64 (k : Int), .func (.func 81) #[] #[.pointer (some ⟨W.heap.size + 1, 0, none⟩), .pointer (some ⟨W.heap.size + 1 + 1, 0, none⟩)], .int .i64 x.1, u33, u34, u35, u36, u37, u38, u39, u40, u41, u42, u43, u44, u45, u46, u47, u48, u49, u50, u51, u52, u53, u54, u55, undef, undef, undef, undef], defers := [] }) ?assign ?body ?done ?stop
      case assign =>
        intro l x W' K hK
        dsimp only [encA]
        gi_wp2
        exact hK
      case body =>
        rintro l pre ⟨x, hx0, hx1⟩ W' ⟨hrow, hk2, hbw'⟩ hlen
        have v5 := (hk2.cell (p := ⟨w.heap.size, 0, none⟩) (by show w.heap.size ≠ _; omega) (by show w.heap.size < _; omega)).trans e5
        have v7 := (hk2.cell (p := ⟨w.heap.size + 1 + 1, 0, none⟩) (by show w.heap.size + 1 + 1 ≠ _; omega) (by show w.heap.size + 1 + 1 < _; omega)).trans e7
        have v8 := (hk2.cell (p := ⟨W.heap.size, 0, none⟩) (by show W.heap.size ≠ _; omega) (by show W.heap.size < _; omega)).trans b8
        have r1 := hrow.cell hlt
        rw [if_neg (Nat.lt_irrefl k), if_pos rfl] at r1
        have r2 := hrow.cell (i := x.toNat) (by omega)
        rw [if_pos (by omega)] at r2
        have f1 := hrow.frozen k
        have x1 : x < (id : Int) + 1 := by omega
        have k1 : (k : Int) < (id : Int) + 1 := by omega
        have x2 : x.toNat < id + 1 := by omega
        obtain ⟨q1, q2⟩ := foldG_range ho (gth_range ho N) (vals pre)
        obtain ⟨q3, q4⟩ := gth_range ho N x.toNat
        have hvl := vals_len pre
        have q5 : foldG op (gth op N) (vals pre) ≤ 4294967296 := by rw [hvl] at q2; omega
        have hsn := Lib.hid (foldG_snoc op (gth op N) (vals pre) x)
        have hvs := Lib.hid (vals_snoc pre ⟨x, hx0, hx1⟩)
        gi_wp2
        have hp := hput _ _ W'.drew q1 q5 q3 q4
        refine wpIn_region_tail 12 WideF.round (by kernel_rfl) (by kernel_rfl) ?_
        simp only [List.take_succ_cons, List.take_zero, List.drop_succ_cons, List.drop_zero]
        iterate 11 still_step
        still_call hp
        refine wpStill_nil ?_
        gi_wp2
        refine ⟨(KeepsOthers.drew _).trans (KeepsOthers.setCell _ _ _), (Keep2.refl _ _ _).drew.set _ _, ?_, hk2.drew.set _ _, hbw'.drew.setCell (p := ⟨w.heap.size + 1, k, none⟩) (by show w.heap.size ≤ w.heap.size + 1; omega) _⟩
        refine (hrow.drew.set k _).congr fun j _ => ?_
        by_cases h1 : j = k
        · subst h1; simp [hvs.out, hsn.out]
        · simp [h1]
      case done =>
        rintro D xs W' hD hxs ⟨hrow, hk2, hbw'⟩ hK
        have v7 := (hk2.cell (p := ⟨w.heap.size + 1 + 1, 0, none⟩) (by show w.heap.size + 1 + 1 ≠ _; omega) (by show w.heap.size + 1 + 1 < _; omega)).trans e7
        have v8 := (hk2.cell (p := ⟨W.heap.size, 0, none⟩) (by show W.heap.size ≠ _; omega) (by show W.heap.size < _; omega)).trans b8
        have r1 := hrow.cell hlt
        rw [if_neg (Nat.lt_irrefl k), if_pos rfl] at r1
        have f1 := hrow.frozen k
        have k1 : (k : Int) < (id : Int) + 1 := by omega
        have hge := Lib.hid (gth_eq (op := op) hch hid')
        rw [← hxs] at hge
        obtain ⟨q1, q2⟩ := foldG_range ho (gth_range ho N) (vals xs)
        generalize hG : foldG op (gth op N) (vals xs) = G at *
        have hvl := vals_len xs
        have hG2 : G ≤ 3 * 1073741824 := by
          have h3 := argsTo_len N k 3
          rw [show argsTo N k 3 = argsN N k from rfl, ← hxs] at h3
          have : ((vals xs).length : Int) ≤ 3 := by omega
          have := Int.mul_le_mul_of_nonneg_right this (show (0 : Int) ≤ 1073741824 by decide)
          omega
        have hGw : IntKind.i64.wrap (G + 1) = G + 1 := by rw [IntKind.wrap_i64]; omega
        gi_wp2
        by_cases hc : G + 1 ≤ 1073741824
        · refine wpIn_region_tail 9 WideF.wide (by kernel_rfl) (by kernel_rfl) ?_
          simp only [List.take_succ_cons, List.take_zero, List.drop_succ_cons, List.drop_zero]
          repeat still_step
          refine wpStill_nil ?_
          gi_wp2
          have keep : Keep2 (w.heap.size + 1) E.heap.size E (W'.setCell ⟨w.heap.size + 1, k, none⟩ (.int .i64 (G + 1))).drew := (hk2.set k _).drew
          have hval : gth op N k = G + 1 := by rw [hge.out]; unfold cap30; omega
          refine ⟨⟨k + 1, _, _, _, _, _, _, _, _, _, _, _, _, _, _, _, _, _, _, _, _, _, _, _, _, _, _, _, _, _, _, _, D :: Ds, ⟨⟨rfl, rfl, by omega, rfl, rfl, rfl, rfl, rfl, rfl, rfl, rfl, rfl, rfl, rfl, rfl, rfl, rfl, rfl, rfl, rfl, rfl, rfl, rfl, rfl, rfl, rfl, rfl, rfl, rfl, rfl, rfl, rfl⟩, rfl⟩, by omega, ?_⟩, by simp [intOf]; omega⟩
          refine ⟨((hrow.set k _).drew).congr fun j _ => ?_, (keep.cell (p := ⟨w.heap.size, 0, none⟩) (by show w.heap.size ≠ _; omega) (by show w.heap.size < _; omega)).trans e5, (keep.cell (p := ⟨w.heap.size + 1 + 1, 0, none⟩) (by show w.heap.size + 1 + 1 ≠ _; omega) (by show w.heap.size + 1 + 1 < _; omega)).trans e7,
            (hbw'.setCell (p := ⟨w.heap.size + 1, k, none⟩) (by show w.heap.size ≤ w.heap.size + 1; omega) _).drew, ?_, by have := keep.size; omega⟩
          · by_cases h1 : j = k
            · subst h1; simp [hval]
            · by_cases h2 : j < k
              · simp [h1, h2, show j < k + 1 by omega]
              · simp [h1, h2, show ¬ j < k + 1 by omega]
          · refine (hmE.keep fun D' hD' => keep.block D' (by have := (hmE.at_ D' hD').1; omega) (hmE.lt hD')).cons (by omega) ?_ (fun h => by have := hmE.lt h; omega)
            exact (Below.heap_setCell W' ⟨w.heap.size + 1, k, none⟩ (.int .i64 (G + 1)) D (by show D ≠ w.heap.size + 1; omega)).trans hK
        · refine wpIn_region_tail 9 WideF.wide (by kernel_rfl) (by kernel_rfl) ?_
          simp only [List.take_succ_cons, List.take_zero, List.drop_succ_cons, List.drop_zero]
          repeat still_step
          refine wpStill_nil ?_
          gi_wp2
          have keep : Keep2 (w.heap.size + 1) E.heap.size E (W'.setCell ⟨w.heap.size + 1, k, none⟩ (.int .i64 (1073741824))).drew := (hk2.set k _).drew
          have hval : gth op N k = 1073741824 := by rw [hge.out]; unfold cap30; omega
          refine ⟨⟨k + 1, _, _, _, _, _, _, _, _, _, _, _, _, _, _, _, _, _, _, _, _, _, _, _, _, _, _, _, _, _, _, _, D :: Ds, ⟨⟨rfl, rfl, by omega, rfl, rfl, rfl, rfl, rfl, rfl, rfl, rfl, rfl, rfl, rfl, rfl, rfl, rfl, rfl, rfl, rfl, rfl, rfl, rfl, rfl, rfl, rfl, rfl, rfl, rfl, rfl, rfl, rfl⟩, rfl⟩, by omega, ?_⟩, by simp [intOf]; omega⟩
          refine ⟨((hrow.set k _).drew).congr fun j _ => ?_, (keep.cell (p := ⟨w.heap.size, 0, none⟩) (by show w.heap.size ≠ _; omega) (by show w.heap.size < _; omega)).trans e5, (keep.cell (p := ⟨w.heap.size + 1 + 1, 0, none⟩) (by show w.heap.size + 1 + 1 ≠ _; omega) (by show w.heap.size + 1 + 1 < _; omega)).trans e7,
            (hbw'.setCell (p := ⟨w.heap.size + 1, k, none⟩) (by show w.heap.size ≤ w.heap.size + 1; omega) _).drew, ?_, by have := keep.size; omega⟩
          · by_cases h1 : j = k
            · subst h1; simp [hval]
            · by_cases h2 : j < k
              · simp [h1, h2, show j < k + 1 by omega]
              · simp [h1, h2, show ¬ j < k + 1 by omega]
          · refine (hmE.keep fun D' hD' => keep.block D' (by have := (hmE.at_ D' hD').1; omega) (hmE.lt hD')).cons (by omega) ?_ (fun h => by have := hmE.lt h; omega)
            exact (Below.heap_setCell W' ⟨w.heap.size + 1, k, none⟩ (.int .i64 (1073741824)) D (by show D ≠ w.heap.size + 1; omega)).trans hK
      case stop =>
        rintro D c pre W _ _ h _
        exact h.elim
    · obtain rfl : k = id + 1 := by omega
      have hc7 := hJ.c7
      have r1 := hJ.row.cell (i := id) (by omega)
      rw [if_pos (Nat.lt_succ_self id)] at r1
      have i2 : decide (((id + 1 : Nat) : Int) < (id : Int) + 1) = false := decide_eq_false (by omega)
      have hz := hJ.sz
      gi_wp2
      refine leaves_marks Ds W (by omega) hJ.marks fun w' hw' => ?_
      exact ⟨_, results_tmp rfl _ _ _, rfl, hJ.bel.trans (hw'.mono (by omega))⟩
end Go.Proofs.Ytoppfcfalciibaa
