/- term.Reach. -/
import Derived.Test.YtoppfcfalciibaaGathA
import Derived.Test.YtoppfcfalciibaaReachL
namespace Go.Proofs.Ytoppfcfalciibaa
open Go.RowKit Go.Shelf
set_option maxRecDepth 100000
attribute [local go_sem] Oper.semAt_some

theorem info_i8 : (Try.prog.info? 25).map (fun i => (i.zero, i.size, i.bytes)) = some (some (.int .i8 0), 1, 1) := by kernel_rfl
theorem Bx.aside {w x : World} {K : List (Nat × Nat × Value)} (h : Bx w K x) {b o : Nat} (u : Value) (hne : ∀ a ∈ K, a.1 ≠ b) (hw : w.heap.size ≤ b) : Bx w K (x.setCell ⟨b, o, none⟩ u) := ⟨h.cells.set hne, h.bel.setCell hw _⟩

structure RJ (w : World) (N : Nat → Nd) (n b o c : Nat) (S : Nat → Bool) (k : Nat) (Ds : List Nat) (W : World) : Prop where
  row : W.rowIs (w.heap.size + 1) 25 n (fun j => .int .i8 (b2i (mkB N n S k j)))
  ct : W.cell? ⟨w.heap.size, 0, none⟩ = some (.slice (some ⟨b, o, none⟩) n c)
  c5 : W.cell? ⟨w.heap.size + 1 + 1, 0, none⟩ = some (.slice (some ⟨w.heap.size + 1, 0, none⟩) n n)
  bel : Below w.heap.size w W
  marks : Marks (w.heap.size + 3) W Ds
  sz : w.heap.size + 3 ≤ W.heap.size

theorem OwnL.base {w : World} {B B' : Nat} {v : Value} {xs : List Int} (h : OwnL w B v xs) (hB : B' ≤ B) : OwnL w B' v xs := by
  refine ⟨h.1, ?_⟩
  rcases h.2 with h | ⟨g, cap, cur, h1, h2, h3⟩
  · exact .inl h
  · exact .inr ⟨g, cap, cur, h1, Nat.le_trans hB h2, h3⟩
theorem leaves_marksP {F : Fence} {n : Nat} {P : Program} {fn : Func} {tmps : Array Value} {R : Ending → World → Prop} {B : Nat} (Pr : World → Prop) (hPr : ∀ w D, Pr w → w.heap[D]? = some (.deferred (some [])) → Pr (w.putObj D (.deferred none))) :
    ∀ (Ds : List Nat) (w : World), B ≤ w.heap.size → Marks B w Ds → Pr w → (∀ w', Below B w w' → Pr w' → LeavesIn F n P fn tmps R [] .returning w') → LeavesInM F n P fn tmps R (Ds.map markD) .returning w
  | [], w, _, _, hp, h => h w (Below.refl B w) hp
  | D :: Ds, w, hB, hm, hp, h => by
    have hb : Below B w (w.putObj D (.deferred none)) := (Below.refl B w).grown (grownBy_putObj' w D _) hB (fun k e => by cases e; exact (hm.at_ D (by simp)).1)
    refine ⟨by simp, .inl ⟨D, w.putObj D (.deferred none), rfl, run_takeDeferred (hm.at_ D (by simp)).2, ?_⟩⟩
    refine leaves_marksP Pr hPr Ds _ (Nat.le_trans hB hb.size) ⟨(List.nodup_cons.1 hm.nd).2, fun D' hD' => ⟨(hm.at_ D' (by simp [hD'])).1, ?_⟩⟩ (hPr w D hp (hm.at_ D (by simp)).2) fun w' hw' => h w' (hb.trans hw')
    have hne : D' ≠ D := fun e => (List.nodup_cons.1 hm.nd).1 (e ▸ hD')
    have hlt := hm.lt (D := D') (by simp [hD'])
    have hg := grownBy_putObj' w D (.deferred none)
    rw [hg.block D' hlt (by simpa using hne)]
    exact (hm.at_ D' (by simp [hD'])).2

set_option maxHeartbeats 4000000 in
theorem Reach_any (v rv : Value) (n r : Nat) (N : Nat → Nd) (R : Nat → Int) (w : World) (hv : NdsAt w v n N) (hn : n ≤ 1000000) (hch : CheckP n N) (hr : IntsAt w rv r R) (hr2 : r ≤ 1000000) :
    Calls Try.prog 22 #[.agg #[v], rv] w fun e w' => ∃ u, e = .returned u ∧ OwnL w' w.heap.size u (outL (mkB N n (rootB R r) n) n) ∧ Below w.heap.size w w' := by
  obtain ⟨A, c, rfl, _, _, hcs⟩ := hv
  obtain ⟨b, o, rfl, hbl, hcs⟩ := hcs (by have := hch.two; omega)
  have hcs' := Lib.hid hcs
  obtain ⟨A', c', rfl, _, hR64, hri⟩ := hr
  have hri' := Lib.hid hri
  have hR' := Lib.hid hR64
  have hch' := Lib.hid hch
  clear hcs hri hR64 hch
  refine (callsIn_wide (n := 5)).1 ?_
  refine callsIn_of_wp_marks Try.func22 rfl trivial ?_ rfl
  simp only [Try.ntmps22, List.size_toArray, List.length_cons, List.length_nil, Nat.reduceAdd, Nat.reduceSub, Array.replicate_succ, Array.replicate_zero, List.push_toArray, List.append_toArray, List.nil_append, List.cons_append]
  refine wpIn_wide.2 ?_
  have hmk := run_make_row' (P := Try.prog) 88 25 (.int .i8 0) 1 Try.underlying88 info_i8 rfl .i64 .i64 n (by omega) (by omega)
  have hB := (((Bx.nil w).one (.slice (some ⟨b, o, none⟩) n c) 24).skip (.cells (madeCells #[.int .i8 0] n) 25)).one (.slice (some ⟨w.heap.size + 1, 0, none⟩) n n) 88
  simp only [World.size_alloc] at hB
  have hB' := Lib.hid hB
  clear hB
  go_wp2
  clear hmk
  go_loopw [18] (fun i wr => ∃ k : Nat, k ≤ r ∧ i = .int .i64 k ∧ wr.rowIs (w.heap.size + 1) 25 n (fun j => .int .i8 (b2i (rootB R k j))) ∧ Bx w ((w.heap.size + 1 + 1, 0, .slice (some ⟨w.heap.size + 1, 0, none⟩) n n) :: (w.heap.size, 0, .slice (some ⟨b, o, none⟩) n c) :: []) wr ∧ w.heap.size + 3 ≤ wr.heap.size) (fun i _ => r - (intOf i).toNat)
  case atStart =>
    refine ⟨0, Nat.zero_le _, rfl, ?_, hB'.out, by simp⟩
    have h := (World.rowIs_made (w.alloc (.cells #[.slice (some ⟨b, o, none⟩) n c] 24)) (.int .i8 0) n 25).alloc (.cells #[.slice (some ⟨w.heap.size + 1, 0, none⟩) n n] 88)
    rw [World.size_alloc] at h
    exact h.congr fun i _ => rfl
  case round =>
    obtain ⟨k, hk, rfl, hrow, hx, hsz⟩ := hrel
    obtain ⟨⟨q5, _⟩, ⟨q0, _⟩, -⟩ := hx.cells
    by_cases hlt : k < r
    · obtain ⟨rb, ro, rfl, hrb, hrc⟩ := hri'.out (by omega)
      have rk := (hx.bel.cell (p := ⟨rb, ro + k, none⟩) hrb).trans (hrc k hlt)
      have hrk := hR'.out k hlt
      obtain ⟨z0, z1⟩ := hrk
      clear hrc
      have i2 : decide ((k : Int) < (r : Int)) = true := decide_eq_true (by omega)
      by_cases hin : 0 ≤ R k ∧ R k < n
      · obtain ⟨j0, j1⟩ := hin
        have f1 := hrow.frozen (R k).toNat
        have r1 := hrow.cell (i := (R k).toNat) (by omega)
        have j2 : (R k).toNat < n := by omega
        have d1 : decide (0 ≤ R k) = true := decide_eq_true j0
        have d2 : decide (R k < (n : Int)) = true := decide_eq_true j1
        go_wp2
        go_roundw
        case rel =>
          refine ⟨k + 1, by omega, by go_num, ?_, hx.aside _ (by simp) (by omega), by simpa using hsz⟩
          refine (hrow.set (R k).toNat _).congr fun j _ => ?_
          rw [rootB_succ]
          by_cases e : j = (R k).toNat
          · have e' : R k = (j : Int) := by omega
            rw [if_pos e, e']; simp [b2i]
          · have e' : (R k == (j : Int)) = false := by simp; omega
            rw [if_neg e, e', Bool.or_false]
        case measure => simp [intOf]; omega
      · have hF : Hid (wr.rowIs (w.heap.size + 1) 25 n (fun j => .int .i8 (b2i (rootB R (k + 1) j)))) := by
          refine hrow.congr fun j hj => ?_
          have e' : (R k == (j : Int)) = false := by simp; omega
          rw [rootB_succ, e', Bool.or_false]
        by_cases j0 : 0 ≤ R k
        · have d1 : decide (0 ≤ R k) = true := decide_eq_true j0
          have d2 : decide (R k < (n : Int)) = false := decide_eq_false (by omega)
          go_wp2
          go_roundw
          case rel => exact ⟨k + 1, by omega, by go_num, hF.out, hx, hsz⟩
          case measure => simp [intOf]; omega
        · have d1 : decide (0 ≤ R k) = false := decide_eq_false j0
          go_wp2
          go_roundw
          case rel => exact ⟨k + 1, by omega, by go_num, hF.out, hx, hsz⟩
          case measure => simp [intOf]; omega
    · obtain rfl : k = r := by omega
      have i2 : decide ((k : Int) < (k : Int)) = false := decide_eq_false (by omega)
      go_wp2
      have hJ0 : RJ w N n b o c (rootB R k) 0 [] wr := ⟨hrow, q0, q5, hx.bel, Marks.nil _ _, hsz⟩
      generalize hS : rootB R k = S at *
      have hSe := Lib.hid hS
      clear hrow hx hB' hri' hR' q5 q0 hS i2
      refine (wpIn_wide (n := 5)).1 ?_
      refine wpIn_loop (fun a W => ∃ (q : Nat) (v8 v9 v37 v38 v39 v40 v41 v42 v43 v44 v45 v46 v47 v48 v49 v50 v51 v52 v53 v54 v55 v56 v57 : Value) (Ds : List Nat), a = { tmps := #[.agg #[.slice (some ⟨b, o, none⟩) n c], (.slice A' k c'), .pointer (some ⟨w.heap.size, 0, none⟩), undef, .slice none 0 0, .pointer (some ⟨(w.heap.size + 1 + 1), 0, none⟩), undef, u7, v8, v9, undef, undef, .pointer (some ⟨w.heap.size, 0, none⟩), .slice (some ⟨b, o, none⟩) n c, .int .i64 n, .slice (some ⟨w.heap.size + 1, 0, none⟩) n n, (.slice A' k c'), .int .i64 k, .int .i64 k, .bool false, u20, u21, u22, u23, u24, u25, u26, u27, u28, u29, u30, u31, u32, u33, .slice (some ⟨w.heap.size + 1, 0, none⟩) n n, .int .i64 n, .int .i64 (q : Int), v37, v38, v39, v40, v41, v42, v43, v44, v45, v46, v47, v48, v49, v50, v51, v52, v53, v54, v55, v56, v57, undef, undef, undef, undef, undef, undef, undef, undef, undef, undef, undef, undef, undef, undef, undef], defers := Ds.map markD } ∧ q ≤ n ∧ RJ w N n b o c S q Ds W) (fun a _ => n - (intOf (a.tmps.getD 36 undef)).toNat) ?start ?round2
      case start => exact ⟨0, _, _, _, _, _, _, _, _, _, _, _, _, _, _, _, _, _, _, _, _, _, _, _, [], rfl, Nat.zero_le _, hJ0⟩
      case round2 =>
        clear hJ0 hsz
        rintro _ W ⟨q, v8, v9, v37, v38, v39, v40, v41, v42, v43, v44, v45, v46, v47, v48, v49, v50, v51, v52, v53, v54, v55, v56, v57, Ds, rfl, hq, hJ⟩
        have hct := hJ.ct
        have hc5 := hJ.c5
        have hl5 : w.heap.size + 1 + 1 < W.heap.size := by have := hJ.sz; omega
        have hl0 : w.heap.size < W.heap.size := by omega
        by_cases hlt : q < n
        · obtain ⟨id, hid⟩ : ∃ id : Nat, id + q + 1 = n := ⟨n - 1 - q, by omega⟩
          have hidz : (n : Int) - 1 - (q : Int) = (id : Int) := by omega
          have i2 : decide ((q : Int) < (n : Int)) = true := decide_eq_true (by omega)
          gi_wp2_with (refine ⟨trivial, ?_⟩; gi_at_call 53; refine (callsIn_wide.2 (args_w _ _ _)).mono ?_; rintro e w' ⟨rfl, rfl⟩)
          have hz := hJ.sz
          obtain ⟨E, hE⟩ : ∃ E, ((W.alloc (.cells #[.int .i64 (id : Int)] 3)).alloc (.cells #[.pointer (some ⟨w.heap.size, 0, none⟩)] 86)).alloc (.cells #[.int .i64 (id : Int)] 3) = E := ⟨_, rfl⟩
          have hbE : Below W.heap.size W E := by
            rw [← hE]; exact (((Below.refl _ W).alloc (Nat.le_refl _) _).alloc (by simp) _).alloc (by simp; omega) _
          have hsE : E.heap.size = W.heap.size + 3 := by rw [← hE]; simp
          have hB := (((Bx.nil W).one (.int .i64 (id : Int)) 3).one (.pointer (some ⟨w.heap.size, 0, none⟩)) 86).one (.int .i64 (id : Int)) 3
          simp only [World.size_alloc] at hB
          rw [hE] at hB
          have b8 := hB.cells.2.2.1.1
          have b1 := hB.cells.2.1.1
          have b2 := hB.cells.1.1
          clear hB
          rw [hE]
          clear hE
          have e5 := (hbE.cell (p := ⟨w.heap.size + 1 + 1, 0, none⟩) (by show w.heap.size + 1 + 1 < _; omega)).trans hc5
          have et := (hbE.cell (p := ⟨w.heap.size, 0, none⟩) (by show w.heap.size < _; omega)).trans hct
          have hbw := hJ.bel.trans (hbE.mono hJ.bel.size)
          have hrE := hJ.row.of_block (hbE.block (w.heap.size + 1) (by omega))
          have hmE : Marks (w.heap.size + 3) E Ds := hJ.marks.keep fun D hD => hbE.block D (hJ.marks.lt hD)
          have hidn : id < n := by omega
          refine wpIn_rangeFunc_ownF (n := 5) rfl (by decide) (gf := 81) (lb := #[.pointer (some ⟨W.heap.size + 1, 0, none⟩), .pointer (some ⟨W.heap.size + 1 + 1, 0, none⟩)]) rfl trivial (enters_of Try.func81 (by kernel_rfl) rfl)
            (args_stops 4 (by decide) (w.heap.size + 1) (W.heap.size + 1) (W.heap.size + 1 + 1) w.heap.size E.heap.size n c id b o N E b1 b2 et ((hcs'.out id hidn).keep fun j => hbw.cell (p := ⟨b, j, none⟩) hbl) hidn hch'.out (by omega) (by omega) (by omega) (by omega) (by omega) (by omega) (by omega) (by omega) (Nat.le_refl _))
            Keep2.trans (fun W' l o o' h1 h2 h3 h4 => Keep2.b (Nat.le_refl _) W' l o o' h1 h2 h3 h4) (Below.refl _ _) (fun _ => rfl)
            (fun pre W' => W'.rowIs (w.heap.size + 1) 25 n (fun j => .int .i8 (b2i (mkB N n S q j || (mkB N n S q id && (vals pre).contains (j : Int))))) ∧ Keep2 (w.heap.size + 1) E.heap.size E W' ∧ Below w.heap.size w W')
            (fun _ _ _ => False)
            (ownFrom_of_below (fun s A B hs hAB => ⟨hs.1.of_block (hAB.block _ (by omega)), hs.2.1.trans (.of_below hAB (Nat.le_refl _)), hs.2.2.trans (hAB.mono (by omega))⟩) (fun s A hs => hs.2.1.size))
            (fun _ _ _ _ _ hs _ _ => hs)
            ⟨hrE.congr fun i _ => (by simp [vals]), Keep2.refl _ _ _, hbw⟩
            (fun x => { tmps := #[.agg #[.slice (some ⟨b, o, none⟩) n c], (.slice A' k c'), .pointer (some ⟨w.heap.size, 0, none⟩), undef, .slice none 0 0, .pointer (some ⟨(w.heap.size + 1 + 1), 0, none⟩), undef, u7, .pointer (some ⟨W.heap.size, 0, none⟩), .int .i64 x.1, undef, undef, .pointer (some ⟨w.heap.size, 0, none⟩), .slice (some ⟨b, o, none⟩) n c, .int .i64 n, .slice (some ⟨w.heap.size + 1, 0, none⟩) n n, (.slice A' k c'), .int .i64 k, .int .i64 k, .bool false, u20, u21, u22, u23, u24, u25, u26, u27, u28, u29, u30, u31, u32, u33, .slice (some ⟨w.heap.size + 1, 0, none⟩) n n, .int .i64 n, .int .i64 (q : Int), .bool true, .int .i64 q, .slice (some ⟨w.heap.size + 1, 0, none⟩) n n, .int .i64 n, .int .i64 ((n : Int) - 1), .int .i64 q, .int .i64 id, .int .i64 id, .func (.func 81) #[] #[.pointer (some ⟨W.heap.size + 1, 0, none⟩), .pointer (some ⟨W.heap.size + 1 + 1, 0, none⟩)], .int .i64 x.1, v47, v48, v49, v50, v51, v52, v53, v54, v55, v56, v57, undef, undef, undef, undef, undef, undef, undef, undef, undef, undef, undef, undef, undef, undef, undef], defers := [] }) ?assign ?body ?done ?stop
          case assign =>
            intro l x W' K hK
            dsimp only [encA]
            gi_wp2
            exact hK
          case body =>
            rintro l pre ⟨x, hx0, hx1⟩ W' ⟨hrow, hk2, hbw'⟩ hlen
            have v5 := (hk2.cell (p := ⟨w.heap.size + 1 + 1, 0, none⟩) (by show w.heap.size + 1 + 1 ≠ _; omega) (by show w.heap.size + 1 + 1 < _; omega)).trans e5
            have v8 := (hk2.cell (p := ⟨W.heap.size, 0, none⟩) (by show W.heap.size ≠ _; omega) (by show W.heap.size < _; omega)).trans b8
            have r1 := hrow.cell hidn
            have r2 := hrow.cell (i := x.toNat) (by omega)
            have f2 := hrow.frozen x.toNat
            have x1 : x < (n : Int) := by omega
            have x2 : x.toNat < n := by omega
            have x3 : (id : Int) < (n : Int) := by omega
            have hvs := Lib.hid (vals_snoc pre ⟨x, hx0, hx1⟩)
            have hfin : ∀ y : Int, y = b2i ((mkB N n S q x.toNat || (mkB N n S q id && (vals pre).contains (x.toNat : Int))) || (mkB N n S q id || (mkB N n S q id && (vals pre).contains (id : Int)))) → (W'.drew.setCell ⟨w.heap.size + 1, x.toNat, none⟩ (.int .i8 y)).rowIs (w.heap.size + 1) 25 n (fun j => .int .i8 (b2i (mkB N n S q j || (mkB N n S q id && (vals (pre ++ [⟨x, hx0, hx1⟩])).contains (j : Int))))) := by
              rintro y rfl
              refine (hrow.drew.set x.toNat _).congr fun j _ => ?_
              rw [hvs.out, List.contains_append]
              by_cases h1 : j = x.toNat
              · subst h1
                rw [if_pos rfl]
                congr 2
                rw [show ((x.toNat : Nat) : Int) = x by omega]
                cases mkB N n S q x.toNat <;> cases mkB N n S q id <;> simp
              · rw [if_neg h1]
                have : ([x].contains (j : Int)) = false := by simp; omega
                rw [this, Bool.or_false]
            have hfin' := Lib.hid hfin
            clear hfin
            generalize hAA : (mkB N n S q x.toNat || (mkB N n S q id && (vals pre).contains (x.toNat : Int))) = AA at r2 hfin'
            generalize hBB : (mkB N n S q id || (mkB N n S q id && (vals pre).contains (id : Int))) = BB at r1 hfin'
            clear hAA hBB hrow
            gi_wp2
            cases AA <;> cases BB
            all_goals
              simp only [b2i, if_true, Bool.false_eq_true, if_false] at r1 r2
              refine wpIn_region_tail 10 WideF.round (by kernel_rfl) (by kernel_rfl) ?_
              simp only [List.take_succ_cons, List.take_zero, List.drop_succ_cons, List.drop_zero]
              repeat still_step
              refine wpStill_nil ?_
              gi_wp2
              exact ⟨(KeepsOthers.drew _).trans (KeepsOthers.setCell _ _ _), (Keep2.refl _ _ _).drew.set _ _, hfin'.out _ (by rfl), hk2.drew.set _ _, hbw'.drew.setCell (p := ⟨w.heap.size + 1, x.toNat, none⟩) (by show w.heap.size ≤ w.heap.size + 1; omega) _⟩
          case done =>
            rintro D xs W' hD hxs ⟨hrow, hk2, hbw'⟩ hK
            have hmS : Hid (W'.rowIs (w.heap.size + 1) 25 n (fun j => .int .i8 (b2i (mkB N n S (q + 1) j)))) := by
              refine hrow.congr fun j _ => ?_
              rw [hxs]
              show _ = Value.int .i8 (b2i (mkB N n S q j || (mkB N n S q (n - 1 - q) && (argsN N (n - 1 - q)).contains (j : Int))))
              rw [show n - 1 - q = id by omega]
            clear hrow hxs
            gi_wp2
            refine ⟨⟨q + 1, _, _, _, _, _, _, _, _, _, _, _, _, _, _, _, _, _, _, _, _, _, _, _, D :: Ds, rfl, by omega, ?_⟩, by simp [intOf]; omega⟩
            refine ⟨hmS.out, (hk2.cell (p := ⟨w.heap.size, 0, none⟩) (by show w.heap.size ≠ _; omega) (by show w.heap.size < _; omega)).trans et, (hk2.cell (p := ⟨w.heap.size + 1 + 1, 0, none⟩) (by show w.heap.size + 1 + 1 ≠ _; omega) (by show w.heap.size + 1 + 1 < _; omega)).trans e5, hbw',
              (hmE.keep fun D' hD' => hk2.block D' (by have := (hmE.at_ D' hD').1; omega) (hmE.lt hD')).cons (by omega) hK (fun h => by have := hmE.lt h; omega), by have := hk2.size; omega⟩
          case stop =>
            rintro D c pre W _ _ h _
            exact h.elim
        · have hqn : q = n := by omega
          have i2 : decide ((q : Int) < (n : Int)) = false := decide_eq_false (by omega)
          have hq' : (q : Int) = (n : Int) := by omega
          gi_wp2
          go_wp2
          rw [hqn] at hJ
          generalize hM : mkB N n S n = M
          have hrow := Lib.hid hJ.row
          rw [hM] at hrow
          have hMe := Lib.hid hM
          have hmk := hJ.marks
          have hbJ := hJ.bel
          have hsJ := hJ.sz
          clear hM hJ hct hc5
          go_loopw [4, 60] (fun z i wr => ∃ j : Nat, j ≤ n ∧ i = .int .i64 j ∧ Hid (OwnL wr W.heap.size z (outL M j)) ∧ Hid (Below W.heap.size W wr)) (fun _ i _ => n - (intOf i).toNat)
          case atStart => exact ⟨0, Nat.zero_le _, rfl, OwnL.nil _ _, Below.refl _ _⟩
          case round =>
            obtain ⟨j, hj, rfl, hown, hbx⟩ := hrel
            have hzz := hbx.out.size
            by_cases hltj : j < n
            · have rj := (hbx.out.cell (p := ⟨w.heap.size + 1, j, none⟩) (by show w.heap.size + 1 < _; omega)).trans (hrow.out.cell hltj)
              have hlen := outL_len M j
              have i3 : decide ((j : Int) < (n : Int)) = true := decide_eq_true (by omega)
              cases hMj : M j with
              | true =>
                have hF : Hid (outL M (j + 1) = outL M j ++ [(j : Int)]) := if_pos hMj
                rw [hMj] at rj
                simp only [b2i, if_true] at rj
                clear hMj
                go_wp2_with (at_builtin; refine wpList_app1 rfl rfl _ _ rfl W.heap.size _ _ (j : Int) rfl (hown.out.alloc _) wr.heap.size 1 rfl ?c1 ?c2 ?c3 ?_)
                case c1 => simp
                case c2 => omega
                case c3 => simp; omega
                intro v' w4 hown4 hb4 hgr
                go_wp2
                go_roundw
                case rel =>
                  refine ⟨j + 1, by omega, by go_num, by rw [hF.out]; exact hown4, (hbx.out.alloc hzz _).trans hb4⟩
                case measure => simp [intOf]; omega
              | false =>
                have hF : Hid (outL M (j + 1) = outL M j) := if_neg (by rw [hMj]; simp)
                rw [hMj] at rj
                simp only [b2i, Bool.false_eq_true, if_false] at rj
                clear hMj
                go_wp2
                go_roundw
                case rel => exact ⟨j + 1, by omega, by go_num, by rw [hF.out]; exact hown.out, hbx.out⟩
                case measure => simp [intOf]; omega
            · obtain hjn : j = n := by omega
              have i3 : decide ((j : Int) < (n : Int)) = false := decide_eq_false (by omega)
              rw [hjn] at hown
              go_wp2
              refine leaves_marksP (fun x => OwnL x W.heap.size u4 (outL M n)) (fun x D h hD => ownsRow_putObj h _ hD rfl) Ds wr (by omega) (hmk.keep fun D hD => hbx.out.block D (hmk.lt hD)) hown.out fun w' hw' hown' => ?_
              have hres := hown'.base (B' := w.heap.size) (by omega)
              rw [← hMe.out, ← hSe.out] at hres
              exact ⟨_, results_tmp rfl _ _ _, u4, rfl, hres, (hbJ.trans (hbx.out.mono hbJ.size)).trans (hw'.mono (by omega))⟩
end Go.Proofs.Ytoppfcfalciibaa
