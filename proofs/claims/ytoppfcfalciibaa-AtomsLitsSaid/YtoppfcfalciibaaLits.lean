/- The law AtomsLits: the walk. -/
import Derived.Test.YtoppfcfalciibaaLitsL
import Derived.Test.YtoppfcfalciibaaJoined
namespace Go.Proofs.Ytoppfcfalciibaa
open Go.RowKit Go.Maps
set_option maxRecDepth 100000

theorem row_below {w w' : World} {b B : Nat} {t : TypeId} {n : Nat} {f : Nat → Value} (h : w.rowIs b t n f) (hb : Below B w w') (hB : b < B) : w'.rowIs b t n f := h.of_block (hb.block b hB)
theorem ints1 (w : World) (x : Int) (hx : R64 x) : IntsAt (w.alloc (.cells #[.int .i64 x] 3)) (.slice (some ⟨w.heap.size, 0, none⟩) 1 1) 1 (fun _ => x) := by
  refine ⟨_, _, rfl, by omega, fun i hi => hx, fun _ => ⟨w.heap.size, 0, rfl, by simp, fun i hi => ?_⟩⟩
  have : i = 0 := by omega
  subst this
  simp
theorem Bx.far {w x : World} {K : List (Nat × Nat × Value)} (h : Bx w K x) {b o : Nat} (u : Value) (hne : ∀ a ∈ K, a.1 ≠ b) (hw : w.heap.size ≤ b) : Bx w K (x.setCell ⟨b, o, none⟩ u) := ⟨h.cells.set hne, h.bel.setCell hw _⟩

set_option maxHeartbeats 8000000 in
theorem Lits_main (v a : Value) (n m : Nat) (N : Nat → Nd) (f : Nat → Int) (w : World) (hv : NdsAt w v n N) (ha : IntsAt w a m f) (hn : n ≤ 300) (hm : m ≤ 300) (hch : CheckP n N) :
    Calls Try.prog 11 #[.agg #[v], a] w fun x w' => x = .returned (.bool true) ∧ Below w.heap.size w w' := by
  have hv' := Lib.hid hv
  have ha' := Lib.hid ha
  have hE := fun x (h : Below w.heap.size w x) => Euf_any v a n m N f x (hv.below h) (by omega) (ha.below h) (by omega)
  have hI := fun x (h : Below w.heap.size w x) => Idl_any v a n m N f x (hv.below h) (by omega) (ha.below h) (by omega)
  obtain ⟨A, c, rfl, hc, _, hcs⟩ := hv
  obtain ⟨hc0, hc1⟩ := hc
  obtain ⟨b, o, rfl, hbl, hcs⟩ := hcs (by have := hch.two; omega)
  have hcs' := Lib.hid hcs
  obtain ⟨U, cu, rfl, _, hRu, hcu⟩ := ha
  have hcu' := Lib.hid hcu
  have hR1 := Lib.hid (L_R hRu)
  have hRu' := Lib.hid hRu
  have he1 := Lib.hid (eufL_sub n m N f)
  have hi1 := Lib.hid (idlL_sub n m N f)
  have hy := Lib.hid (check_yes hch)
  have hch' := Lib.hid hch
  have hx0 := (Bx.nil w).one (.slice (some ⟨b, o, none⟩) n c) 24
  have hd : Hid (decide (300 < n) = false) := by unfold Hid; simp; omega
  have d0 : decide ((300 : Int) < (m : Int)) = false := by simp; omega
  have hmk := run_make_row' (P := Try.prog) 41 3 (.int .i64 0) 8 Try.underlying41 info_int rfl .i64 .i64 n (by omega) (by omega)
  clear hcs hch hRu hcu
  go_enter Try.func11, Try.ntmps11
  go_wp2_with fail
  refine (Great5_any _ n N _ (hv'.out.below hx0.bel)).mono ?_
  rintro x w2 ⟨rfl, hb2⟩
  rw [hd.out]
  have hx2 := hx0.step hb2
  obtain ⟨⟨q0, z0⟩, -⟩ := hx2.cells
  go_wp2_with fail
  refine (RCheck_any _ n N w2 (hv'.out.below hx2.bel) (by omega)).mono ?_
  rintro x w3 ⟨rfl, hb3⟩
  rw [hy.out]
  have hx3 := hx2.step hb3
  clear q0 z0 hb2 hb3 hx2 hx0
  obtain ⟨⟨q0, z0⟩, -⟩ := hx3.cells
  have hx4 := hx3.skip (.cells (madeCells #[.int .i64 0] n) 3)
  have hrow := Lib.hid (World.rowIs_made w3 (.int .i64 0) n 3)
  have hw3 := hx3.bel.size
  go_wp2_with fail
  clear hmk q0
  have hs4 : (w3.alloc (.cells (madeCells #[.int .i64 0] n) 3)).heap.size = w3.heap.size + 1 := by simp
  generalize w3.alloc (.cells (madeCells #[.int .i64 0] n) 3) = w4 at *
  generalize w3.heap.size = G at *
  refine (Bools_any _ n N w4 (hv'.out.below hx4.bel) (by omega) hch'.out).mono ?_
  rintro x w5 ⟨v5, rfl, ho5, hb5⟩
  have hx5 := hx4.step hb5
  have hrow5 := Lib.hid (row_below hrow.out hb5 (by omega))
  have hxl := bools_len N n
  have hxm := Lib.hid (fun x => bools_mem N x n)
  have hsn := Lib.hid (fun (i : Nat) (h1 : i < n) (h2 : boolP N i = true) => seenB_all h1 h2)
  generalize boolsTo N n = xs at *
  obtain ⟨V, cv, rfl⟩ := ho5.form
  have ho5' := Lib.hid ho5
  have hb5' := hb5.size
  have hg4 : G < w4.heap.size := by omega
  clear ho5 hrow hs4 hb5
  obtain ⟨⟨q0, z5⟩, -⟩ := hx5.cells
  have hx5' := Lib.hid hx5
  clear hx5 hx4 hx3
  go_wp2
  clear q0
  go_loopw [35] (fun i wr => ∃ j : Nat, j ≤ xs.length ∧ i = .int .i64 j ∧ Hid (wr.rowIs G 3 n (fun i => .int .i64 (seenB xs j i))) ∧ Hid (OwnL wr w4.heap.size (.slice V xs.length cv) xs) ∧ Hid (Bx w [(w.heap.size, 0, .slice (some ⟨b, o, none⟩) n c)] wr)) (fun i _ => xs.length - (intOf i).toNat)
  case atStart => exact ⟨0, Nat.zero_le _, rfl, hrow5.out.congr fun i _ => by simp [seenB], ho5'.out, hx5'.out⟩
  case round =>
    clear hx5' hrow5 ho5'
    obtain ⟨j, hj, rfl, hrw, how, hx⟩ := hrel
    by_cases hlt : j < xs.length
    · obtain ⟨k, hk1, hkn, hkb⟩ := (hxm.out xs[j]).1 (List.getElem_mem hlt)
      have hnx := Lib.hid (fun i => seenB_next hlt hk1 i)
      have hints := how.out.gf (by omega) (fun x hx => by obtain ⟨i, h1, h2, _⟩ := (hxm.out x).1 hx; rw [h1]; unfold R64; omega)
      obtain ⟨V', cv', eV, _, _, hcell⟩ := hints
      injection eV with e1 _ _
      subst e1
      obtain ⟨vb, vo, rfl, hvb, hcell⟩ := hcell (by omega)
      have hl := hcell j hlt
      have hgf : gf xs j = (k : Int) := by unfold gf; rw [getD_lt _ _ hlt]; exact hk1
      rw [hgf] at hl
      have i1 : (j : Int) < (xs.length : Int) := by omega
      have i2 : decide ((k : Int) < 0) = false := decide_eq_false (by omega)
      have i3 : decide ((n : Int) ≤ (k : Int)) = false := by simp; omega
      have i4 : (k : Int) < (n : Int) := by omega
      have c0 := hrw.out.cell hkn
      have f0 := hrw.out.frozen k
      clear hcell hgf hk1 hkb
      go_wp2
      go_roundw
      case rel =>
        refine ⟨j + 1, by omega, by go_num, (hrw.out.set k _).congr fun i _ => ?_, how.out.setCell (a := ⟨G, k, none⟩) hg4 _, hx.out.far _ (by intro a ha; simp at ha; subst ha; show w.heap.size ≠ G; omega) (by omega)⟩
        rw [hnx.out i]
        split <;> rfl
      case measure => simp [intOf]; omega
    · obtain rfl : j = xs.length := by omega
      obtain ⟨⟨q0, z6⟩, -⟩ := hx.out.cells
      have hx6 := Lib.hid hx.out
      have hr6 := Lib.hid hrw.out
      clear how hrw hx hj hlt hxm hxl
      go_wp2
      clear q0
      go_loopw [54] (fun i wr => ∃ j : Nat, j ≤ n ∧ i = .int .i64 j ∧ Hid (wr.rowIs G 3 n (fun i => .int .i64 (seenB xs xs.length i))) ∧ Hid (Bx w [(w.heap.size, 0, .slice (some ⟨b, o, none⟩) n c)] wr)) (fun i _ => n - (intOf i).toNat)
      case atStart => exact ⟨0, Nat.zero_le _, rfl, hr6.out, hx6.out⟩
      case round =>
        clear hx6 hr6 z6
        obtain ⟨j, hj, rfl, hrw, hx⟩ := hrel
        by_cases hlt : j < n
        · obtain ⟨e0, e1, e2, e3, e4, e5, e6, e7⟩ := (hcs'.out j hlt).below hx.out.bel hbl
          have i1 : (j : Int) < (n : Int) := by omega
          have hz := hx.out.bel.size
          have hxa := Lib.hid (hx.out.skip (.cells #[.int .i8 (N j).op, .int .i8 (N j).len, .int .i64 (N j).a0, .int .i64 (N j).a1, .int .i64 (N j).a2, .int .i64 (N j).sort, .int .i64 (N j).fn, .int .i64 (N j).num] 28))
          have hra := Lib.hid (hrw.out.alloc (.cells #[.int .i8 (N j).op, .int .i8 (N j).len, .int .i64 (N j).a0, .int .i64 (N j).a1, .int .i64 (N j).a2, .int .i64 (N j).sort, .int .i64 (N j).fn, .int .i64 (N j).num] 28))
          have hnd : Hid (NdIn (wr.alloc (.cells #[.int .i8 (N j).op, .int .i8 (N j).len, .int .i64 (N j).a0, .int .i64 (N j).a1, .int .i64 (N j).a2, .int .i64 (N j).sort, .int .i64 (N j).fn, .int .i64 (N j).num] 28)) wr.heap.size 0 (N j)) := ⟨by simp, by simp, by simp, by simp, by simp, by simp, by simp, by simp⟩
          have hza : wr.heap.size < (wr.alloc (.cells #[.int .i8 (N j).op, .int .i8 (N j).len, .int .i64 (N j).a0, .int .i64 (N j).a1, .int .i64 (N j).a2, .int .i64 (N j).sort, .int .i64 (N j).fn, .int .i64 (N j).num] 28)).heap.size := by simp
          obtain ⟨⟨q0, z⟩, -⟩ := hx.out.cells
          go_wp2_with fail
          clear e0 e1 e2 e3 e4 e5 e6 e7 q0
          generalize wr.alloc (.cells #[.int .i8 (N j).op, .int .i8 (N j).len, .int .i64 (N j).a0, .int .i64 (N j).a1, .int .i64 (N j).a2, .int .i64 (N j).sort, .int .i64 (N j).fn, .int .i64 (N j).num] 28) = wn at *
          refine (Lit_any _ n N j wn (hv'.out.below hxa.out.bel) (by omega) (by unfold R64; omega)).mono ?_
          rintro x w7 ⟨la, le, rfl, hP, hb7⟩
          have hP' := Lib.hid hP
          clear hP
          have hx7 := Lib.hid (hxa.out.step hb7)
          have hr7 := Lib.hid (row_below hra.out hb7 hra.out.lt)
          obtain ⟨f0, _, _, _, _, f5, _, _⟩ := hnd.out.below hb7 hza
          simp only [Nat.zero_add] at f5
          obtain ⟨⟨q0, z7⟩, -⟩ := hx7.out.cells
          by_cases hs : (N j).sort = 0
          · by_cases hop : (N j).op = 1
            · rw [hs] at f5
              rw [hop] at f0
              clear hs hop
              go_wp2
              go_roundw
              case rel => exact ⟨j + 1, by omega, by go_num, hr7.out, hx7.out⟩
              case measure => simp [intOf]; omega
            · have hbp : boolP N j = true := by unfold boolP; rw [hs]; simpa using hop
              obtain ⟨rfl, rfl⟩ := lit_bool hP'.out hch'.out hlt hbp
              have hmy := Lib.hid (may_bool hch'.out hlt hbp)
              have hsb := hsn.out j hlt hbp
              have c7 : w7.cell? ⟨G, j, none⟩ = some (.int .i64 1) := by rw [hr7.out.cell hlt, hsb]
              have d1 : ((N j).op != 1) = true := by simpa using hop
              have hlj : Hid (litI j false = 2 * (j : Int)) := by unfold Hid litI; simp
              rw [hs] at f5
              clear hs hop hsb hbp
              go_wp2_with fail
              refine (Make_any j false _ (by omega)).mono ?_
              rintro x w8 ⟨rfl, rfl⟩
              rw [hlj.out]
              go_wp2_with fail
              have hx8 := Lib.hid (hx7.out.skip (.cells #[.int .i64 (2 * (j : Int))] 3))
              have hr8 := Lib.hid (hr7.out.alloc (.cells #[.int .i64 (2 * (j : Int))] 3))
              refine (AMay_any _ _ n 1 N (fun _ => 2 * (j : Int)) _ (hv'.out.below hx8.out.bel) (by omega) (ints1 _ _ (by unfold R64; omega))).mono ?_
              rintro x w9 ⟨rfl, hb9⟩
              rw [hmy.out]
              have hx9 := Lib.hid (hx8.out.step hb9)
              have hr9 := Lib.hid (row_below hr8.out hb9 hr8.out.lt)
              go_wp2
              go_roundw
              case rel => exact ⟨j + 1, by omega, by go_num, hr9.out, hx9.out⟩
              case measure => simp [intOf]; omega
          · have d1 : ((N j).sort == 0) = false := by simpa using hs
            clear hs
            go_wp2
            go_roundw
            case rel => exact ⟨j + 1, by omega, by go_num, hr7.out, hx7.out⟩
            case measure => simp [intOf]; omega
        · obtain rfl : j = n := by omega
          have hx3 := Lib.hid hx.out
          have hE3 := hE _ hx3.out.bel
          obtain ⟨p, hp, hsub⟩ := euf_sub0 j m N f
          have hp' := Lib.hid hp
          have hsub' := Lib.hid hsub
          have hLm := L_len f m
          have hLm' := Lib.hid hLm
          have hgL : Hid (∀ s (h : s < (L f m).length), (L f m)[s] = f s) := fun s h => L_get h
          obtain ⟨⟨q0, z6⟩, -⟩ := hx.out.cells
          clear hrw hx hp hsub hLm
          go_wp2_with fail
          refine hE3.mono ?_
          rintro x w7 ⟨v7, rfl, ho7, hb7⟩
          have hx7 := Lib.hid (hx3.out.step hb7)
          have hEl := he1.out.2
          have hi7 := ho7.gf (by omega) (fun x hx => hR1.out x (he1.out.1 x hx))
          generalize hes : eufL j N m f = es at *
          have hes' := Lib.hid hes
          obtain ⟨V7, cv7, rfl⟩ := ho7.form
          obtain ⟨V7', cv7', eV7, _, _, hc7⟩ := hi7
          injection eV7 with e71 _ _
          subst e71
          have hc7' := Lib.hid hc7
          clear ho7 hE3 q0 hes hc7
          have hbw7 := Lib.hid hx7.out.bel
          go_wp2
          go_loopw [12, 102] (fun a i wr => ∃ j s : Nat, j ≤ es.length ∧ i = .int .i64 j ∧ s ≤ m ∧ a = .int .i64 s ∧ Hid (SubP p (L f m) es s j) ∧ wr = w7) (fun _ i _ => es.length - (intOf i).toNat)
          case atStart => exact ⟨0, 0, Nat.zero_le _, rfl, Nat.zero_le _, rfl, hsub'.out, rfl⟩
          case round =>
            obtain ⟨q, s, hq, rfl, hs, rfl, hS, rfl⟩ := hrel
            by_cases hqt : q < es.length
            · obtain ⟨kb, ko, rfl, hkb, hck⟩ := hc7'.out (by omega)
              have hk := hck q hqt
              have hgk : Hid (gf es q = es[q]) := by unfold Hid gf; rw [getD_lt _ _ hqt]
              have hpq : Hid (p es[q] = true) := hp'.out _ (List.getElem_mem hqt)
              have hne : Hid (es[q] ∈ es) := List.getElem_mem hqt
              rw [hgk.out] at hk
              have i1 : (q : Int) < (es.length : Int) := by omega
              clear hck
              generalize hy7 : es[q] = y at *
              have hy7' := Lib.hid hy7
              clear hy7
              go_wp2
              go_loopw [12] (fun a wx => ∃ s : Nat, s ≤ m ∧ a = .int .i64 s ∧ Hid (SubP p (L f m) es s q) ∧ wx = wr) (fun a _ => m - (intOf a).toNat)
              case atStart => exact ⟨s, hs, rfl, hS.out, rfl⟩
              case round =>
                clear hS hs
                obtain ⟨s, hs, rfl, hS, rfl⟩ := hrel
                have hsl := hS.out.some hqt
                have hls := hgL.out s hsl
                have hsm : s < m := by rw [hLm'.out] at hsl; exact hsl
                obtain ⟨lb, lo, rfl, hlb, hcl⟩ := hcu'.out (by omega)
                have hl := (hbw7.out.cell (p := ⟨lb, lo + s, none⟩) hlb).trans (hcl s hsm)
                have j1 : (s : Int) < (m : Int) := by omega
                have j2 : decide ((m : Int) ≤ (s : Int)) = false := decide_eq_false (by omega)
                clear hcl
                by_cases heq : f s = y
                · have hF : Hid (SubP p (L f m) es (s + 1) (q + 1)) := hS.out.hit hsl hqt (by rw [hls, heq, hy7'.out]) (by rw [hy7'.out]; exact hpq.out)
                  rw [heq] at hl
                  clear hls heq hsl
                  go_wp2
                  go_roundw
                  case rel => exact ⟨q + 1, s + 1, by omega, by go_num, by omega, by go_num, hF.out, trivial⟩
                  case measure => simp [intOf]; omega
                · have hF : Hid (SubP p (L f m) es (s + 1) q) := hS.out.skip hsl hqt (by rw [hls, hy7'.out]; exact heq)
                  have d1 : (f s != y) = true := by simpa using heq
                  clear hls heq hsl
                  go_wp2
                  go_roundw
                  case rel => exact ⟨s + 1, by omega, by go_num, hF.out, trivial⟩
                  case measure => simp [intOf]; omega
            · obtain rfl : q = es.length := by omega
              have xD := hx7.out.drew
              have bD := xD.bel
              have hli := hi1.out.2
              have d2 : decide (IntKind.i64.wrap (((idlL j N m f).length : Int) + (es.length : Int)) ≤ IntKind.i64.wrap (2 * (m : Int))) = true := decide_eq_true (by rw [IntKind.wrap_i64, IntKind.wrap_i64]; omega)
              obtain ⟨⟨q0, z7⟩, -⟩ := hx7.out.cells
              have cD := xD.cells.1.1
              have hW := fun x => wakes13_any x
              clear hS hqt hc7'
              go_wp2
              go_region_held3 (fun x => x.cell? ⟨w.heap.size, 0, none⟩ = some (.slice (some ⟨b, o, none⟩) j c))
                (first | exact cD | exact x7.cells.1.1 | exact x8.cells.1.1 | exact x9.cells.1.1 | fail)
                (first
                  | (go_at_call 36; (with_reducible refine Calls.mono (hI _ bD) ?_); rintro e y7 ⟨v7, rfl, hO7, hB7⟩; (obtain ⟨A7, c7, rfl⟩ := hO7.form); have x7 := xD.step hB7; have b7 := x7.bel)
                  | (go_at_call 35; (with_reducible refine Calls.mono (hE _ b7) ?_); rintro e y8 ⟨v8, rfl, hO8, hB8⟩; (obtain ⟨A8, c8, rfl⟩ := hO8.form); have x8 := x7.step hB8)
                  | (go_at_call 34; (with_reducible refine Calls.mono (hW _) ?_); rintro e y9 ⟨rfl, hB9⟩; have x9 := x8.step hB9)
                  | fail)
              go_wp2
              go_ret
              exact ⟨rfl, x9.bel⟩

set_option maxHeartbeats 4000000 in
theorem Lits_any (v a : Value) (n m : Nat) (N : Nat → Nd) (f : Nat → Int) (w : World) (hv : NdsAt w v n N) (ha : IntsAt w a m f) :
    Calls Try.prog 11 #[.agg #[v], a] w fun x w' => x = .returned (.bool true) ∧ Below w.heap.size w w' := by
  have hv' := Lib.hid hv
  have ha' := Lib.hid ha
  obtain ⟨A, c, rfl, _, _, _⟩ := hv
  obtain ⟨U, cu, rfl, hm9, _, _⟩ := ha
  have hx0 := (Bx.nil w).one (.slice A n c) 24
  by_cases hbig : 300 < n
  · have hd : Hid (decide (300 < n) = true) := by unfold Hid; simpa using hbig
    clear hbig
    go_enter Try.func11, Try.ntmps11
    go_wp2_with fail
    refine (Great5_any _ n N _ (hv'.out.below hx0.bel)).mono ?_
    rintro x w2 ⟨rfl, hb2⟩
    rw [hd.out]
    go_wp2_with fail
    refine (wakes13_any _).mono ?_
    rintro x w3 ⟨rfl, hb3⟩
    go_wp2
    go_ret
    exact ⟨rfl, ((hx0.step hb2).step hb3).bel⟩
  have hd : Hid (decide (300 < n) = false) := by unfold Hid; simpa using hbig
  have hn : n ≤ 300 := by omega
  clear hbig
  by_cases hmb : 300 < m
  · have d0 : decide ((300 : Int) < (m : Int)) = true := decide_eq_true (by omega)
    clear hmb
    go_enter Try.func11, Try.ntmps11
    go_wp2_with fail
    refine (Great5_any _ n N _ (hv'.out.below hx0.bel)).mono ?_
    rintro x w2 ⟨rfl, hb2⟩
    rw [hd.out]
    go_wp2_with fail
    refine (wakes13_any _).mono ?_
    rintro x w3 ⟨rfl, hb3⟩
    go_wp2
    go_ret
    exact ⟨rfl, ((hx0.step hb2).step hb3).bel⟩
  rcases Classical.em (CheckP n N) with hch | hch
  · exact Lits_main (.slice A n c) _ n m N f w hv'.out ha'.out hn (by omega) hch
  · have d0 : decide ((300 : Int) < (m : Int)) = false := decide_eq_false (by omega)
    have hy := Lib.hid (check_not hch)
    clear hch hmb
    go_enter Try.func11, Try.ntmps11
    go_wp2_with fail
    refine (Great5_any _ n N _ (hv'.out.below hx0.bel)).mono ?_
    rintro x w2 ⟨rfl, hb2⟩
    rw [hd.out]
    have hx2 := hx0.step hb2
    obtain ⟨⟨q0, _⟩, -⟩ := hx2.cells
    go_wp2_with fail
    refine (RCheck_any _ n N w2 (hv'.out.below hx2.bel) (by omega)).mono ?_
    rintro x w3 ⟨rfl, hb3⟩
    rw [hy.out]
    go_wp2_with fail
    refine (wakes13_any _).mono ?_
    rintro x w4 ⟨rfl, hb4⟩
    go_wp2
    go_ret
    exact ⟨rfl, ((hx2.step hb3).step hb4).bel⟩
end Go.Proofs.Ytoppfcfalciibaa
