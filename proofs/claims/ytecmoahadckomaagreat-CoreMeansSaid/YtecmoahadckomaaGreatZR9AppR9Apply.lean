/- gantryref09.asked, Apply. -/
import Derived.Test.YtecmoahadckomaaGreatZR9May
import Derived.Laws.CopyOwn
namespace Go.Proofs.YtecmoahadckomaaGreat
open Go.RowKit
set_option maxRecDepth 100000

theorem KAt.put {x : World} {g : Nat} {A : Nat → Int} {j : Nat} (h : KAt x g (padK j A)) (hj : j < 3) : KAt (x.setCell ⟨g, j, none⟩ (.int .i64 (A j))) g (padK (j + 1) A) := by
  unfold KAt at h ⊢
  rw [heap_setCell_same x g j _ _ _ h]
  congr 2
  have : j = 0 ∨ j = 1 ∨ j = 2 := by omega
  rcases this with rfl | rfl | rfl <;> simp [k3C, padK, padZ]
theorem KAt.frz {x : World} {g : Nat} {k : K3} (h : KAt x g k) (j : Nat) : x.frozen? ⟨g, j, none⟩ = false := frozen_of_row x g j _ _ h
theorem KAt.other {x : World} {g : Nat} {k : K3} (h : KAt x g k) {b o : Nat} (hb : g ≠ b) (u : Value) : KAt (x.setCell ⟨b, o, none⟩ u) g k := (heap_setCell_other x ⟨b, o, none⟩ g u hb).trans h
theorem Bx.far9 {w x : World} {K : List (Nat × Nat × Value)} {b o : Nat} {u : Value} (h : Bx w K x) (hne : ∀ a ∈ K, a.1 < b) (hw : w.heap.size ≤ b) : Bx w K (x.setCell ⟨b, o, none⟩ u) :=
  ⟨h.cells.set (fun a ha => by have := hne a ha; omega), h.bel.setCell hw _⟩
theorem isK_far {w : World} {sv fv mv zv wv : Value} : ∀ a ∈ isK w sv fv mv zv wv, a.1 < w.heap.size + 2 := by
  intro a ha
  simp only [isK, List.mem_cons, List.not_mem_nil, or_false] at ha
  rcases ha with rfl | rfl | rfl | rfl | rfl <;> simp
theorem padK_0 (A : Nat → Int) : padK 0 A = k30 := rfl
set_option maxHeartbeats 16000000 in
theorem R9Asked_any (sv fv mv zv wv uv : Value) (g : Sg) (W : Wd) (f : Int) (m : Nat) (B : Nat → Int) (w : World) (hG : SgAt w sv fv mv g) (hW : WdAt w zv wv W) (hw : FewW W) (hB : IntsAt w uv m B) :
    Calls Tryz.prog 65 #[.agg #[sv, fv, mv], .agg #[zv, wv], .int .i64 f, uv] w fun e w' => e = .returned (.tuple #[k3V (askT g W f m B).1, .int .i64 (askT g W f m B).2]) ∧ Below w.heap.size w w' := by
  have hG' := Lib.hid hG
  have hW' := Lib.hid hW
  have hw' := Lib.hid hw
  obtain ⟨A, c, rfl, -, -⟩ := hG.1
  obtain ⟨FA, fc, rfl, ⟨hfn, hfc⟩, -⟩ := hG.2.1
  obtain ⟨MA, mc, rfl, -, -⟩ := hG.2.2
  obtain ⟨ZA, zc, rfl, -, -, -⟩ := hW.1
  obtain ⟨WA, wq, rfl, ⟨hwn, hwq⟩, -⟩ := hW.2
  obtain ⟨UA, uc, rfl, hmn, hBR, hBc⟩ := hB
  have hBc' := Lib.hid hBc
  have hBR' := Lib.hid hBR
  have hx0 := Lib.hid (((isK_bx w (.slice A g.ns c) (.slice FA g.nf fc) (.slice MA g.nm mc) (.slice ZA W.nz zc) (.slice WA W.nf wq)).skip (.cells (k3C k30).toArray 45)).skip (.cells (k3C k30).toArray 45))
  have hr0 : Hid (KAt ((((w.alloc (.cells #[.slice A g.ns c, .slice FA g.nf fc, .slice MA g.nm mc] 26)).alloc (.cells #[.slice ZA W.nz zc, .slice WA W.nf wq] 30)).alloc (.cells (k3C k30).toArray 45)).alloc (.cells (k3C k30).toArray 45)) (w.heap.size + 2) k30) := by
    have := heap_alloc_new ((w.alloc (.cells #[.slice A g.ns c, .slice FA g.nf fc, .slice MA g.nm mc] 26)).alloc (.cells #[.slice ZA W.nz zc, .slice WA W.nf wq] 30)) (.cells (k3C k30).toArray 45)
    simp only [World.size_alloc] at this
    exact KAt.step this ((Below.refl _ _).alloc (Nat.le_refl _) _)
  have hs0 : Hid (KAt ((((w.alloc (.cells #[.slice A g.ns c, .slice FA g.nf fc, .slice MA g.nm mc] 26)).alloc (.cells #[.slice ZA W.nz zc, .slice WA W.nf wq] 30)).alloc (.cells (k3C k30).toArray 45)).alloc (.cells (k3C k30).toArray 45)) (w.heap.size + 3) k30) := by
    have := heap_alloc_new (((w.alloc (.cells #[.slice A g.ns c, .slice FA g.nf fc, .slice MA g.nm mc] 26)).alloc (.cells #[.slice ZA W.nz zc, .slice WA W.nf wq] 30)).alloc (.cells (k3C k30).toArray 45)) (.cells (k3C k30).toArray 45)
    simp only [World.size_alloc] at this
    exact this
  have hM := Lib.hid (R9May_any _ _ _ _ _ g W _ (hG'.out.below hx0.out.bel) (hW'.out.below hx0.out.bel) hw'.out)
  have hRa : Hid (askT g W f m B = if mayW g W = false then (k30, 2) else if f < 0 then (k30, 2) else if (g.nf : Int) ≤ f then (k30, 2) else if (m : Int) ≠ (g.F f.toNat).len then (k30, 2) else (padK m B, if fitB g.ns W (g.F f.toNat) (a3 (padK m B).a0 (padK m B).a1 (padK m B).a2) then 0 else 33)) := rfl
  obtain ⟨⟨k0, -⟩, ⟨k1, -⟩, ⟨k2, -⟩, ⟨k3, -⟩, ⟨k4, -⟩, -⟩ := hx0.out.cells
  have hal : Tryz.prog.arrayLen 45 = 3 := by kernel_rfl
  clear hG hW hw hBc hBR
  go_enter Tryz.func65, Tryz.ntmps65
  go_wp2_with fail
  refine hM.out.mono ?_
  rintro e w1 ⟨rfl, hb1⟩
  have hx1 := Lib.hid (hx0.out.step hb1)
  have hr1 := Lib.hid (hr0.out.step hb1)
  have hs1 := Lib.hid (hs0.out.step hb1)
  clear hb1 hM hx0 hr0 hs0 k0 k1 k2 k3 k4
  obtain ⟨⟨k0, -⟩, ⟨k1, -⟩, ⟨k2, -⟩, ⟨k3, -⟩, ⟨k4, -⟩, -⟩ := hx1.out.cells
  obtain ⟨y0, y1, y2⟩ := hs1.out.cells
  cases hk : mayW g W with
  | false =>
    have hF : Hid (askT g W f m B = (k30, 2)) := by unfold Hid; rw [hRa.out, if_pos hk]
    clear hk
    go_wp2_with (refine wpList_storeK rfl rfl _ _ rfl (w.heap.size + 2) rfl _ hr1.out k30 rfl ?_)
    exact bodyPost_ret (results_k3 rfl _ _ (w.heap.size + 2) k30 rfl (hr1.out.set k30)) rfl ⟨by rw [hF.out]; rfl, below_setRow hx1.out.bel (by omega) _⟩
  | true =>
  have hR1 : Hid (askT g W f m B = if f < 0 then (k30, 2) else if (g.nf : Int) ≤ f then (k30, 2) else if (m : Int) ≠ (g.F f.toNat).len then (k30, 2) else (padK m B, if fitB g.ns W (g.F f.toNat) (a3 (padK m B).a0 (padK m B).a1 (padK m B).a2) then 0 else 33)) := by unfold Hid; rw [hRa.out, if_neg (by rw [hk]; simp)]
  have hlen := Lib.hid fun i (hi : i < g.nf) => may_len hk hi
  clear hk hRa
  by_cases h1 : f < 0
  · have d1 : decide (f < 0) = true := decide_eq_true h1
    have hF : Hid (askT g W f m B = (k30, 2)) := by unfold Hid; rw [hR1.out, if_pos h1]
    clear h1
    go_wp2_with (refine wpList_storeK rfl rfl _ _ rfl (w.heap.size + 2) rfl _ hr1.out k30 rfl ?_)
    exact bodyPost_ret (results_k3 rfl _ _ (w.heap.size + 2) k30 rfl (hr1.out.set k30)) rfl ⟨by rw [hF.out]; rfl, below_setRow hx1.out.bel (by omega) _⟩
  have d1 : decide (f < 0) = false := decide_eq_false h1
  by_cases h2 : (g.nf : Int) ≤ f
  · have d2 : decide ((g.nf : Int) ≤ f) = true := decide_eq_true h2
    have hF : Hid (askT g W f m B = (k30, 2)) := by unfold Hid; rw [hR1.out, if_neg h1, if_pos h2]
    clear h1 h2
    go_wp2_with (refine wpList_storeK rfl rfl _ _ rfl (w.heap.size + 2) rfl _ hr1.out k30 rfl ?_)
    exact bodyPost_ret (results_k3 rfl _ _ (w.heap.size + 2) k30 rfl (hr1.out.set k30)) rfl ⟨by rw [hF.out]; rfl, below_setRow hx1.out.bel (by omega) _⟩
  have d2 : decide ((g.nf : Int) ≤ f) = false := decide_eq_false h2
  obtain ⟨fi, rfl⟩ : ∃ fi : Nat, f = fi := ⟨f.toNat, by omega⟩
  have hfi : fi < g.nf := by omega
  have hfi0 : (0 : Int) ≤ (fi : Int) := by omega
  have hfi1 : (fi : Int) < (g.nf : Int) := by omega
  have hd : decide (g.nf ≤ fi) = false := decide_eq_false (by omega)
  have hR2 : Hid (askT g W fi m B = if (m : Int) ≠ (g.F fi).len then (k30, 2) else (padK m B, if fitB g.ns W (g.F fi) (a3 (padK m B).a0 (padK m B).a1 (padK m B).a2) then 0 else 33)) := by unfold Hid; rw [hR1.out, if_neg h1, if_neg h2]; rfl
  have hl3 := hlen.out fi hfi
  clear h1 h2 hR1 hlen
  obtain ⟨fb, fo, fcc, efv, hfb, hfn1⟩ := RowAt.cells_at hG'.out.2.1 hfi
  injection efv with efa _ efc
  subst efa; subst efc
  have hP := Lib.hid fun (x : World) (h : Bx w (isK w (.slice A g.ns c) (.slice (some ⟨fb, fo, none⟩) g.nf fc) (.slice MA g.nm mc) (.slice ZA W.nz zc) (.slice WA W.nf wq)) x) => hfn1.1.keep fun o => h.bel.cell (p := ⟨fb, o, none⟩) hfb
  obtain ⟨p0, p1, p2, p3, p4, p5⟩ := hP.out _ hx1.out
  by_cases h3 : (m : Int) = (g.F fi).len
  case neg =>
    have d3 : ((m : Int) != (g.F fi).len) = true := by simpa using h3
    have hF : Hid (askT g W fi m B = (k30, 2)) := by unfold Hid; rw [hR2.out, if_pos h3]
    clear h3 p0 p2 p3 p4 p5
    go_wp2_with (refine wpList_storeK rfl rfl _ _ rfl (w.heap.size + 2) rfl _ hr1.out k30 rfl ?_)
    exact bodyPost_ret (results_k3 rfl _ _ (w.heap.size + 2) k30 rfl (hr1.out.set k30)) rfl ⟨by rw [hF.out]; rfl, below_setRow hx1.out.bel (by omega) _⟩
  have d3 : ((m : Int) != (g.F fi).len) = false := by simpa using h3
  have hR3 : Hid (askT g W fi m B = (padK m B, if fitB g.ns W (g.F fi) (a3 (padK m B).a0 (padK m B).a1 (padK m B).a2) then 0 else 33)) := by unfold Hid; rw [hR2.out, if_neg (fun h => h h3)]
  have hm3 : m ≤ 3 := by omega
  have hFi := Lib.hid fun (x : World) (hb : Below w.heap.size w x) => R9Fits_any A (some ⟨fb, fo, none⟩) MA ZA WA g.ns g.nf g.nm W.nz W.nf c fc mc zc wq W (g.F fi) (padK m B).a0 (padK m B).a1 (padK m B).a2 x rfl (hW'.out.1.below hb) hw'.out.nz hfn1.2 (padZ_R hBR'.out 0) (padZ_R hBR'.out 1) (padZ_R hBR'.out 2)
  unfold fnV at hFi
  clear h3 hR2 hfn1
  go_wp2_with fail
  clear k0 k1 k2 k3 k4 y0 y1 y2 p0 p1 p2 p3 p4 p5 d3
  go_loopw [11] (fun i wr => ∃ j : Nat, j ≤ m ∧ i = .int .i64 j ∧ Hid (Bx w (isK w (.slice A g.ns c) (.slice (some ⟨fb, fo, none⟩) g.nf fc) (.slice MA g.nm mc) (.slice ZA W.nz zc) (.slice WA W.nf wq)) wr) ∧ Hid (KAt wr (w.heap.size + 2) k30) ∧ Hid (KAt wr (w.heap.size + 3) (padK j B))) (fun i _ => m - (intOf i).toNat)
  case atStart => exact ⟨0, Nat.zero_le _, rfl, hx1.out, hr1.out, hs1.out⟩
  case round =>
  clear hx1 hr1 hs1
  obtain ⟨j, hj, rfl, hx, hr, hs⟩ := hrel
  by_cases hlt : j < m
  · have i1 : decide ((j : Int) < (m : Int)) = true := decide_eq_true (by omega)
    obtain ⟨b, o, rfl, hbl, hc⟩ := hBc'.out (by omega)
    have rj := (hx.out.bel.cell (p := ⟨b, o + j, none⟩) hbl).trans (hc j hlt)
    have hj0 : (0 : Int) ≤ (j : Int) := by omega
    have hjm : (j : Int) < (m : Int) := by omega
    have hj3 : (j : Int) < 3 := by omega
    have hj3n : j < 3 := by omega
    have hput := Lib.hid (hs.out.put hj3n)
    have hrp := Lib.hid (hr.out.other (b := w.heap.size + 3) (o := j) (by omega) (.int .i64 (B j)))
    have hxp := Lib.hid (hx.out.far9 (b := w.heap.size + 3) (o := j) (u := .int .i64 (B j)) (fun a ha => by have := isK_far a ha; omega) (by omega))
    have hcell : ∃ u, wr.cell? ⟨w.heap.size + 3, j, none⟩ = some u := by
      obtain ⟨e2, e3, e4⟩ := hs.out.cells
      match j, hj3n with
      | 0, _ => exact ⟨_, e2⟩
      | 1, _ => exact ⟨_, e3⟩
      | 2, _ => exact ⟨_, e4⟩
    obtain ⟨u, hu⟩ := hcell
    have hfz := hs.out.frz j
    clear hc
    go_wp2_with fail
    go_roundw
    case rel => exact ⟨j + 1, by omega, by go_num, hxp.out, hrp.out, hput.out⟩
    case measure => simp [intOf]; omega
  have i1 : decide ((j : Int) < (m : Int)) = false := decide_eq_false (by omega)
  obtain rfl : j = m := by omega
  have hK := Lib.hid fun (x : World) (h : Bx w (isK w (.slice A g.ns c) (.slice (some ⟨fb, fo, none⟩) g.nf fc) (.slice MA g.nm mc) (.slice ZA W.nz zc) (.slice WA W.nf wq)) x ∧ KAt x (w.heap.size + 2) k30 ∧ KAt x (w.heap.size + 3) (padK j B)) => (⟨h.1.cells.1.1, h.1.cells.2.1.1, h.1.cells.2.2.1.1, h.1.cells.2.2.2.1.1, h.1.cells.2.2.2.2.1.1, hP.out x h.1, h.2.2.cells⟩ : _ ∧ _ ∧ _ ∧ _ ∧ _ ∧ _ ∧ _)
  unfold FnLies at hK
  have hstep := Lib.hid fun (x y : World) (h : Bx w (isK w (.slice A g.ns c) (.slice (some ⟨fb, fo, none⟩) g.nf fc) (.slice MA g.nm mc) (.slice ZA W.nz zc) (.slice WA W.nf wq)) x ∧ KAt x (w.heap.size + 2) k30 ∧ KAt x (w.heap.size + 3) (padK j B)) (hb : Below x.heap.size x y) => (⟨h.1.step hb, h.2.1.step hb, h.2.2.step hb⟩ : Bx w (isK w (.slice A g.ns c) (.slice (some ⟨fb, fo, none⟩) g.nf fc) (.slice MA g.nm mc) (.slice ZA W.nz zc) (.slice WA W.nf wq)) y ∧ KAt y (w.heap.size + 2) k30 ∧ KAt y (w.heap.size + 3) (padK j B))
  generalize padK j B = kk at *
  generalize fitB g.ns W (g.F fi) (a3 kk.a0 kk.a1 kk.a2) = q at *
  go_upto_region 8 with fail
  refine region_cls (fun x => Bx w (isK w (.slice A g.ns c) (.slice (some ⟨fb, fo, none⟩) g.nf fc) (.slice MA g.nm mc) (.slice ZA W.nz zc) (.slice WA W.nf wq)) x ∧ KAt x (w.heap.size + 2) k30 ∧ KAt x (w.heap.size + 3) kk) (by kernel_rfl) (by kernel_rfl) (hstep.out _ _ ⟨hx.out, hr.out, hs.out⟩ (Below.refl _ _).drew) ?_
  repeat (first
    | go_big_quiet_skip
    | (go_big_quiet_want; first
      | (go_big_quiet_op; go_big_quiet_on)
      | (unfold Oper.quiet; apply Exists.intro; refine ⟨fun x hx => ?_, ?_⟩; (obtain ⟨c0, c1, c2, c3, c4, ⟨f0, f1, f2, f3, f4, f5⟩, y0, y1, y2⟩ := hK.out x hx; unfold Oper.quietAt; first
          | (go_simp; exact ⟨rfl, rfl⟩)
          | (go_simp; exact rfl)
          | (go_simp; done)
          | (go_simp; go_at_call 31; refine (hFi.out x hx.1.bel).mono ?_; rintro e w' ⟨rfl, hb'⟩; exact ⟨rfl, hstep.out _ _ hx hb'⟩)
          | fail); go_simp; go_big_quiet_on)))
  refine wpQuiet_nil ?_
  rintro w6 hx6
  have hx6' := Lib.hid hx6.1
  have hr6 := Lib.hid hx6.2.1
  have hs6 := Lib.hid hx6.2.2
  obtain ⟨y0, y1, y2⟩ := hx6.2.2.cells
  clear hx6 hx hr hs hK hstep hFi
  cases q with
  | true =>
    have hF : Hid (askT g W fi j B = (kk, 0)) := hR3.out
    go_wp2_with (refine wpList_storeK rfl rfl _ _ rfl (w.heap.size + 2) rfl _ hr6.out kk rfl ?_)
    exact bodyPost_ret (results_k3 rfl _ _ (w.heap.size + 2) kk rfl (hr6.out.set kk)) rfl ⟨by rw [hF.out]; rfl, below_setRow hx6'.out.bel (by omega) _⟩
  | false =>
    have hF : Hid (askT g W fi j B = (kk, 33)) := hR3.out
    go_wp2_with (refine wpList_storeK rfl rfl _ _ rfl (w.heap.size + 2) rfl _ hr6.out kk rfl ?_)
    exact bodyPost_ret (results_k3 rfl _ _ (w.heap.size + 2) kk rfl (hr6.out.set kk)) rfl ⟨by rw [hF.out]; rfl, below_setRow hx6'.out.bel (by omega) _⟩
end Go.Proofs.YtecmoahadckomaaGreat

namespace Go.Proofs.YtecmoahadckomaaGreat
open Go.RowKit
set_option maxRecDepth 100000

theorem place_once {R : Nat → Rw} {n j : Nat} {k : K3} (hO : OnceR R n) (hj : j < n) (h : (R j).key = k) : placeR R n k = some (j : Int) := by
  cases hp : placeR R n k with
  | none => exact absurd h ((placeR_none R n k).1 hp j hj)
  | some x =>
    obtain ⟨i, hi, hk, rfl⟩ := placeR_some R n k x hp
    rcases Nat.lt_trichotomy i j with h' | h' | h'
    · exact absurd (hk.trans h.symm) (hO i j h' hj)
    · rw [h']
    · exact absurd (h.trans hk.symm) (hO j i h' hi)
theorem ask_once {g : Sg} {W : Wd} {f : Int} {m : Nat} {A : Nat → Int} (h : (askT g W f m A).2 = 0) : OnceR (W.F f.toNat).R (W.F f.toNat).nr := by
  obtain ⟨hmay, hf, _, _, _⟩ := ask_ok h
  have hnf := mayW_nf hmay
  unfold mayW at hmay
  simp only [Bool.and_eq_true] at hmay
  have := (upTo_iff _ _).1 hmay.2.2.2.2 f.toNat (by omega)
  unfold fvB at this
  simp only [Bool.and_eq_true, decide_eq_true_eq] at this
  exact (cntR_iff _ _).1 this.1
def kaK (G : Nat) (k : K3) : List (Nat × Nat × Value) := rowK G [.int .i64 k.a0, .int .i64 k.a1, .int .i64 k.a2] 0
set_option maxHeartbeats 8000000 in
theorem R9Apply_any (sv fv mv zv wv uv : Value) (g : Sg) (W : Wd) (f : Int) (m : Nat) (B : Nat → Int) (w : World) (hG : SgAt w sv fv mv g) (hW : WdAt w zv wv W) (hw : FewW W) (hB : IntsAt w uv m B) :
    Calls Tryz.prog 36 #[.agg #[sv, fv, mv], .agg #[zv, wv], .int .i64 f, uv] w fun e w' => e = .returned (.tuple #[.int .i64 (valT g W f m B).1, .int .i64 (valT g W f m B).2]) ∧ Below w.heap.size w w' := by
  have hG' := Lib.hid hG
  have hW' := Lib.hid hW
  have hw' := Lib.hid hw
  have hB' := Lib.hid hB
  obtain ⟨A, c, rfl, -, -⟩ := hG.1
  obtain ⟨FA, fc, rfl, ⟨hfn, hfc⟩, -⟩ := hG.2.1
  obtain ⟨MA, mc, rfl, -, -⟩ := hG.2.2
  obtain ⟨ZA, zc, rfl, -, -, -⟩ := hW.1
  obtain ⟨WA, wq, rfl, ⟨hwn, hwq⟩, -⟩ := hW.2
  obtain ⟨UA, uc, rfl, hmn, hBR, -⟩ := hB
  have hx := Lib.hid (isK_bx w (.slice A g.ns c) (.slice FA g.nf fc) (.slice MA g.nm mc) (.slice ZA W.nz zc) (.slice WA W.nf wq))
  obtain ⟨⟨k0, s0⟩, ⟨k1, -⟩, ⟨k2, s2⟩, ⟨k3, -⟩, ⟨k4, -⟩, -⟩ := hx.out.cells
  have hA := Lib.hid (R9Asked_any _ _ _ _ _ _ g W f m B _ (hG'.out.below hx.out.bel) (hW'.out.below hx.out.bel) hw'.out (hB'.out.below hx.out.bel))
  have hok := Lib.hid fun h => ask_ok (g := g) (W := W) (f := f) (m := m) (A := B) h
  have hon := Lib.hid fun h => ask_once (g := g) (W := W) (f := f) (m := m) (A := B) h
  have hR : Hid (valT g W f m B = if (askT g W f m B).2 = 0 then (rowV (W.F f.toNat) (askT g W f m B).1, 0) else (0, (askT g W f m B).2)) := rfl
  have hek := run_eqK3
  clear hG hW hw hBR s0 s2
  generalize askT g W f m B = at_ at *
  obtain ⟨kk, er⟩ := at_
  dsimp only at hok hR hA hon
  unfold k3V at hA
  go_enter Tryz.func36, Tryz.ntmps36
  go_wp2_with fail
  refine hA.out.mono ?_
  rintro e w1 ⟨rfl, hb1⟩
  have hx1 := Lib.hid (hx.out.step hb1)
  clear hA hx hb1 k0 k1 k2 k3 k4
  by_cases he : er = 0
  case neg =>
    have d1 : (er != 0) = true := by simpa using he
    have hF : Hid (valT g W f m B = (0, er)) := by unfold Hid; rw [hR.out, if_neg he]
    clear he
    go_wp2_with fail
    exact bodyPost_ret (results_tmp2 rfl _ _ _) rfl ⟨by rw [hF.out]; rfl, (hx1.out.skip _).bel⟩
  subst he
  obtain ⟨hmay, ⟨hf0, hf1⟩, hml, -, hfit⟩ := hok.out rfl
  have hone := Lib.hid (hon.out rfl)
  obtain ⟨fi, rfl⟩ : ∃ fi : Nat, f = fi := ⟨f.toNat, by omega⟩
  have hnf := mayW_nf hmay
  have hfi : fi < W.nf := by omega
  have hfi0 : (0 : Int) ≤ (fi : Int) := by omega
  have hfi1 : (fi : Int) < (W.nf : Int) := by omega
  have hfd : decide (W.nf ≤ fi) = false := decide_eq_false (by omega)
  have hF : Hid (valT g W fi m B = (rowV (W.F fi) kk, 0)) := by unfold Hid; rw [hR.out, if_pos rfl, show ((fi : Nat) : Int).toNat = fi by omega]
  rw [show ((fi : Nat) : Int).toNat = fi by omega] at hone
  have hRow : Hid (rowV (W.F fi) kk = match placeR (W.F fi).R (W.F fi).nr kk with | some x => ((W.F fi).R x.toNat).val | none => (W.F fi).els) := rfl
  have hyes : Hid (∀ j, j < (W.F fi).nr → ((W.F fi).R j).key = kk → valT g W fi m B = (((W.F fi).R j).val, 0)) := fun j hj h => by rw [hF.out, hRow.out, place_once hone.out hj h]; rfl
  have hnone : Hid ((∀ j, j < (W.F fi).nr → ((W.F fi).R j).key ≠ kk) → valT g W fi m B = ((W.F fi).els, 0)) := fun h => by rw [hF.out, hRow.out, (placeR_none _ _ _).2 h]
  clear hmay hml hfit hnf hf0 hf1 hR hok hon hF hRow hone
  obtain ⟨wb, wo, wcc, ewv, hwb, v0, v1, ⟨y0, y1⟩, hfvi⟩ := RowAt.cells_at hW'.out.2 hfi
  injection ewv with ewa _ ewc
  subst ewa; subst ewc
  obtain ⟨rA, rc, rfl, ⟨hrn, hrc⟩, -⟩ := hfvi.1
  have hv1 := hfvi.2.1
  subst hv1
  have hrow := Lib.hid fun (k : Nat) (hk : k < (W.F fi).nr) => RowAt.cells_at hfvi.1 hk
  have hnr : (W.F fi).nr ≤ 1000000 := hw'.out.nr fi hfi
  have hxA := Lib.hid ((hx1.out.row #[.int .i64 kk.a0, .int .i64 kk.a1, .int .i64 kk.a2] 45))
  have hK := Lib.hid fun (x : World) (h : Bx w (kaK w1.heap.size kk ++ isK w (.slice A g.ns c) (.slice FA g.nf fc) (.slice MA g.nm mc) (.slice ZA W.nz zc) (.slice (some ⟨wb, wo, none⟩) W.nf wq)) x) => show x.cell? ⟨w1.heap.size, 0, none⟩ = some (.int .i64 kk.a0) ∧ x.cell? ⟨w1.heap.size, 1, none⟩ = some (.int .i64 kk.a1) ∧ x.cell? ⟨w1.heap.size, 2, none⟩ = some (.int .i64 kk.a2) ∧ x.cell? ⟨w.heap.size + 1, 1, none⟩ = some (.slice (some ⟨wb, wo, none⟩) W.nf wq) ∧ x.cell? ⟨wb, wo + fi * 2, none⟩ = some (.slice rA (W.F fi).nr rc) ∧ x.cell? ⟨wb, wo + fi * 2 + 1, none⟩ = some (.int .i64 (W.F fi).els) from
    ⟨h.left.cells.1.1, h.left.cells.2.1.1, h.left.cells.2.2.1.1, h.right.cells.2.1.1, (h.bel.cell (p := ⟨wb, wo + fi * 2, none⟩) hwb).trans y0, (h.bel.cell (p := ⟨wb, wo + fi * 2 + 1, none⟩) hwb).trans y1⟩
  have heqk : Hid (∀ r : Rw, k3Eq r.a0 r.a1 r.a2 kk.a0 kk.a1 kk.a2 = decide (r.key = kk)) := fun r => k3Eq_eq r ⟨kk.a0, kk.a1, kk.a2, 0⟩
  have hxB : Hid (Bx w (kaK w1.heap.size kk ++ isK w (.slice A g.ns c) (.slice FA g.nf fc) (.slice MA g.nm mc) (.slice ZA W.nz zc) (.slice (some ⟨wb, wo, none⟩) W.nf wq)) (w1.alloc (.cells #[.int .i64 kk.a0, .int .i64 kk.a1, .int .i64 kk.a2] 45))) := hxA.out
  obtain ⟨a, ha⟩ : ∃ a, a = w1.heap.size := ⟨_, rfl⟩
  clear y0 y1 hfvi hxA hx1
  go_wp2_with fail
  go_loopw [12] (fun i wr => ∃ j : Nat, j ≤ (W.F fi).nr ∧ i = .int .i64 j ∧ Hid (∀ k, k < j → ((W.F fi).R k).key ≠ kk) ∧ Hid (Bx w (kaK w1.heap.size kk ++ isK w (.slice A g.ns c) (.slice FA g.nf fc) (.slice MA g.nm mc) (.slice ZA W.nz zc) (.slice (some ⟨wb, wo, none⟩) W.nf wq)) wr)) (fun i _ => (W.F fi).nr - (intOf i).toNat)
  case atStart => exact ⟨0, Nat.zero_le _, rfl, fun k hk => absurd hk (Nat.not_lt_zero _), hxB.out⟩
  case round =>
  clear hxB
  obtain ⟨j, hj, rfl, hall, hx⟩ := hrel
  obtain ⟨k0, k1, k2, k3, k4, k5⟩ := hK.out _ hx.out
  by_cases hlt : j < (W.F fi).nr
  case neg =>
    have i1 : decide ((j : Int) < ((W.F fi).nr : Int)) = false := decide_eq_false (by omega)
    have hT := Lib.hid (hnone.out fun i hi => hall.out i (by omega))
    go_wp2_with fail
    exact bodyPost_ret (results_tmp2 rfl _ _ _) rfl ⟨by rw [hT.out]; rfl, hx.out.bel⟩
  have i1 : decide ((j : Int) < ((W.F fi).nr : Int)) = true := decide_eq_true (by omega)
  obtain ⟨rb, ro, rcc, erv, hrb, hrw⟩ := hrow.out j hlt
  injection erv with era _ erc
  subst era; subst erc
  have hrs := Lib.hid fun (x : World) (h : Bx w (kaK w1.heap.size kk ++ isK w (.slice A g.ns c) (.slice FA g.nf fc) (.slice MA g.nm mc) (.slice ZA W.nz zc) (.slice (some ⟨wb, wo, none⟩) W.nf wq)) x) => RwIn.stays (W.F fi).R hrw hrb h.bel
  obtain ⟨⟨s0, s1, s2, s3⟩, -⟩ := hrs.out _ hx.out
  have heq := heqk.out ((W.F fi).R j)
  have hj0 : (0 : Int) ≤ (j : Int) := by omega
  have hjn : (j : Int) < ((W.F fi).nr : Int) := by omega
  have hjd : decide ((W.F fi).nr ≤ j) = false := decide_eq_false (by omega)
  clear hrw
  by_cases he : ((W.F fi).R j).key = kk
  · rw [decide_eq_true he] at heq
    have hT := Lib.hid (hyes.out j hlt he)
    clear he
    go_wp2_with fail
    go_quiet (fail)
    go_wp2_with fail
    exact bodyPost_ret (results_tmp2 rfl _ _ _) rfl ⟨by rw [hT.out]; rfl, (hx.out.drewN _).bel⟩
  · rw [decide_eq_false he] at heq
    have he' := Lib.hid he
    clear he
    go_wp2_with fail
    go_quiet (fail)
    go_wp2_with fail
    go_roundw
    case rel => exact ⟨j + 1, by omega, by go_num, fun s hs => by
      by_cases e : s = j
      · subst e; exact he'.out
      · exact hall.out s (by omega), hx.out.drewN _⟩
    case measure => simp [intOf]; omega
end Go.Proofs.YtecmoahadckomaaGreat
