/- value.asked. -/
import Derived.Test.YtlhnffmbjejphaaGreatZVMay
import Derived.Test.YtlhnffmbjejphaaGreatZTyOpTyOpB
import Derived.Laws.CopyOwn
import Derived.Deep.OwnRows
namespace Go.Proofs.YtlhnffmbjejphaaGreat
open Go.RowKit
set_option maxRecDepth 100000

theorem copy_k3 (X : World) (g : Nat) (U : Option Addr) (m cu : Nat) (A : Nat → Int) (hg : KAt X g k30) (hu : IntsAt X (.slice U m cu) m A) (hm : m ≤ 3) (ty : TypeId) :
    ∃ X', (Builtin.copy_ #[27, 27] ty #[.slice (some ⟨g, 0, none⟩) 3 3, .slice U m cu]).run Tryz.prog X = .ok (.int .i64 m) X' ∧ KAt X' g (padK m A) ∧ (∀ w B, Below B w X → B ≤ g → Below B w X') := by
  have hsz : (Tryz.prog.info? 3).map (·.size) = some 1 := by kernel_rfl
  by_cases h0 : m = 0
  · subst h0
    exact ⟨X, run_copy_none _ _ _ ty 3 _ _ _ _ _ _ Tryz.underlying27 hsz rfl, hg, fun _ _ h _ => h⟩
  · obtain ⟨U', c', e, _, _, hc⟩ := hu
    injection e with e1 _ e3
    subst e1; subst e3
    obtain ⟨b, o, rfl, hb, hc⟩ := hc (by omega)
    have h := run_copy_row (P := Tryz.prog) X 27 27 ty 3 g 0 3 3 ⟨b, o, none⟩ m cu
      #[.int .i64 0, .int .i64 0, .int .i64 0] 51 ((List.range m).map fun i => .int .i64 (A i)) Tryz.underlying27 hsz hg (by rw [List.length_map, List.length_range]; exact (Nat.min_eq_left hm).symm) ?_ (by simp; omega) ?_
    · rw [List.length_map, List.length_range] at h
      refine ⟨_, h, ?_, fun w B hw hB => below_setRow hw hB _⟩
      have e : ∀ l : Array Value, l = (k3C (padK m A)).toArray → KAt (X.setRow g l) g (padK m A) := fun l e => by rw [e]; exact hg.set _
      refine e _ ?_
      have : m = 1 ∨ m = 2 ∨ m = 3 := by omega
      rcases this with rfl | rfl | rfl <;> rfl
    · intro j v hj
      have hjm : j < m := by
        have := (List.getElem?_eq_some_iff.1 hj).1
        simpa using this
      simp [hjm] at hj
      subst hj
      have e1 : ((⟨b, o, none⟩ : Addr).add j) = ⟨b, o + j, none⟩ := by
        unfold Addr.add; split
        · next e => rw [e, Nat.add_zero]
        · rfl
      rw [e1]
      exact hc j hjm
    · intro v hv
      obtain ⟨i, _, rfl⟩ := List.mem_map.1 hv
      rfl
set_option maxHeartbeats 8000000 in
theorem asked_any (A FA MA ZA WA UA : Option Addr) (c fc mc zc wc uc : Nat) (g : Sg) (W : Wd) (f : Int) (m : Nat) (B : Nat → Int) (bg bw : Nat) (w : World)
    (g0 : w.cell? ⟨bg, 0, none⟩ = some (.slice A g.ns c) ∧ w.cell? ⟨bg, 1, none⟩ = some (.slice FA g.nf fc) ∧ w.cell? ⟨bg, 2, none⟩ = some (.slice MA g.nm mc)) (gz : bg < w.heap.size)
    (w0 : w.cell? ⟨bw, 0, none⟩ = some (.slice ZA W.nz zc) ∧ w.cell? ⟨bw, 1, none⟩ = some (.slice WA W.nf wc)) (wz : bw < w.heap.size)
    (hG : SgAt w (.slice A g.ns c) (.slice FA g.nf fc) (.slice MA g.nm mc) g) (hf : FewG g) (hW : WdAt w (.slice ZA W.nz zc) (.slice WA W.nf wc) W) (hw : FewW W) (hB : IntsAt w (.slice UA m uc) m B) :
    Calls Tryz.prog 107 #[.pointer (some ⟨bg, 0, none⟩), .pointer (some ⟨bw, 0, none⟩), .int .i64 f, .slice UA m uc] w fun e w' => e = .returned (.tuple #[k3V (askT g W f m B).1, .int .i64 (askT g W f m B).2]) ∧ Below w.heap.size w w' := by
  have hG' := Lib.hid hG
  have hf' := Lib.hid hf
  have hW' := Lib.hid hW
  have hw' := Lib.hid hw
  have hB' := Lib.hid hB
  obtain ⟨_, _, e, ⟨hfn, hfc⟩, -⟩ := hG.2.1
  injection e with e1 _ e3
  subst e1; subst e3
  obtain ⟨_, _, e, hmn, hBr, -⟩ := hB
  have hBR := Lib.hid hBr
  clear hBr
  injection e with e1 _ e3
  subst e1; subst e3
  have hK := Lib.hid fun (x : World) (hb : Below w.heap.size w x) => show (x.cell? ⟨bg, 0, none⟩ = some (.slice A g.ns c) ∧ x.cell? ⟨bg, 1, none⟩ = some (.slice FA g.nf fc) ∧ x.cell? ⟨bg, 2, none⟩ = some (.slice MA g.nm mc) ∧ x.cell? ⟨bw, 0, none⟩ = some (.slice ZA W.nz zc) ∧ x.cell? ⟨bw, 1, none⟩ = some (.slice WA W.nf wc)) ∧ True by
    have k : ∀ b o, b < w.heap.size → x.cell? ⟨b, o, none⟩ = w.cell? ⟨b, o, none⟩ := fun b o h => hb.cell (p := ⟨b, o, none⟩) h
    exact ⟨⟨(k _ _ gz).trans g0.1, (k _ _ gz).trans g0.2.1, (k _ _ gz).trans g0.2.2, (k _ _ wz).trans w0.1, (k _ _ wz).trans w0.2⟩, trivial⟩
  have hM := Lib.hid fun (x : World) (hb : Below w.heap.size w x) => VMay_any _ _ _ _ _ g W x (hG'.out.below hb) hf'.out (hW'.out.below hb) hw'.out
  have hs0 : Hid (KAt (w.alloc (.cells #[.int .i64 0, .int .i64 0, .int .i64 0] 51)) w.heap.size k30 ∧ Below w.heap.size w (w.alloc (.cells #[.int .i64 0, .int .i64 0, .int .i64 0] 51))) := ⟨heap_alloc_new w _, (Below.refl _ _).alloc (Nat.le_refl _) _⟩
  have hR : Hid (askT g W f m B = if mayW g W = false then (k30, 2) else if f < 0 then (k30, 2) else if (g.nf : Int) ≤ f then (k30, 2) else if (m : Int) ≠ (g.F f.toNat).len then (k30, 2)
    else (padK m B, if fitB g.ns W (g.F f.toNat) (a3 (padK m B).a0 (padK m B).a1 (padK m B).a2) then 0 else 33)) := rfl
  have hml := Lib.hid fun (h : mayW g W = true) i (hi : i < g.nf) => may_len h hi
  have g0' := Lib.hid g0
  have w0' := Lib.hid w0
  clear g0 w0 hG hf hW hw
  go_enter Tryz.func107, Tryz.ntmps107
  generalize hq : mayW g W = q at *
  have hq' := Lib.hid hq
  clear hq
  cases q with
  | false =>
    have hF : Hid (askT g W f m B = (k30, 2)) := by unfold Hid; rw [hR.out, if_pos rfl]
    go_upto_region 1 with fail
    refine region_cls (fun x => KAt x w.heap.size k30 ∧ Below w.heap.size w x) (by kernel_rfl) (by kernel_rfl) ⟨hs0.out.1.step (Below.refl _ _).drew, hs0.out.2.drew⟩ ?_
    repeat (first
      | go_big_quiet_skip
      | (go_big_quiet_want; first
        | (go_big_quiet_op; go_big_quiet_on)
        | (unfold Oper.quiet; apply Exists.intro; refine ⟨fun x hx => ?_, ?_⟩; (obtain ⟨⟨c0, c1, c2, c3, c4⟩, cn⟩ := hK.out x hx.2; unfold Oper.quietAt; first
            | (go_simp; exact ⟨rfl, rfl⟩)
            | (go_simp; exact rfl)
            | (go_simp; done)
            | (go_simp; go_at_call 24; refine (hM.out x hx.2).mono ?_; rintro e w' ⟨rfl, hb'⟩; exact ⟨rfl, hx.1.step hb', hx.2.trans (hb'.mono hx.2.size)⟩)
            | fail); go_simp; go_big_quiet_on)))
    refine wpQuiet_nil ?_
    rintro w8 ⟨hk8, hb8⟩
    obtain ⟨z0, z1, z2⟩ := hk8.cells
    all_goals go_wp2_with (refine wpList_storeK rfl rfl _ _ rfl w.heap.size rfl k30 hk8 k30 rfl ?_)
    all_goals exact bodyPost_ret (results_k3 rfl _ _ w.heap.size k30 rfl (hk8.set k30)) rfl ⟨by rw [hF.out]; rfl, below_setRow hb8 (Nat.le_refl _) _⟩
  | true =>
  by_cases h1 : f < 0
  · have d1 : decide (f < 0) = true := decide_eq_true h1
    have hF : Hid (askT g W f m B = (k30, 2)) := by unfold Hid; rw [hR.out, if_neg (by simp), if_pos h1]
    clear h1
    go_upto_region 1 with fail
    refine region_cls (fun x => KAt x w.heap.size k30 ∧ Below w.heap.size w x) (by kernel_rfl) (by kernel_rfl) ⟨hs0.out.1.step (Below.refl _ _).drew, hs0.out.2.drew⟩ ?_
    repeat (first
      | go_big_quiet_skip
      | (go_big_quiet_want; first
        | (go_big_quiet_op; go_big_quiet_on)
        | (unfold Oper.quiet; apply Exists.intro; refine ⟨fun x hx => ?_, ?_⟩; (obtain ⟨⟨c0, c1, c2, c3, c4⟩, cn⟩ := hK.out x hx.2; unfold Oper.quietAt; first
            | (go_simp; exact ⟨rfl, rfl⟩)
            | (go_simp; exact rfl)
            | (go_simp; done)
            | (go_simp; go_at_call 24; refine (hM.out x hx.2).mono ?_; rintro e w' ⟨rfl, hb'⟩; exact ⟨rfl, hx.1.step hb', hx.2.trans (hb'.mono hx.2.size)⟩)
            | fail); go_simp; go_big_quiet_on)))
    refine wpQuiet_nil ?_
    rintro w8 ⟨hk8, hb8⟩
    obtain ⟨z0, z1, z2⟩ := hk8.cells
    all_goals go_wp2_with (refine wpList_storeK rfl rfl _ _ rfl w.heap.size rfl k30 hk8 k30 rfl ?_)
    all_goals exact bodyPost_ret (results_k3 rfl _ _ w.heap.size k30 rfl (hk8.set k30)) rfl ⟨by rw [hF.out]; rfl, below_setRow hb8 (Nat.le_refl _) _⟩
  have d1 : decide (f < 0) = false := decide_eq_false h1
  by_cases h2 : (g.nf : Int) ≤ f
  · have d2 : decide ((g.nf : Int) ≤ f) = true := decide_eq_true h2
    have hF : Hid (askT g W f m B = (k30, 2)) := by unfold Hid; rw [hR.out, if_neg (by simp), if_neg h1, if_pos h2]
    clear h1 h2
    go_upto_region 1 with fail
    refine region_cls (fun x => KAt x w.heap.size k30 ∧ Below w.heap.size w x) (by kernel_rfl) (by kernel_rfl) ⟨hs0.out.1.step (Below.refl _ _).drew, hs0.out.2.drew⟩ ?_
    repeat (first
      | go_big_quiet_skip
      | (go_big_quiet_want; first
        | (go_big_quiet_op; go_big_quiet_on)
        | (unfold Oper.quiet; apply Exists.intro; refine ⟨fun x hx => ?_, ?_⟩; (obtain ⟨⟨c0, c1, c2, c3, c4⟩, cn⟩ := hK.out x hx.2; unfold Oper.quietAt; first
            | (go_simp; exact ⟨rfl, rfl⟩)
            | (go_simp; exact rfl)
            | (go_simp; done)
            | (go_simp; go_at_call 24; refine (hM.out x hx.2).mono ?_; rintro e w' ⟨rfl, hb'⟩; exact ⟨rfl, hx.1.step hb', hx.2.trans (hb'.mono hx.2.size)⟩)
            | fail); go_simp; go_big_quiet_on)))
    refine wpQuiet_nil ?_
    rintro w8 ⟨hk8, hb8⟩
    obtain ⟨z0, z1, z2⟩ := hk8.cells
    all_goals go_wp2_with (refine wpList_storeK rfl rfl _ _ rfl w.heap.size rfl k30 hk8 k30 rfl ?_)
    all_goals exact bodyPost_ret (results_k3 rfl _ _ w.heap.size k30 rfl (hk8.set k30)) rfl ⟨by rw [hF.out]; rfl, below_setRow hb8 (Nat.le_refl _) _⟩
  have d2 : decide ((g.nf : Int) ≤ f) = false := decide_eq_false h2
  have hR1 : Hid (askT g W f m B = if (m : Int) ≠ (g.F f.toNat).len then (k30, 2) else (padK m B, if fitB g.ns W (g.F f.toNat) (a3 (padK m B).a0 (padK m B).a1 (padK m B).a2) then 0 else 33)) := by unfold Hid; rw [hR.out, if_neg (by simp), if_neg h1, if_neg h2]
  obtain ⟨fi, rfl⟩ : ∃ fi : Nat, f = fi := ⟨f.toNat, by omega⟩
  have hfi : fi < g.nf := by omega
  have d2n : decide (g.nf ≤ fi) = false := decide_eq_false (by omega)
  rw [show ((fi : Nat) : Int).toNat = fi by omega] at hR1
  obtain ⟨fb, fo, fcc, e, hfb, hfn0⟩ := RowAt.cells_at hG'.out.2.1 hfi
  injection e with e _ ec
  subst e; subst ec
  have hlies := Lib.hid hfn0.1
  have hfR := Lib.hid hfn0.2
  obtain ⟨_, fl, _⟩ := hfn0.1
  have hKK := Lib.hid fun (x : World) (hb : Below w.heap.size w x) => show (x.cell? ⟨bg, 0, none⟩ = some (.slice A g.ns c) ∧ x.cell? ⟨bg, 1, none⟩ = some (.slice (some ⟨fb, fo, none⟩) g.nf fc) ∧ x.cell? ⟨bg, 2, none⟩ = some (.slice MA g.nm mc) ∧ x.cell? ⟨bw, 0, none⟩ = some (.slice ZA W.nz zc) ∧ x.cell? ⟨bw, 1, none⟩ = some (.slice WA W.nf wc)) ∧ x.cell? ⟨fb, fo + fi * 6 + 1, none⟩ = some (.int .i64 (g.F fi).len) from ⟨(hK.out x hb).1, (hb.cell (p := ⟨fb, fo + fi * 6 + 1, none⟩) hfb).trans fl⟩
  clear hK fl hfn0
  have hK := hKK
  clear hKK hR h1 h2
  have hfi0 : (0 : Int) ≤ (fi : Int) := by omega
  have hfi1 : (fi : Int) < (g.nf : Int) := by omega
  have hlen3 := Lib.hid (hml.out rfl fi hfi)
  clear hml
  by_cases h3 : (m : Int) = (g.F fi).len
  case neg =>
    have d3 : ((m : Int) != (g.F fi).len) = true := by simpa using h3
    have hF : Hid (askT g W fi m B = (k30, 2)) := by unfold Hid; rw [hR1.out, if_pos h3]
    clear h3
    go_upto_region 1 with fail
    refine region_cls (fun x => KAt x w.heap.size k30 ∧ Below w.heap.size w x) (by kernel_rfl) (by kernel_rfl) ⟨hs0.out.1.step (Below.refl _ _).drew, hs0.out.2.drew⟩ ?_
    repeat (first
      | go_big_quiet_skip
      | (go_big_quiet_want; first
        | (go_big_quiet_op; go_big_quiet_on)
        | (unfold Oper.quiet; apply Exists.intro; refine ⟨fun x hx => ?_, ?_⟩; (obtain ⟨⟨c0, c1, c2, c3, c4⟩, cn⟩ := hK.out x hx.2; unfold Oper.quietAt; first
            | (go_simp; exact ⟨rfl, rfl⟩)
            | (go_simp; exact rfl)
            | (go_simp; done)
            | (go_simp; go_at_call 24; refine (hM.out x hx.2).mono ?_; rintro e w' ⟨rfl, hb'⟩; exact ⟨rfl, hx.1.step hb', hx.2.trans (hb'.mono hx.2.size)⟩)
            | fail); go_simp; go_big_quiet_on)))
    refine wpQuiet_nil ?_
    rintro w8 ⟨hk8, hb8⟩
    obtain ⟨z0, z1, z2⟩ := hk8.cells
    all_goals go_wp2_with (refine wpList_storeK rfl rfl _ _ rfl w.heap.size rfl k30 hk8 k30 rfl ?_)
    all_goals exact bodyPost_ret (results_k3 rfl _ _ w.heap.size k30 rfl (hk8.set k30)) rfl ⟨by rw [hF.out]; rfl, below_setRow hb8 (Nat.le_refl _) _⟩
  have d3 : ((m : Int) != (g.F fi).len) = false := by simpa using h3
  have hR2 : Hid (askT g W fi m B = (padK m B, if fitB g.ns W (g.F fi) (a3 (padK m B).a0 (padK m B).a1 (padK m B).a2) then 0 else 33)) := by unfold Hid; rw [hR1.out, if_neg (fun h => h h3)]
  have hm3 : m ≤ 3 := by have := hlen3.out; omega
  clear h3 hR1
  go_upto_region 1 with fail
  refine region_cls (fun x => KAt x w.heap.size k30 ∧ Below w.heap.size w x) (by kernel_rfl) (by kernel_rfl) ⟨hs0.out.1.step (Below.refl _ _).drew, hs0.out.2.drew⟩ ?_
  repeat (first
    | go_big_quiet_skip
    | (go_big_quiet_want; first
      | (go_big_quiet_op; go_big_quiet_on)
      | (unfold Oper.quiet; apply Exists.intro; refine ⟨fun x hx => ?_, ?_⟩; (obtain ⟨⟨c0, c1, c2, c3, c4⟩, cn⟩ := hK.out x hx.2; unfold Oper.quietAt; first
          | (go_simp; exact ⟨rfl, rfl⟩)
          | (go_simp; exact rfl)
          | (go_simp; done)
          | (go_simp; go_at_call 24; refine (hM.out x hx.2).mono ?_; rintro e w' ⟨rfl, hb'⟩; exact ⟨rfl, hx.1.step hb', hx.2.trans (hb'.mono hx.2.size)⟩)
          | fail); go_simp; go_big_quiet_on)))
  refine wpQuiet_nil ?_
  rintro w8 ⟨hk8, hb8⟩
  obtain ⟨X', hcp, hkX, hbX⟩ := copy_k3 w8 w.heap.size UA m uc B hk8 (hB'.out.below hb8) hm3 3
  have hbX' := Lib.hid (hbX w _ hb8 (Nat.le_refl _))
  have hkX' := Lib.hid hkX
  clear hbX hkX hs0 d1 d2 d3 hM
  have hkR : Hid (K3R (padK m B)) := ⟨padZ_R hBR.out 0, padZ_R hBR.out 1, padZ_R hBR.out 2⟩
  generalize padK m B = kk at *
  have hFi := Lib.hid fun (x : World) (hb : Below w.heap.size w x) => show Calls Tryz.prog 49 #[.pointer (some ⟨bg, 0, none⟩), .pointer (some ⟨bw, 0, none⟩), .pointer (some ⟨fb, fo + fi * 6, none⟩), .agg #[.int .i64 kk.a0, .int .i64 kk.a1, .int .i64 kk.a2]] x fun e w' => e = .returned (.bool (fitB g.ns W (g.F fi) (a3 kk.a0 kk.a1 kk.a2))) ∧ Below x.heap.size x w' by
    obtain ⟨⟨g1, g2, g3, g4, g5⟩, -⟩ := hK.out x hb
    exact fits_any A (some ⟨fb, fo, none⟩) MA ZA WA g.ns g.nf g.nm W.nf c fc mc zc wc W (g.F fi) _ _ _ _ _ _ _ x ⟨g1, g2, g3⟩ (Nat.lt_of_lt_of_le gz hb.size) ⟨g4, g5⟩ (Nat.lt_of_lt_of_le wz hb.size) (hlies.out.keep fun j => hb.cell (p := ⟨fb, j, none⟩) hfb) (Nat.lt_of_lt_of_le hfb hb.size) hfR.out (hW'.out.1.below hb) hw'.out.nz hkR.out.a0 hkR.out.a1 hkR.out.a2
  generalize hqf : fitB g.ns W (g.F fi) (a3 kk.a0 kk.a1 kk.a2) = qf at *
  clear hqf
  go_wp2_with fail
  clear hcp
  go_upto_region 4 with fail
  refine region_cls (fun x => KAt x w.heap.size kk ∧ Below w.heap.size w x) (by kernel_rfl) (by kernel_rfl) ⟨hkX'.out.step (Below.refl _ _).drew, hbX'.out.drew⟩ ?_
  repeat (first
    | go_big_quiet_skip
    | (go_big_quiet_want; first
      | (go_big_quiet_op; go_big_quiet_on)
      | (unfold Oper.quiet; apply Exists.intro; refine ⟨fun x hx => ?_, ?_⟩; (obtain ⟨⟨⟨c0, c1, c2, c3, c4⟩, cn⟩, ⟨z0, z1, z2⟩⟩ := And.intro (hK.out x hx.2) hx.1.cells; unfold Oper.quietAt; first
          | (go_simp; exact ⟨rfl, rfl⟩)
          | (go_simp; exact rfl)
          | (go_simp; done)
          | (go_simp; go_at_call 49; refine (hFi.out x hx.2).mono ?_; rintro e w' ⟨rfl, hb'⟩; exact ⟨rfl, hx.1.step hb', hx.2.trans (hb'.mono hx.2.size)⟩)
          | fail); go_simp; go_big_quiet_on)))
  refine wpQuiet_nil ?_
  rintro w9 ⟨hk9, hb9⟩
  obtain ⟨z0, z1, z2⟩ := hk9.cells
  cases qf with
  | true =>
    all_goals go_wp2_with (refine wpList_storeK rfl rfl _ _ rfl w.heap.size rfl kk hk9 kk rfl ?_)
    all_goals exact bodyPost_ret (results_k3 rfl _ _ w.heap.size kk rfl (hk9.set kk)) rfl ⟨by rw [hR2.out]; rfl, below_setRow hb9 (Nat.le_refl _) _⟩
  | false =>
    all_goals go_wp2_with (refine wpList_storeK rfl rfl _ _ rfl w.heap.size rfl kk hk9 kk rfl ?_)
    all_goals exact bodyPost_ret (results_k3 rfl _ _ w.heap.size kk rfl (hk9.set kk)) rfl ⟨by rw [hR2.out]; rfl, below_setRow hb9 (Nat.le_refl _) _⟩
end Go.Proofs.YtlhnffmbjejphaaGreat

namespace Go.Proofs.YtlhnffmbjejphaaGreat
open Go.RowKit
set_option maxRecDepth 100000

set_option maxHeartbeats 4000000 in
theorem VApp_any (sv fv mv zv wv uv : Value) (g : Sg) (W : Wd) (f : Int) (m : Nat) (B : Nat → Int) (w : World) (hG : SgAt w sv fv mv g) (hf : FewG g) (hW : WdAt w zv wv W) (hw : FewW W) (hB : IntsAt w uv m B) :
    Calls Tryz.prog 68 #[.agg #[sv, fv, mv], .agg #[zv, wv], .int .i64 f, uv] w fun e w' => e = .returned (.tuple #[.int .i64 (valT g W f m B).1, .int .i64 (valT g W f m B).2]) ∧ Below w.heap.size w w' := by
  have hG' := Lib.hid hG
  have hf' := Lib.hid hf
  have hW' := Lib.hid hW
  have hw' := Lib.hid hw
  have hB' := Lib.hid hB
  obtain ⟨A, c, rfl, -, -⟩ := hG.1
  obtain ⟨FA, fc, rfl, ⟨hfn, hfc⟩, -⟩ := hG.2.1
  obtain ⟨MA, mc, rfl, -, -⟩ := hG.2.2
  obtain ⟨ZA, zc, rfl, -, -, -⟩ := hW.1
  obtain ⟨WA, wc, rfl, ⟨hwn, hwc⟩, -⟩ := hW.2
  obtain ⟨UA, uc, rfl, hmn, hBR, -⟩ := hB
  have hBR' := Lib.hid hBR
  have hx := Lib.hid (isK_bx w (.slice A g.ns c) (.slice FA g.nf fc) (.slice MA g.nm mc) (.slice ZA W.nz zc) (.slice WA W.nf wc))
  obtain ⟨⟨k0, s0⟩, ⟨k1, -⟩, ⟨k2, s2⟩, ⟨k3, -⟩, ⟨k4, -⟩, -⟩ := hx.out.cells
  have hA := Lib.hid (asked_any A FA MA ZA WA UA c fc mc zc wc uc g W f m B _ _ _ ⟨k2, k3, k4⟩ s2 ⟨k0, k1⟩ s0 (hG'.out.below hx.out.bel) hf'.out (hW'.out.below hx.out.bel) hw'.out (hB'.out.below hx.out.bel))
  have hok := Lib.hid fun h => ask_ok (g := g) (W := W) (f := f) (m := m) (A := B) h
  have hkR := Lib.hid (askK_R (g := g) (W := W) (f := f) (m := m) (A := B) hBR)
  have hR : Hid (valT g W f m B = if (askT g W f m B).2 = 0 then (rowV (W.F f.toNat) (askT g W f m B).1, 0) else (0, (askT g W f m B).2)) := rfl
  clear hG hf hW hw k0 k1 k2 k3 k4 s0 s2 hBR
  generalize askT g W f m B = at_ at *
  obtain ⟨kk, er⟩ := at_
  dsimp only at hok hkR hR hA
  go_enter Tryz.func68, Tryz.ntmps68
  go_wp2_with fail
  refine hA.out.mono ?_
  rintro e w1 ⟨rfl, hb1⟩
  have hx1 := Lib.hid (hx.out.step hb1)
  clear hA hx hb1
  by_cases he : er = 0
  case neg =>
    have d1 : (er != 0) = true := by simpa using he
    have hF : Hid (valT g W f m B = (0, er)) := by unfold Hid; rw [hR.out, if_neg he]
    clear he
    unfold k3V
    go_wp2_with fail
    exact bodyPost_ret (results_tmp2 rfl _ _ _) rfl ⟨by rw [hF.out]; rfl, hx1.out.bel.alloc hx1.out.bel.size _⟩
  subst he
  obtain ⟨hmay, ⟨hf0, hf1⟩, hml, -, hfit⟩ := hok.out rfl
  obtain ⟨fi, rfl⟩ : ∃ fi : Nat, f = fi := ⟨f.toNat, by omega⟩
  have hnf := mayW_nf hmay
  have hfi : fi < W.nf := by omega
  have hfi0 : (0 : Int) ≤ (fi : Int) := by omega
  have hfi1 : (fi : Int) < (W.nf : Int) := by omega
  have hF : Hid (valT g W fi m B = (rowV (W.F fi) kk, 0)) := by unfold Hid; rw [hR.out, if_pos rfl, show ((fi : Nat) : Int).toNat = fi by omega]
  clear hmay hml hfit hnf hf0 hf1 hR hok
  obtain ⟨wb, wo, wcc, ewv, hwb, v0, v1, ⟨y0, y1⟩, hfvi⟩ := RowAt.cells_at hW'.out.2 hfi
  injection ewv with ewa _ ewc
  subst ewa; subst ewc
  obtain ⟨rA, rc, rfl, ⟨hrn, hrc⟩, -⟩ := hfvi.1
  have hv1 := hfvi.2.1
  subst hv1
  have hfvi' := Lib.hid hfvi
  have hy0 := Lib.hid y0
  have hy1 := Lib.hid y1
  have hRows := Lib.hid fun (X : World) (hb : Below w.heap.size w X) => rows_any (W.F fi) _ _ wb (wo + fi * 2) X ((hb.cell (p := ⟨wb, wo + fi * 2, none⟩) hwb).trans y0) (Nat.lt_of_lt_of_le hwb hb.size) (hfvi.below hb) (hw'.out.nr fi hfi)
  have hxA := Lib.hid ((hx1.out.row #[.int .i64 kk.a0, .int .i64 kk.a1, .int .i64 kk.a2] 51))
  clear y0 y1 hfvi
  obtain ⟨⟨k0, -⟩, ⟨k1, -⟩, -⟩ := hxA.out.right.cells
  unfold k3V
  go_wp2_with fail
  refine (hRows.out _ hxA.out.bel).mono ?_
  rintro e w3 ⟨bm, rfl, hmap, -, hb3⟩
  have hx3 := Lib.hid (hxA.out.step hb3)
  have hlk := hmap.look hkR.out
  unfold k3V at hlk
  clear hmap hb3 hxA hRows hx1 k0 k1
  obtain ⟨⟨k0, -⟩, ⟨k1, -⟩, -⟩ := hx3.out.right.cells
  obtain ⟨⟨e0, -⟩, ⟨e1, -⟩, ⟨e2, -⟩, -⟩ := hx3.out.left.cells
  have y0 := (hx3.out.bel.cell (p := ⟨wb, wo + fi * 2, none⟩) hwb).trans hy0.out
  have y1 := (hx3.out.bel.cell (p := ⟨wb, wo + fi * 2 + 1, none⟩) hwb).trans hy1.out
  have hRow : Hid (rowV (W.F fi) kk = match placeR (W.F fi).R (W.F fi).nr kk with | some x => ((W.F fi).R x.toNat).val | none => (W.F fi).els) := rfl
  have hpl := Lib.hid fun x h => placeR_some (W.F fi).R (W.F fi).nr kk x h
  generalize placeR (W.F fi).R (W.F fi).nr kk = pp at *
  cases pp with
  | none =>
    have hT : Hid (valT g W fi m B = ((W.F fi).els, 0)) := by unfold Hid; rw [hF.out, hRow.out]
    simp only [Option.getD_none, Option.isSome_none] at hlk
    go_wp2_with fail
    exact bodyPost_ret (results_tmp2 rfl _ _ _) rfl ⟨by rw [hT.out]; rfl, hx3.out.bel⟩
  | some x =>
    obtain ⟨i, hi, -, rfl⟩ := hpl.out x rfl
    have hT : Hid (valT g W fi m B = (((W.F fi).R i).val, 0)) := by unfold Hid; rw [hF.out, hRow.out]; rfl
    simp only [Option.getD_some, Option.isSome_some] at hlk
    obtain ⟨rb, ro, rcc, erv, hrb, hrw⟩ := RowAt.cells_at hfvi'.out.1 hi
    injection erv with era _ erc
    subst era; subst erc
    obtain ⟨⟨-, -, -, p3⟩, -⟩ := RwIn.stays (W.F fi).R hrw hrb hx3.out.bel
    have hi0 : (0 : Int) ≤ (i : Int) := by omega
    have hi1 : (i : Int) < ((W.F fi).nr : Int) := by omega
    clear hrw
    go_wp2_with fail
    exact bodyPost_ret (results_tmp2 rfl _ _ _) rfl ⟨by rw [hT.out]; rfl, hx3.out.bel⟩
end Go.Proofs.YtlhnffmbjejphaaGreat
