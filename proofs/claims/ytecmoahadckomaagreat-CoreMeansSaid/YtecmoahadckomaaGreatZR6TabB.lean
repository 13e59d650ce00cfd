/- gantryref06.Table. -/
import Derived.Test.YtecmoahadckomaaGreatZR6AppR6Rule
import Derived.Test.YtecmoahadckomaaGreatZTermCToGreat5
import Derived.Test.YtecmoahadckomaaGreatZClsW
namespace Go.Proofs.YtecmoahadckomaaGreat
open Go.RowKit
set_option maxRecDepth 100000

set_option maxHeartbeats 8000000 in
theorem R6Table_any (sv fv mv tv : Value) (g : Sg) (n : Nat) (N : Nat → Nd) (w : World) (hG : SgAt w sv fv mv g) (hv : NdsAt w tv n N) (hn : n ≤ 1000000) :
    Calls Tryz.prog 16 #[.agg #[sv, fv, mv], .agg #[tv]] w fun z w' => z = .returned (.int .i64 (tabT g n N)) ∧ Below w.heap.size w w' := by
  have hG' := Lib.hid hG
  obtain ⟨A, c, rfl, -, -⟩ := hG.1
  obtain ⟨FA, fc, rfl, -, -⟩ := hG.2.1
  obtain ⟨MA, mc, rfl, -, -⟩ := hG.2.2
  have hv' := Lib.hid hv
  obtain ⟨TA, tc, rfl, hcap, hRn, hcs⟩ := hv
  have hcs' := Lib.hid hcs
  have hRn' := Lib.hid hRn
  have hx := Lib.hid (toK_bx w (.slice A g.ns c) (.slice FA g.nf fc) (.slice MA g.nm mc) (.slice TA n tc))
  have hC := Lib.hid (RCheck4_any _ _ _ g _ (hG'.out.below hx.out.bel))
  have hCt := Lib.hid fun (x : World) (hb : Below w.heap.size w x) => RCheck_any _ n N x (hv'.out.below hb) hn
  have hR : Hid (tabT g n N = if checkG g = false then 2 else if checkT n N ≠ 0 then 2 else if upTo n (fun i => okNd g N (N i)) = true then 0 else 33) := rfl
  have ht := Lib.hid (check_cases n N)
  clear hcs hRn hG
  obtain ⟨⟨k0, -⟩, ⟨k1, -⟩, ⟨k2, -⟩, ⟨k3, -⟩, -⟩ := hx.out.cells
  go_enter Tryz.func16, Tryz.ntmps16
  go_wp2_with fail
  refine hC.out.mono ?_
  rintro e w1 ⟨rfl, hb1⟩
  have hx1 := Lib.hid (hx.out.step hb1)
  clear hb1 hC hx k0 k1 k2 k3
  obtain ⟨⟨k0, -⟩, ⟨k1, -⟩, ⟨k2, -⟩, ⟨k3, -⟩, -⟩ := hx1.out.cells
  cases hk : checkG g with
  | false =>
    have hF : Hid (tabT g n N = 2) := by unfold Hid; rw [hR.out, if_pos hk]
    unfold chV
    go_wp2_with fail
    go_ret
    exact ⟨by rw [hF.out]; rfl, hx1.out.bel⟩
  | true =>
  rw [hk] at hR
  clear hk
  unfold chV
  go_wp2_with fail
  refine (hCt.out _ hx1.out.bel).mono ?_
  rintro e w2 ⟨rfl, hb2⟩
  have hx2 := Lib.hid (hx1.out.step hb2)
  clear hb2 hx1 k0 k1 k2 k3
  obtain ⟨⟨k0, -⟩, ⟨k1, -⟩, ⟨k2, -⟩, ⟨k3, -⟩, -⟩ := hx2.out.cells
  by_cases hck : checkT n N = 0
  case neg =>
    have hck2 := ht.out.resolve_left hck
    have hF : Hid (tabT g n N = 2) := by unfold Hid; rw [hR.out, if_neg (by simp), if_pos hck]
    rw [hck2]
    clear hck hck2
    go_wp2_with fail
    go_ret
    exact ⟨by rw [hF.out]; rfl, hx2.out.bel⟩
  have hR3 : Hid (tabT g n N = if upTo n (fun i => okNd g N (N i)) = true then 0 else 33) := by unfold Hid; rw [hR.out, if_neg (by simp), if_neg (fun h => h hck)]
  have hcp := Lib.hid (check_zero hck)
  have hyes : Hid ((∀ i, i < n → okNd g N (N i) = true) → tabT g n N = 0) := fun h => by rw [hR3.out, if_pos (upTo_yes h)]
  have hno : Hid (∀ i, i < n → okNd g N (N i) = false → tabT g n N = 33) := fun i hi h => by rw [hR3.out, if_neg (by rw [upTo_no hi h]; simp)]
  have hok := Lib.hid fun e => okNd_rule g N e
  rw [hck]
  clear hck hR hR3
  go_wp2_with fail
  clear k0 k1 k2 k3
  go_loopw [5, 6, 7] (fun i _ _ wr => ∃ j : Nat, j ≤ n ∧ i = .int .i64 j ∧ Hid (∀ k, k < j → okNd g N (N k) = true) ∧ Hid (Bx w (toK w (.slice A g.ns c) (.slice FA g.nf fc) (.slice MA g.nm mc) (.slice TA n tc)) wr)) (fun i _ _ _ => n - (intOf i).toNat)
  case atStart => exact ⟨0, Nat.zero_le _, rfl, fun k hk => absurd hk (Nat.not_lt_zero _), hx2.out⟩
  case round =>
    clear hx2
    obtain ⟨j, hj, rfl, hall, hx⟩ := hrel
    obtain ⟨⟨k0, -⟩, ⟨k1, -⟩, ⟨k2, -⟩, ⟨k3, -⟩, -⟩ := hx.out.cells
    by_cases hlt : j < n
    · have i1 : decide ((j : Int) < (n : Int)) = true := decide_eq_true (by omega)
      obtain ⟨b, o, rfl, hbl, hcs⟩ := hcs'.out (by omega)
      have hin := Lib.hid (InT.of (n := n) (hRn'.out j hlt) (hcp.out.all j hlt) (Int.ofNat_le.2 (Nat.le_of_lt hlt)))
      have hK := Lib.hid fun (x : World) (h : Bx w (toK w (.slice A g.ns c) (.slice FA g.nf fc) (.slice MA g.nm mc) (.slice (some ⟨b, o, none⟩) n tc)) x) => (⟨h.cells.1.1, h.cells.2.1.1, h.cells.2.2.1.1, h.cells.2.2.2.1.1, (hcs j hlt).below h.bel hbl⟩ : _ ∧ _ ∧ _ ∧ _ ∧ NdIn x b (o + j * 8) (N j))
      have hRu := Lib.hid fun (x : World) (hb : Below w.heap.size w x) => RRule_any _ _ _ _ g n N (N j) x (hG'.out.below hb) (hv'.out.below hb) hin.out
      have hokj := hok.out (N j)
      unfold ndV at hRu
      unfold opV at hRu
      unfold NdIn at hK
      generalize ruleT g N (N j) = p at *
      obtain ⟨p1, p2⟩ := p
      dsimp only at hokj hRu
      have hokj' := Lib.hid hokj
      have hj0 : (0 : Int) ≤ (j : Int) := by omega
      have hjn : (j : Int) < (n : Int) := by omega
      have hjd : decide (n ≤ j) = false := decide_eq_false (by omega)
      clear hcs hin hokj
      go_upto_region 6 with fail
      refine region_cls (fun x => Bx w (toK w (.slice A g.ns c) (.slice FA g.nf fc) (.slice MA g.nm mc) (.slice (some ⟨b, o, none⟩) n tc)) x) (by kernel_rfl) (by kernel_rfl) hx.out.drew ?_
      repeat (first
        | go_big_quiet_skip
        | (go_big_quiet_want; first
          | (go_big_quiet_op; go_big_quiet_on)
          | (unfold Oper.quiet; apply Exists.intro; refine ⟨fun x hx => ?_, ?_⟩; (obtain ⟨c0, c1, c2, c3, p0, p1, p2, p3, p4, p5, p6, p7⟩ := hK.out x hx; unfold Oper.quietAt; first
              | (go_simp; exact ⟨rfl, rfl⟩)
              | (go_simp; exact rfl)
              | (go_simp; done)
              | (go_simp; go_at_call 32; refine (hRu.out x hx.bel).mono ?_; rintro e w' ⟨rfl, hb'⟩; exact ⟨rfl, hx.step hb'⟩)
              | fail); go_simp; go_big_quiet_on)))
      refine wpQuiet_nil ?_
      rintro w6 hx6
      have hx6' := Lib.hid hx6
      clear hx6 hx k0 k1 k2 k3
      obtain ⟨k0, k1, k2, k3, q0, q1, q2, q3, q4, q5, q6, q7⟩ := hK.out w6 hx6'.out
      clear hK hRu
      cases h1 : p2 == 0 with
      | true =>
        have d1 : (p2 != 0) = false := by rw [bne, h1]; rfl
        cases h2 : p1 == (N j).sort with
        | true =>
          have h3 : (p1 != (N j).sort) = false := by rw [bne, h2]; rfl
          have hyj : Hid (okNd g N (N j) = true) := by unfold Hid; rw [hokj'.out, h1, h2]; rfl
          go_wp2_with fail
          go_roundw
          case rel => exact ⟨j + 1, by omega, by go_num, fun k hk => by
            by_cases e : k = j
            · subst e; exact hyj.out
            · exact hall.out k (by omega), hx6'.out⟩
          case measure => simp [intOf]; omega
        | false =>
          have h3 : (p1 != (N j).sort) = true := by rw [bne, h2]; rfl
          have hnj : Hid (tabT g n N = 33) := hno.out j hlt (by rw [hokj'.out, h1, h2]; rfl)
          go_wp2_with fail
          go_ret
          exact ⟨by rw [hnj.out]; rfl, hx6'.out.bel⟩
      | false =>
        have d1 : (p2 != 0) = true := by rw [bne, h1]; rfl
        have hnj : Hid (tabT g n N = 33) := hno.out j hlt (by rw [hokj'.out, h1]; rfl)
        go_wp2_with fail
        go_ret
        exact ⟨by rw [hnj.out]; rfl, hx6'.out.bel⟩
    · have i1 : decide ((j : Int) < (n : Int)) = false := decide_eq_false (by omega)
      have hy := Lib.hid (hyes.out fun i hi => hall.out i (by omega))
      go_wp2_with fail
      go_ret
      exact ⟨by rw [hy.out]; rfl, hx.out.bel⟩
end Go.Proofs.YtecmoahadckomaaGreat
