/- typing.Table. -/
import Derived.Test.YtlhnffmbjejphaaGreatZTyAppTySort
import Derived.Test.YtlhnffmbjejphaaGreatZTermCToSetBox
namespace Go.Proofs.YtlhnffmbjejphaaGreat
open Go.RowKit
set_option maxRecDepth 100000

set_option maxHeartbeats 4000000 in
theorem TTable_any (sv fv mv tv : Value) (g : Sg) (n : Nat) (N : Nat → Nd) (w : World) (hG : SgAt w sv fv mv g) (hf : FewG g) (hv : NdsAt w tv n N) (hn : n ≤ 1000000) :
    Calls Tryz.prog 25 #[.agg #[sv, fv, mv], .agg #[tv]] w fun z w' => z = .returned (.int .i64 (tabT g n N)) ∧ Below w.heap.size w w' := by
  have hG' := Lib.hid hG
  have hf' := Lib.hid hf
  obtain ⟨A, c, rfl, -, -⟩ := hG.1
  obtain ⟨FA, fc, rfl, -, -⟩ := hG.2.1
  obtain ⟨MA, mc, rfl, -, -⟩ := hG.2.2
  have hv' := Lib.hid hv
  have hn' := Lib.hid hn
  obtain ⟨TA, tc, rfl, hcap, hRn, hcs⟩ := hv
  have hcs' := Lib.hid hcs
  have hRn' := Lib.hid hRn
  have hx := Lib.hid (toK_bx w (.slice A g.ns c) (.slice FA g.nf fc) (.slice MA g.nm mc) (.slice TA n tc))
  have hC := Lib.hid (SCheck_any _ _ _ g _ (hG'.out.below hx.out.bel) hf'.out)
  have hR : Hid (tabT g n N = if checkG g = false then 2 else if checkT n N ≠ 0 then 2 else if upTo n (fun i => okNd g N (N i)) = true then 0 else 33) := rfl
  clear hcs hRn hG hf
  go_enter Tryz.func25, Tryz.ntmps25
  cases hk : checkG g with
  | false =>
    have hR2 : Hid (tabT g n N = 2) := by unfold Hid; rw [hR.out, if_pos hk]
    rw [hk] at hC
    go_wp2_with fail
    refine hC.out.mono ?_
    rintro e w1 ⟨rfl, hb1⟩
    have hx1 := Lib.hid (hx.out.step hb1)
    unfold chV
    go_wp2_with fail
    go_ret
    exact ⟨by rw [hR2.out]; rfl, hx1.out.bel⟩
  | true =>
    rw [hk] at hC hR
    have hk' := Lib.hid hk
    clear hk
    unfold chV at hC
    have ht := Lib.hid (check_cases n N)
    go_wp2_with fail
    refine hC.out.mono ?_
    rintro e w1 ⟨rfl, hb1⟩
    have hx1 := Lib.hid (hx.out.step hb1)
    obtain ⟨⟨k0, _⟩, _⟩ := hx1.out.cells
    have hT := Lib.hid (Check_any _ n N w1 (hv'.out.below hx1.out.bel) hn'.out)
    clear hb1
    go_wp2_with fail
    refine hT.out.mono ?_
    rintro e w2 ⟨rfl, hb2⟩
    have hx2 := Lib.hid (hx1.out.step hb2)
    clear k0 hb2
    by_cases hck : checkT n N = 0
    · have hR3 : Hid (tabT g n N = if upTo n (fun i => okNd g N (N i)) = true then 0 else 33) := by unfold Hid; rw [hR.out, if_neg (by simp), if_neg (fun h => h hck)]
      have hcp := Lib.hid (check_zero hck)
      rw [hck]
      have hyes : Hid ((∀ i, i < n → okNd g N (N i) = true) → tabT g n N = 0) := fun h => by rw [hR3.out, if_pos (upTo_yes h)]
      have hno : Hid (∀ i, i < n → okNd g N (N i) = false → tabT g n N = 33) := fun i hi h => by rw [hR3.out, if_neg (by rw [upTo_no hi h]; simp)]
      obtain ⟨⟨k0, _⟩, _⟩ := hx2.out.cells
      clear hck hR hR3 hT hC hx hx1
      go_wp2_with fail
      clear k0
      go_loopw [6, 7, 8, 20] (fun _ _ _ i wr => ∃ j : Nat, j ≤ n ∧ i = .int .i64 j ∧ Hid (∀ k, k < j → okNd g N (N k) = true) ∧ Hid (Bx w (toK w (.slice A g.ns c) (.slice FA g.nf fc) (.slice MA g.nm mc) (.slice TA n tc)) wr)) (fun _ _ _ i _ => n - (intOf i).toNat)
      case atStart => exact ⟨0, Nat.zero_le _, rfl, fun k hk => absurd hk (Nat.not_lt_zero _), hx2.out⟩
      case round =>
        clear hx2
        obtain ⟨j, hj, rfl, hall, hx⟩ := hrel
        by_cases hlt : j < n
        · have i1 : decide ((j : Int) < (n : Int)) = true := decide_eq_true (by omega)
          obtain ⟨b, o, rfl, hbl, hcs⟩ := hcs'.out (by omega)
          obtain ⟨p0, p1, p2, p3, p4, p5, p6, p7⟩ := (hcs j hlt).below hx.out.bel hbl
          have hin := Lib.hid (InT.of (n := n) (hRn'.out j hlt) (hcp.out.all j hlt) (Int.ofNat_le.2 (Nat.le_of_lt hlt)))
          have hxA := Lib.hid (hx.out.row #[.int .i8 (N j).op, .int .i8 (N j).len, .int .i64 (N j).a0, .int .i64 (N j).a1, .int .i64 (N j).a2, .int .i64 (N j).sort, .int .i64 (N j).fn, .int .i64 (N j).num] 53)
          obtain ⟨⟨k0, _⟩, ⟨k1, _⟩, ⟨k2, _⟩, ⟨k3, _⟩, _⟩ := hx.out.cells
          clear hcs
          have hS := Lib.hid (TSort_any _ _ _ _ g n N (N j) _ (hG'.out.below hxA.out.bel) hf'.out (hv'.out.below hxA.out.bel) hin.out)
          clear hin k0 k1 k2 k3
          obtain ⟨⟨k0, _⟩, ⟨k1, _⟩, ⟨k2, _⟩, ⟨k3, _⟩, _⟩ := hxA.out.right.cells
          go_wp2_with fail
          refine hS.out.mono ?_
          rintro e w3 ⟨rfl, hb3⟩
          have hx3 := Lib.hid (hxA.out.step hb3)
          have q5 := ndK_sort hx3.out.cells
          have hok : Hid (okNd g N (N j) = (((nodeT g N (N j)).2 == 0) && ((nodeT g N (N j)).1 == (N j).sort))) := rfl
          unfold sortV
          clear hb3 hS hxA k0 k1 k2 k3 p0 p1 p2 p3 p4 p5 p6 p7
          generalize nodeT g N (N j) = pp at *
          obtain ⟨ps, pe⟩ := pp
          dsimp only at hok
          cases h1 : pe == 0 with
          | true =>
            cases h2 : ps == (N j).sort with
            | true =>
              have h3 : (ps != (N j).sort) = false := by rw [bne, h2]; rfl
              have hyj : Hid (okNd g N (N j) = true) := by unfold Hid; rw [hok.out, h1, h2]; rfl
              go_wp2_with fail
              go_roundw
              case rel => exact ⟨j + 1, by omega, by go_num, fun k hk => by
                by_cases e : k = j
                · subst e; exact hyj.out
                · exact hall.out k (by omega), hx3.out.right⟩
              case measure => simp [intOf]; omega
            | false =>
              have h3 : (ps != (N j).sort) = true := by rw [bne, h2]; rfl
              have hnj : Hid (tabT g n N = 33) := hno.out j hlt (by rw [hok.out, h1, h2]; rfl)
              go_wp2_with fail
              go_ret
              exact ⟨by rw [hnj.out]; rfl, hx3.out.bel⟩
          | false =>
            have hnj : Hid (tabT g n N = 33) := hno.out j hlt (by rw [hok.out, h1]; rfl)
            go_wp2_with fail
            go_ret
            exact ⟨by rw [hnj.out]; rfl, hx3.out.bel⟩
        · have i1 : decide ((j : Int) < (n : Int)) = false := decide_eq_false (by omega)
          have hy := Lib.hid (hyes.out fun i hi => hall.out i (by omega))
          go_wp2_with fail
          go_ret
          exact ⟨by rw [hy.out]; rfl, hx.out.bel⟩
    · have hck2 := ht.out.resolve_left hck
      have hR3 : Hid (tabT g n N = 2) := by unfold Hid; rw [hR.out, if_neg (by simp), if_pos hck]
      rw [hck2]
      clear hck hck2
      go_wp2_with fail
      go_ret
      exact ⟨by rw [hR3.out]; rfl, hx2.out.bel⟩
end Go.Proofs.YtlhnffmbjejphaaGreat
