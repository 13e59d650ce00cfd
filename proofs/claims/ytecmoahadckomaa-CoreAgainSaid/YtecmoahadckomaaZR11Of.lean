/- gantryref11.Of. -/
import Derived.Test.YtecmoahadckomaaZOffDOffG
import Derived.Test.YtecmoahadckomaaZRCheck
import Derived.Test.YtecmoahadckomaaZCheckB
namespace Go.Proofs.Ytecmoahadckomaa
open Go.RowKit Go.Maps
set_option maxRecDepth 100000

def R11Post (n : Nat) (N : Nat → Nd) (id : Int) (w : World) (x : Ending) (w' : World) : Prop :=
  ∃ b k er, x = .returned (.tuple #[.int .i64 b, .int .i64 k, .int .i64 er]) ∧ OfT n N id b k er ∧ Below w.heap.size w w'
set_option maxHeartbeats 4000000 in
theorem R11Of_any (v : Value) (n : Nat) (N : Nat → Nd) (id : Int) (w : World) (hv : NdsAt w v n N) (hn : n ≤ 1000000) (hid : R64 id) :
    Calls Try.prog 16 #[.agg #[v], .int .i64 id] w (R11Post n N id w) := by
  have hv' := Lib.hid hv
  obtain ⟨A, c, rfl, -, -, hnd⟩ := hv
  have hx0 := Lib.hid ((Bx.nil w).one (.slice A n c) 24)
  have hCk := Lib.hid (RCheck_any (.slice A n c) n N _ (hv'.out.below hx0.out.bel) hn)
  obtain ⟨⟨q0, qz⟩, -⟩ := hx0.out.cells
  go_enter Try.func16, Try.ntmps16
  go_wp2_with fail
  refine hCk.out.mono ?_
  rintro e w1 ⟨rfl, hb1⟩
  have hx1 := Lib.hid (hx0.out.step hb1)
  clear hb1 hCk q0 qz hx0
  obtain ⟨⟨q0, qz⟩, -⟩ := hx1.out.cells
  rcases Classical.em (CheckP n N) with hch | hch
  case inr =>
    have hck : (checkT n N != 0) = true := by rw [check_not hch]; rfl
    have hR := Lib.hid (OfT.arg (n := n) (N := N) (id := id) (fun h => hch h.1))
    clear hch
    go_wp2_with fail
    refine bodyPost_ret (results_tmp3 rfl _ _ _) rfl ⟨0, 0, 2, rfl, hR.out, hx1.out.bel⟩
  have hck : (checkT n N != 0) = false := by rw [check_yes hch]; rfl
  have hch' := Lib.hid hch
  have h2 := hch.two
  clear hch
  by_cases h0 : id < 0
  · have d1 : decide (id < 0) = true := decide_eq_true h0
    have hR := Lib.hid (OfT.arg (n := n) (N := N) (id := id) (fun h => by omega))
    clear h0
    go_wp2_with fail
    refine bodyPost_ret (results_tmp3 rfl _ _ _) rfl ⟨0, 0, 2, rfl, hR.out, hx1.out.bel⟩
  have d1 : decide (id < 0) = false := decide_eq_false h0
  by_cases h1 : (n : Int) ≤ id
  · have d2 : decide ((n : Int) ≤ id) = true := decide_eq_true h1
    have hR := Lib.hid (OfT.arg (n := n) (N := N) (id := id) (fun h => by omega))
    clear h0 h1
    go_wp2_with fail
    refine bodyPost_ret (results_tmp3 rfl _ _ _) rfl ⟨0, 0, 2, rfl, hR.out, hx1.out.bel⟩
  have d2 : decide ((n : Int) ≤ id) = false := decide_eq_false h1
  obtain ⟨i0, rfl⟩ : ∃ i0 : Nat, id = i0 := ⟨id.toNat, by omega⟩
  have hi0 : i0 < n := by omega
  obtain ⟨tb, to_, rfl, htb, hnd⟩ := hnd (by omega)
  have hnd' := Lib.hid hnd
  have n5 := (hx1.out.bel.cell (p := ⟨tb, to_ + i0 * 8 + 5, none⟩) htb).trans (hnd i0 hi0).2.2.2.2.2.1
  have z0 : (0 : Int) ≤ (i0 : Int) := by omega
  have z1 : (i0 : Int) < (n : Int) := by omega
  have hnn : ¬ (n ≤ i0) := by omega
  clear hnd h0 h1
  by_cases hs : (N i0).sort = 1
  case neg =>
    have d3 : ((N i0).sort != 1) = true := by simpa using hs
    have hR := Lib.hid (OfT.sort hch'.out i0 hi0 rfl hs)
    clear hs
    go_wp2_with fail
    refine bodyPost_ret (results_tmp3 rfl _ _ _) rfl ⟨0, 0, 33, rfl, hR.out, hx1.out.bel⟩
  have d3 : ((N i0).sort != 1) = false := by rw [hs]; rfl
  have hs' := Lib.hid hs
  clear hs
  go_wp2_with fail
  clear q0 qz n5 d1 d2 d3 hck z0 z1
  go_loopw [1, 7] (fun a b wr => ∃ (i : Nat) (k : Int), i < n ∧ a = .int .i64 i ∧ b = .int .i64 k ∧ R64 k ∧ Hid (∀ r, OfR N i k r → OfR N i0 0 r) ∧ Hid (Bx w [(w.heap.size, 0, .slice (some ⟨tb, to_, none⟩) n c)] wr)) (fun a _ _ => (intOf a).toNat)
  case atStart => exact ⟨i0, 0, hi0, rfl, rfl, R64_0, fun _ h => h, hx1.out⟩
  case round =>
  clear hx1
  obtain ⟨i, k, hi, rfl, rfl, hk, hof, hx⟩ := hrel
  obtain ⟨⟨q0, qz⟩, -⟩ := hx.out.cells
  have nd := fun j => hx.out.bel.cell (p := ⟨tb, j, none⟩) htb
  obtain ⟨n0, n1, n2, n3, n4, n5, n6, n7⟩ := (hnd'.out i hi).keep (w' := wr) nd
  have z0 : (0 : Int) ≤ (i : Int) := by omega
  have z1 : (i : Int) < (n : Int) := by omega
  have hNm : Hid (R64 (N i).num) := (hv'.out.ranges i hi).num
  clear nd n1 n3 n4 n5 n6
  by_cases h11 : (N i).op = 11
  · have e11 : ((N i).op == 11) = true := by rw [h11]; rfl
    have e10 : ((N i).op == 10) = false := by rw [h11]; rfl
    obtain ⟨_, ha, _⟩ := hch'.out.add hi h11
    obtain ⟨a, haa⟩ : ∃ a : Nat, (N i).a0 = a := ⟨(N i).a0.toNat, by omega⟩
    have hav : (N i).a0.toNat = a := by omega
    rw [haa] at n2 ha
    cases hok : addOk k (N i).num with
    | true =>
      have hnx : Hid (∀ r, OfR N a (k + (N i).num) r → OfR N i0 0 r) := fun r h => hof.out r (.add h11 hok (by rw [hav]; exact h))
      have hkR := addOk_R hok
      have hAd := Lib.hid (RAdd_any k (N i).num wr hk hNm.out)
      rw [hok, numV_yes rfl] at hAd
      clear h11 hok haa hav
      go_wp2_with fail
      refine hAd.out.mono ?_
      rintro e w3 ⟨rfl, rfl⟩
      go_wp2_with fail
      go_roundw
      case rel => exact ⟨a, k + (N i).num, by omega, rfl, rfl, hkR, hnx, hx.out⟩
      case measure => simp [intOf]; omega
    | false =>
      have hR := Lib.hid (OfT.over hch'.out i0 hi0 rfl hs'.out (hof.out _ (.addNo h11 hok)))
      have hAd := Lib.hid (RAdd_any k (N i).num wr hk hNm.out)
      rw [hok, numV_no rfl] at hAd
      clear h11 hok haa hav
      go_wp2_with fail
      refine hAd.out.mono ?_
      rintro e w3 ⟨rfl, rfl⟩
      go_wp2_with fail
      refine bodyPost_ret (results_tmp3 rfl _ _ _) rfl ⟨0, 0, 10, rfl, hR.out, hx.out.bel⟩
  have e11 : ((N i).op == 11) = false := by simpa using h11
  by_cases h10 : (N i).op = 10
  · have e10 : ((N i).op == 10) = true := by rw [h10]; rfl
    cases hok : addOk k (N i).num with
    | true =>
      have hR := Lib.hid (OfT.ok hch'.out i0 hi0 rfl hs'.out 1 (k + (N i).num) (hof.out _ (.num h10 hok)))
      have hAd := Lib.hid (RAdd_any k (N i).num wr hk hNm.out)
      rw [hok, numV_yes rfl] at hAd
      clear h11 h10 hok
      go_wp2_with fail
      refine hAd.out.mono ?_
      rintro e w3 ⟨rfl, rfl⟩
      go_wp2_with fail
      refine bodyPost_ret (results_tmp3 rfl _ _ _) rfl ⟨1, k + (N i).num, 0, rfl, hR.out, hx.out.bel⟩
    | false =>
      have hR := Lib.hid (OfT.over hch'.out i0 hi0 rfl hs'.out (hof.out _ (.numNo h10 hok)))
      have hAd := Lib.hid (RAdd_any k (N i).num wr hk hNm.out)
      rw [hok, numV_no rfl] at hAd
      clear h11 h10 hok
      go_wp2_with fail
      refine hAd.out.mono ?_
      rintro e w3 ⟨rfl, rfl⟩
      go_wp2_with fail
      refine bodyPost_ret (results_tmp3 rfl _ _ _) rfl ⟨0, 0, 10, rfl, hR.out, hx.out.bel⟩
  have e10 : ((N i).op == 10) = false := by simpa using h10
  have hR := Lib.hid (OfT.ok hch'.out i0 hi0 rfl hs'.out i k (hof.out _ (.base h11 h10)))
  clear h11 h10
  go_wp2_with fail
  refine bodyPost_ret (results_tmp3 rfl _ _ _) rfl ⟨i, k, 0, rfl, hR.out, hx.out.bel⟩
end Go.Proofs.Ytecmoahadckomaa
