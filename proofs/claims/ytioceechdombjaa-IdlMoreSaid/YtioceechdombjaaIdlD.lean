/- idl.Sum. -/
import Derived.Test.YtioceechdombjaaIdlC
namespace Go.Proofs.Ytioceechdombjaa
open Go.RowKit Go.Maps
set_option maxRecDepth 100000

def sumI (N : Nat → Nd) (n : Nat) : Option Int := sumTo (gfn (numsL N n)) 2305843009213693952 (numsL N n).length
def sumIV (N : Nat → Nd) (n : Nat) : Value := sumR (gfn (numsL N n)) 2305843009213693952 (numsL N n).length

theorem sumR_form (f : Nat → Int) (m : Int) (n : Nat) : ∃ (a : Int) (b : Bool), sumR f m n = .tuple #[.int .i64 a, .bool b] := by
  unfold sumR
  split
  · exact ⟨0, false, rfl⟩
  · exact ⟨_, true, rfl⟩

set_option maxHeartbeats 4000000 in
theorem ISum_any (v : Value) (n : Nat) (N : Nat → Nd) (w : World) (hv : NdsAt w v n N) (hn : n ≤ 1000000) (hch : CheckP n N) :
    Calls Try.prog 14 #[.agg #[v]] w fun e w' => e = .returned (sumIV N n) ∧ Below w.heap.size w w' := by
  have hv' := Lib.hid hv
  have hrg := Lib.hid hv.ranges
  obtain ⟨A, c, rfl, _, _, hcs⟩ := hv
  obtain ⟨b, o, rfl, hbl, hcs⟩ := hcs (by have := hch.two; omega)
  have hcs' := Lib.hid hcs
  have hy := Lib.hid (check_yes hch)
  have hx0 := (Bx.nil w).one (.slice (some ⟨b, o, none⟩) n c) 33
  clear hcs hch
  go_enter Try.func14, Try.ntmps14
  go_wp2_with fail
  refine (Check_any _ n N _ (hv'.out.below hx0.bel) hn).mono ?_
  rintro y w2 ⟨rfl, hb2⟩
  rw [hy.out]
  have hx2 := hx0.step hb2
  obtain ⟨⟨q0, z0⟩, -⟩ := hx2.cells
  clear hb2 hx0
  go_wp2
  clear q0
  go_loopw [4, 13] (fun z i wr => ∃ j : Nat, j ≤ n ∧ i = .int .i64 j ∧ Hid (OwnL wr w.heap.size z (numsL N j)) ∧ Hid (Bx w [] wr)) (fun _ i _ => n - (intOf i).toNat)
  case atStart => exact ⟨0, Nat.zero_le _, rfl, OwnL.nil _ _, hx2.drop⟩
  case round =>
    clear hx2 z0
    obtain ⟨j, hj, rfl, hown, hx⟩ := hrel
    by_cases hlt : j < n
    · obtain ⟨e0, e1, e2, e3, e4, e5, e6, e7⟩ := (hcs'.out j hlt).below hx.out.bel hbl
      have i1 : (j : Int) < (n : Int) := by omega
      have hlen := numsL_len N j
      have hz := hx.out.bel.size
      have hxa := Lib.hid (hx.out.skip (.cells #[.int .i8 (N j).op, .int .i8 (N j).len, .int .i64 (N j).a0, .int .i64 (N j).a1, .int .i64 (N j).a2, .int .i64 (N j).sort, .int .i64 (N j).fn, .int .i64 (N j).num] 72))
      have howa := Lib.hid (hown.out.alloc (.cells #[.int .i8 (N j).op, .int .i8 (N j).len, .int .i64 (N j).a0, .int .i64 (N j).a1, .int .i64 (N j).a2, .int .i64 (N j).sort, .int .i64 (N j).fn, .int .i64 (N j).num] 72))
      have hzz := hxa.out.bel.size
      by_cases hk : (N j).op = 12 ∨ (N j).op = 11 ∨ (N j).op = 10
      · have hF : Hid (numsL N (j + 1) = numsL N j ++ [(N j).num]) := if_pos (by unfold hasNum; rcases hk with h | h | h <;> rw [h] <;> decide)
        rcases hk with h | h | h
        all_goals
          rw [h] at e0
          rw [h] at hxa howa hzz
          clear h
          go_wp2_with (at_builtin; refine wpList_app1 rfl rfl _ _ rfl w.heap.size _ _ (N j).num rfl (howa.out.alloc _) (wr.heap.size + 1) 1 rfl ?c1 ?c2 ?c3 ?_)
          case c1 => simp
          case c2 => omega
          case c3 => simp; omega
          intro v' w4 hown4 hb4 _
          go_wp2
          go_roundw
          case rel => exact ⟨j + 1, by omega, by go_num, by rw [hF.out]; exact hown4, trivial, (hxa.out.skip _).bel.trans hb4⟩
          case measure => simp [intOf]; omega
      · have hF : Hid (numsL N (j + 1) = numsL N j) := if_neg (by unfold hasNum; simp; omega)
        have d1 : ((N j).op == 12) = false := by simp; omega
        have d2 : ((N j).op == 11) = false := by simp; omega
        have d3 : ((N j).op == 10) = false := by simp; omega
        clear hk
        go_wp2
        go_roundw
        case rel => exact ⟨j + 1, by omega, by go_num, by rw [hF.out]; exact howa.out, hxa.out⟩
        case measure => simp [intOf]; omega
    · obtain hjn : j = n := by omega
      have i1 : decide ((j : Int) < (n : Int)) = false := decide_eq_false (by omega)
      rw [hjn] at hown
      have hlen := numsL_len N n
      have hints := hown.out.ints (by omega) (fun x hx => by obtain ⟨i, h1, h2⟩ := numsL_mem hx; rw [h2]; exact (hrg.out i h1).num)
      have hints' := Lib.hid hints
      clear hints hlen
      go_wp2_with fail
      refine (Sum_any _ _ _ 2305843009213693952 wr hints'.out (by omega) (by omega)).mono ?_
      rintro e w5 ⟨rfl, rfl⟩
      obtain ⟨sa, sb, hab⟩ := sumR_form (fun i => (numsL N n).getD i 0) 2305843009213693952 (numsL N n).length
      have hab' : Hid (sumIV N n = .tuple #[.int .i64 sa, .bool sb]) := hab
      rw [hab]
      clear hab
      go_wp2
      go_ret2
      exact ⟨by rw [hab'.out]; rfl, hx.out.bel⟩
end Go.Proofs.Ytioceechdombjaa
