/- idl.Edges: the walk. -/
import Derived.Test.YtioceechdombjaaZIdlAIdlB
namespace Go.Proofs.Ytioceechdombjaa
open Go.RowKit Go.Maps
set_option maxRecDepth 100000

theorem take_next (xs : List Int) (j : Nat) (h : j < xs.length) : xs.take (j + 1) = xs.take j ++ [gfn xs j] := by
  rw [List.take_add_one, List.getElem?_eq_getElem h]
  unfold gfn
  rw [List.getD_eq_getElem?_getD, List.getElem?_eq_getElem h]
  rfl
theorem gfn_mem {xs : List Int} {j : Nat} (h : j < xs.length) : gfn xs j ∈ xs := by
  unfold gfn
  rw [List.getD_eq_getElem?_getD, List.getElem?_eq_getElem h]
  exact List.getElem_mem h

theorem OwnE.base {w : World} {B B' : Nat} {v : Value} {L : List Ed} (h : OwnE w B v L) (hB : B' ≤ B) : OwnE w B' v L := by
  refine ⟨h.1, ?_⟩
  rcases h.2 with h | ⟨g, cap, cur, h1, h2, h3⟩
  · exact .inl h
  · exact .inr ⟨g, cap, cur, h1, Nat.le_trans hB h2, h3⟩
theorem Bx.row1 {w x y : World} {v : Value} (h : Bx w ((w.heap.size, 0, v) :: []) x) (hb : Below (w.heap.size + 1) x y) : Bx w ((w.heap.size, 0, v) :: []) y :=
  ⟨⟨⟨(hb.cell (p := ⟨w.heap.size, 0, none⟩) (Nat.lt_succ_self _)).trans h.cells.1.1, Nat.lt_of_lt_of_le h.cells.1.2 hb.size⟩, trivial⟩, h.bel.trans (hb.mono (Nat.le_succ _))⟩

set_option maxHeartbeats 4000000 in
theorem Edges_any (v u : Value) (n : Nat) (N : Nat → Nd) (xs : List Int) (w : World) (hv : NdsAt w v n N) (hn : n ≤ 1000000) (hch : CheckP n N) (hu : IntsAt w u xs.length (gfn xs)) (hm : xs.length ≤ 1000) (hxs : ∀ x ∈ xs, badLit n N x = false) :
    Calls Try.prog 16 #[.agg #[v], u] w fun e w' => ∃ z, e = .returned z ∧ OwnE w' w.heap.size z (edsL N xs) ∧ Below w.heap.size w w' := by
  have hv' := Lib.hid hv
  obtain ⟨A, c, rfl, _, _, hcs⟩ := hv
  obtain ⟨b, o, rfl, hbl, hcs⟩ := hcs (by have := hch.two; omega)
  have hcs' := Lib.hid hcs
  obtain ⟨U, cu, rfl, _, hRu, hcu⟩ := hu
  have hcu' := Lib.hid hcu
  have hRu' := Lib.hid hRu
  have hxs' := Lib.hid hxs
  have hch' := Lib.hid hch
  clear hcs hcu hRu hxs hch
  have hx0 := (Bx.nil w).one (.slice (some ⟨b, o, none⟩) n c) 33
  have hn' := Lib.hid hn
  go_enter Try.func16, Try.ntmps16
  go_wp2
  go_loopw [4, 15] (fun z i wr => ∃ j : Nat, j ≤ xs.length ∧ i = .int .i64 j ∧ Hid (OwnE wr (w.heap.size + 1) z (edsL N (xs.take j))) ∧ Hid (Bx w ((w.heap.size, 0, .slice (some ⟨b, o, none⟩) n c) :: []) wr)) (fun _ i _ => xs.length - (intOf i).toNat)
  case atStart => exact ⟨0, Nat.zero_le _, rfl, OwnG.nil _ _ _ _ _, hx0⟩
  case round =>
    clear hx0
    obtain ⟨j, hj, rfl, hown, hx⟩ := hrel
    by_cases hlt : j < xs.length
    · obtain ⟨ub, uo, rfl, hub, hcu⟩ := hcu'.out (by omega)
      have rj := (hx.out.bel.cell (p := ⟨ub, uo + j, none⟩) hub).trans (hcu j hlt)
      have hRj := hRu'.out j hlt
      have hbj := Lib.hid (hxs'.out _ (gfn_mem hlt))
      have hap := Lib.hid ((congrArg (edsL N) (take_next xs j hlt)).trans (edsL_app N (xs.take j) (gfn xs j)))
      have i1 : decide ((j : Int) < (xs.length : Int)) = true := decide_eq_true (by omega)
      obtain ⟨⟨q0, qz⟩, -⟩ := hx.out.cells
      clear hcu
      generalize hX : gfn xs j = X at *
      clear hX
      go_wp2_with fail
      refine (diff_any w.heap.size b o n c N X wr q0 (hv'.out.below hx.out.bel) hch'.out hbj.out hRj hn'.out qz).mono ?_
      rintro e w2 ⟨rfl, hb2⟩
      have hx2 := Lib.hid (hx.out.step hb2)
      have hown2 := Lib.hid (hown.out.below hb2 (Nat.le_refl _))
      obtain ⟨⟨q2, qz2⟩, -⟩ := hx2.out.cells
      clear q0 qz rj
      cases hD : isD N X with
      | true =>
        have hap2 : Hid (edsL N (xs.take (j + 1)) = edsL N (xs.take j) ++ [edOf N X]) := by
          have := hap.out
          rwa [hD, if_pos rfl] at this
        have hD' := Lib.hid hD
        clear hD
        go_wp2_with fail
        refine (tedge_any w.heap.size b o n c N X w2 q2 (fun i hi => (hcs'.out i hi).below hx2.out.bel hbl) (by have := hx2.out.bel.size; omega) hch'.out hbj.out hRj hD'.out qz2).mono ?_
        rintro e w3 ⟨rfl, hb3⟩
        have hx3 := Lib.hid (hx2.out.step hb3)
        have hown3 := Lib.hid (hown2.out.below hb3 (Nat.le_refl _))
        have hz3 := hx3.out.bel.size
        have hl3 := edsL_len N (xs.take j)
        rw [List.length_take] at hl3
        unfold edV
        go_wp2_with (at_builtin; refine wpList_appE rfl rfl _ _ rfl (w.heap.size + 1) _ _ (edOf N X) rfl (hown3.out.alloc _) w3.heap.size 1 rfl ?c0 ?c1 ?c2 ?c3 ?c4 ?c5 ?_)
        case c0 => simp
        case c1 => simp
        case c2 => simp
        case c3 => simp
        case c4 => omega
        case c5 => simp; have := hx3.out.cells.1.2; omega
        intro v' w4 hown4 hb4
        go_wp2
        go_roundw
        case rel => exact ⟨j + 1, by omega, by go_num, by rw [hap2.out]; exact hown4, (hx3.out.skip _).row1 hb4⟩
        case measure => simp [intOf]; omega
      | false =>
        have hap2 : Hid (edsL N (xs.take (j + 1)) = edsL N (xs.take j)) := by
          have := hap.out
          rwa [hD, if_neg (by simp)] at this
        go_wp2
        go_roundw
        case rel => exact ⟨j + 1, by omega, by go_num, by rw [hap2.out]; exact hown2.out, hx2.out⟩
        case measure => simp [intOf]; omega
    · obtain hjl : j = xs.length := by omega
      have i1 : decide ((j : Int) < (xs.length : Int)) = false := decide_eq_false (by omega)
      rw [hjl, List.take_length] at hown
      go_wp2
      go_ret
      exact ⟨_, rfl, hown.out.base (Nat.le_succ _), hx.out.bel⟩
end Go.Proofs.Ytioceechdombjaa

namespace Go.Proofs.Ytioceechdombjaa
open Go.RowKit Go.Maps
set_option maxRecDepth 100000

def sumI (N : Nat → Nd) (n : Nat) : Option Int := sumTo (gfn (numsL N n)) 2305843009213693952 (numsL N n).length
def sumIV (N : Nat → Nd) (n : Nat) : Value := sumR (gfn (numsL N n)) 2305843009213693952 (numsL N n).length

theorem sumR_form (f : Nat → Int) (m : Int) (n : Nat) : ∃ (a : Int) (b : Bool), sumR f m n = .tuple #[.int .i64 a, .bool b] := by
  unfold sumR
  split
  · exact ⟨0, false, rfl⟩
  · exact ⟨_, true, rfl⟩

set_option maxHeartbeats 4000000 in
theorem ISum_any (v : Value) (n : Nat) (N : Nat → Nd) (w : World) (hv : NdsAt w v n N) (hn : n ≤ 1000000) (hch : CheckP n N) :
    Calls Try.prog 14 #[.agg #[v]] w fun e w' => e = .returned (sumIV N n) ∧ Below w.heap.size w w' := by
  have hv' := Lib.hid hv
  have hrg := Lib.hid hv.ranges
  obtain ⟨A, c, rfl, _, _, hcs⟩ := hv
  obtain ⟨b, o, rfl, hbl, hcs⟩ := hcs (by have := hch.two; omega)
  have hcs' := Lib.hid hcs
  have hy := Lib.hid (check_yes hch)
  have hx0 := (Bx.nil w).one (.slice (some ⟨b, o, none⟩) n c) 33
  clear hcs hch
  go_enter Try.func14, Try.ntmps14
  go_wp2_with fail
  refine (Check_any _ n N _ (hv'.out.below hx0.bel) hn).mono ?_
  rintro y w2 ⟨rfl, hb2⟩
  rw [hy.out]
  have hx2 := hx0.step hb2
  obtain ⟨⟨q0, z0⟩, -⟩ := hx2.cells
  clear hb2 hx0
  go_wp2
  clear q0
  go_loopw [4, 13] (fun z i wr => ∃ j : Nat, j ≤ n ∧ i = .int .i64 j ∧ Hid (OwnL wr w.heap.size z (numsL N j)) ∧ Hid (Bx w [] wr)) (fun _ i _ => n - (intOf i).toNat)
  case atStart => exact ⟨0, Nat.zero_le _, rfl, OwnL.nil _ _, hx2.drop⟩
  case round =>
    clear hx2 z0
    obtain ⟨j, hj, rfl, hown, hx⟩ := hrel
    by_cases hlt : j < n
    · obtain ⟨e0, e1, e2, e3, e4, e5, e6, e7⟩ := (hcs'.out j hlt).below hx.out.bel hbl
      have i1 : (j : Int) < (n : Int) := by omega
      have hlen := numsL_len N j
      have hz := hx.out.bel.size
      have hxa := Lib.hid (hx.out.skip (.cells #[.int .i8 (N j).op, .int .i8 (N j).len, .int .i64 (N j).a0, .int .i64 (N j).a1, .int .i64 (N j).a2, .int .i64 (N j).sort, .int .i64 (N j).fn, .int .i64 (N j).num] 72))
      have howa := Lib.hid (hown.out.alloc (.cells #[.int .i8 (N j).op, .int .i8 (N j).len, .int .i64 (N j).a0, .int .i64 (N j).a1, .int .i64 (N j).a2, .int .i64 (N j).sort, .int .i64 (N j).fn, .int .i64 (N j).num] 72))
      have hzz := hxa.out.bel.size
      by_cases hk : (N j).op = 12 ∨ (N j).op = 11 ∨ (N j).op = 10
      · have hF : Hid (numsL N (j + 1) = numsL N j ++ [(N j).num]) := if_pos (by unfold hasNum; rcases hk with h | h | h <;> rw [h] <;> decide)
        rcases hk with h | h | h
        all_goals
          rw [h] at e0
          rw [h] at hxa howa hzz
          clear h
          go_wp2_with (at_builtin; refine wpList_app1 rfl rfl _ _ rfl w.heap.size _ _ (N j).num rfl (howa.out.alloc _) (wr.heap.size + 1) 1 rfl ?c1 ?c2 ?c3 ?_)
          case c1 => simp
          case c2 => omega
          case c3 => simp; omega
          intro v' w4 hown4 hb4 _
          go_wp2
          go_roundw
          case rel => exact ⟨j + 1, by omega, by go_num, by rw [hF.out]; exact hown4, trivial, (hxa.out.skip _).bel.trans hb4⟩
          case measure => simp [intOf]; omega
      · have hF : Hid (numsL N (j + 1) = numsL N j) := if_neg (by unfold hasNum; simp; omega)
        have d1 : ((N j).op == 12) = false := by simp; omega
        have d2 : ((N j).op == 11) = false := by simp; omega
        have d3 : ((N j).op == 10) = false := by simp; omega
        clear hk
        go_wp2
        go_roundw
        case rel => exact ⟨j + 1, by omega, by go_num, by rw [hF.out]; exact howa.out, hxa.out⟩
        case measure => simp [intOf]; omega
    · obtain hjn : j = n := by omega
      have i1 : decide ((j : Int) < (n : Int)) = false := decide_eq_false (by omega)
      rw [hjn] at hown
      have hlen := numsL_len N n
      have hints := hown.out.ints (by omega) (fun x hx => by obtain ⟨i, h1, h2⟩ := numsL_mem hx; rw [h2]; exact (hrg.out i h1).num)
      have hints' := Lib.hid hints
      clear hints hlen
      go_wp2_with fail
      refine (Sum_any _ _ _ 2305843009213693952 wr hints'.out (by omega) (by omega)).mono ?_
      rintro e w5 ⟨rfl, rfl⟩
      obtain ⟨sa, sb, hab⟩ := sumR_form (fun i => (numsL N n).getD i 0) 2305843009213693952 (numsL N n).length
      have hab' : Hid (sumIV N n = .tuple #[.int .i64 sa, .bool sb]) := hab
      rw [hab]
      clear hab
      go_wp2
      go_ret2
      exact ⟨by rw [hab'.out]; rfl, hx.out.bel⟩
end Go.Proofs.Ytioceechdombjaa
