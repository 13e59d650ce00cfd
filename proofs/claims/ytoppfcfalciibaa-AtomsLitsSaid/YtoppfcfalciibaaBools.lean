/- atoms.Bools. -/
import Derived.Test.YtoppfcfalciibaaJoinL
namespace Go.Proofs.Ytoppfcfalciibaa
open Go.RowKit Go.Maps
set_option maxRecDepth 100000

def boolP (N : Nat → Nd) (i : Nat) : Bool := (N i).sort == 0 && (N i).op != 1
def boolsTo (N : Nat → Nd) : Nat → List Int
  | 0 => []
  | k + 1 => if boolP N k then boolsTo N k ++ [(k : Int)] else boolsTo N k
theorem bools_len (N : Nat → Nd) : ∀ k, (boolsTo N k).length ≤ k
  | 0 => Nat.le_refl _
  | k + 1 => by
    have := bools_len N k
    unfold boolsTo
    split
    · rw [List.length_append, List.length_singleton]; omega
    · omega
theorem bools_mem (N : Nat → Nd) (x : Int) : ∀ k, x ∈ boolsTo N k ↔ ∃ i : Nat, x = i ∧ i < k ∧ boolP N i = true
  | 0 => ⟨fun h => (by cases h), fun ⟨i, _, h, _⟩ => absurd h (Nat.not_lt_zero i)⟩
  | k + 1 => by
    have ih := bools_mem N x k
    unfold boolsTo
    split
    · rename_i hb
      rw [List.mem_append, ih, List.mem_singleton]
      constructor
      · rintro (⟨i, h1, h2, h3⟩ | h)
        · exact ⟨i, h1, by omega, h3⟩
        · exact ⟨k, h, by omega, hb⟩
      · rintro ⟨i, h1, h2, h3⟩
        by_cases hik : i = k
        · subst hik; exact .inr h1
        · exact .inl ⟨i, h1, by omega, h3⟩
    · rename_i hb
      rw [ih]
      constructor
      · rintro ⟨i, h1, h2, h3⟩
        exact ⟨i, h1, by omega, h3⟩
      · rintro ⟨i, h1, h2, h3⟩
        by_cases hik : i = k
        · subst hik; exact absurd h3 hb
        · exact ⟨i, h1, by omega, h3⟩

set_option maxHeartbeats 4000000 in
theorem Bools_any (v : Value) (n : Nat) (N : Nat → Nd) (w : World) (hv : NdsAt w v n N) (hn : n ≤ 1000000) (hch : CheckP n N) :
    Calls Try.prog 38 #[.agg #[v]] w (LsPost (boolsTo N n) w) := by
  have hv' := Lib.hid hv
  obtain ⟨A, c, rfl, hc, _, hcs⟩ := hv
  obtain ⟨hc0, hc1⟩ := hc
  obtain ⟨b, o, rfl, hbl, hcs⟩ := hcs (by have := hch.two; omega)
  have hcs' := Lib.hid hcs
  have hy := Lib.hid (check_yes hch)
  have hx0 := (Bx.nil w).one (.slice (some ⟨b, o, none⟩) n c) 24
  clear hcs hch
  go_enter Try.func38, Try.ntmps38
  go_wp2_with fail
  refine (Check_any _ n N _ (hv'.out.below hx0.bel) hn).mono ?_
  rintro y w2 ⟨rfl, hb2⟩
  rw [hy.out]
  have hx2 := hx0.step hb2
  obtain ⟨⟨q0, z0⟩, -⟩ := hx2.cells
  clear hb2 hx0
  go_wp2
  clear q0
  go_loopw [2, 11] (fun z i wr => ∃ j : Nat, j ≤ n ∧ i = .int .i64 j ∧ Hid (OwnL wr w.heap.size z (boolsTo N j)) ∧ Hid (Bx w [] wr)) (fun _ i _ => n - (intOf i).toNat)
  case atStart => exact ⟨0, Nat.zero_le _, rfl, OwnL.nil _ _, hx2.drop⟩
  case round =>
    clear hx2 z0
    obtain ⟨j, hj, rfl, hown, hx⟩ := hrel
    by_cases hlt : j < n
    · obtain ⟨e0, e1, e2, e3, e4, e5, e6, e7⟩ := (hcs'.out j hlt).below hx.out.bel hbl
      have i1 : (j : Int) < (n : Int) := by omega
      have hlen := bools_len N j
      have hz := hx.out.bel.size
      have hcell : (wr.alloc (.cells #[.int .i8 (N j).op, .int .i8 (N j).len, .int .i64 (N j).a0, .int .i64 (N j).a1, .int .i64 (N j).a2, .int .i64 (N j).sort, .int .i64 (N j).fn, .int .i64 (N j).num] 28)).cell? ⟨wr.heap.size, 5, none⟩ = some (.int .i64 (N j).sort) := by simp
      have hxa := Lib.hid (hx.out.skip (.cells #[.int .i8 (N j).op, .int .i8 (N j).len, .int .i64 (N j).a0, .int .i64 (N j).a1, .int .i64 (N j).a2, .int .i64 (N j).sort, .int .i64 (N j).fn, .int .i64 (N j).num] 28))
      have howa := Lib.hid (hown.out.alloc (.cells #[.int .i8 (N j).op, .int .i8 (N j).len, .int .i64 (N j).a0, .int .i64 (N j).a1, .int .i64 (N j).a2, .int .i64 (N j).sort, .int .i64 (N j).fn, .int .i64 (N j).num] 28))
      clear hcell
      by_cases hs : (N j).sort = 0
      · by_cases hop : (N j).op = 1
        · have hF : Hid (boolsTo N (j + 1) = boolsTo N j) := if_neg (by unfold boolP; rw [hop]; simp)
          have d1 : ((N j).op != 1) = false := by rw [hop]; rfl
          rw [hs] at e5
          rw [hop] at e0
          rw [hs, hop] at hxa howa
          clear hs d1 hop
          go_wp2
          go_roundw
          case rel => exact ⟨j + 1, by omega, by go_num, by rw [hF.out]; exact howa.out, hxa.out⟩
          case measure => simp [intOf]; omega
        · have hF : Hid (boolsTo N (j + 1) = boolsTo N j ++ [(j : Int)]) := if_pos (by unfold boolP; rw [hs]; simpa using hop)
          have d1 : ((N j).op != 1) = true := by simpa using hop
          rw [hs] at e5
          rw [hs] at hxa howa
          have hzz := hxa.out.bel.size
          clear hs hop
          go_wp2_with (at_builtin; refine wpList_app1 rfl rfl _ _ rfl w.heap.size _ _ (j : Int) rfl (howa.out.alloc _) (wr.heap.size + 1) 1 rfl ?c1 ?c2 ?c3 ?_)
          case c1 => simp
          case c2 => omega
          case c3 => simp; omega
          intro v' w4 hown4 hb4 _
          go_wp2
          go_roundw
          case rel => exact ⟨j + 1, by omega, by go_num, by rw [hF.out]; exact hown4, trivial, (hxa.out.skip _).bel.trans hb4⟩
          case measure => simp [intOf]; omega
      · have hF : Hid (boolsTo N (j + 1) = boolsTo N j) := if_neg (by unfold boolP; simp [hs])
        have d1 : ((N j).sort == 0) = false := by simpa using hs
        clear hs
        go_wp2
        go_roundw
        case rel => exact ⟨j + 1, by omega, by go_num, by rw [hF.out]; exact howa.out, hxa.out⟩
        case measure => simp [intOf]; omega
    · obtain rfl : j = n := by omega
      go_wp2
      go_ret
      exact ⟨_, rfl, hown.out, hx.out.bel⟩
end Go.Proofs.Ytoppfcfalciibaa
