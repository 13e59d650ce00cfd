/- idl.Check. -/
import Derived.Test.YtioceechdombjaaIdlD
import Derived.Deep.RegionHeld3
namespace Go.Proofs.Ytioceechdombjaa
open Go.RowKit Go.Maps
set_option maxRecDepth 100000

/-- The edges' number, and they. -/
def icM (N : Nat → Nd) (xs : List Int) : Nat := (edsL N xs).length
def icF (N : Nat → Nd) (xs : List Int) : Nat → Ed := eF (edsL N xs)
def icK (n : Nat) (N : Nat → Nd) (xs : List Int) : Int := checkR n (icM N xs) (icF N xs)
def icB (n : Nat) (N : Nat → Nd) (xs : List Int) : Bool := badR n (icM N xs) (icF N xs)
def icP (n : Nat) (N : Nat → Nd) (xs : List Int) (i : Nat) : Int := potR n (icM N xs) (icF N xs) i
def sumOk (N : Nat → Nd) (n : Nat) : Bool := (sumI N n).isSome
def ckE (n : Nat) (N : Nat → Nd) (xs : List Int) : Int := if sumOk N n then icK n N xs else 10
def ckB (n : Nat) (N : Nat → Nd) (xs : List Int) : Bool := sumOk N n && icB n N xs
def ckL (n : Nat) (N : Nat → Nd) (xs : List Int) : List Int := if sumOk N n && (icK n N xs == 0) && !icB n N xs then (List.range n).map (fun i => icP n N xs i - icP n N xs 1) else []
theorem eds_R {n : Nat} {N : Nat → Nd} (hc : CheckP n N) (hn : n ≤ 1000000) {xs : List Int} (hxs : ∀ x ∈ xs, badLit n N x = false) : ∀ e ∈ edsL N xs, R64 e.src ∧ R64 e.dst ∧ R64 e.wt := by
  intro e he
  obtain ⟨x, hx, hd, rfl⟩ := edsL_mem.1 he
  obtain ⟨_, h1, g0, g1, g2, g3, g4, g5⟩ := diff_at hc (hxs x hx) hd
  unfold edOf R64
  split <;> refine ⟨⟨?_, ?_⟩, ⟨?_, ?_⟩, ⟨?_, ?_⟩⟩ <;> dsimp only <;> omega
theorem eds_len {N : Nat → Nd} {xs : List Int} (h : xs.length ≤ 1000) : (edsL N xs).length ≤ 1000000 := by have := edsL_len N xs; omega
theorem OwnL.base' {w : World} {B B' : Nat} {v : Value} {xs : List Int} (h : OwnL w B v xs) (hB : B' ≤ B) : OwnL w B' v xs := by
  refine ⟨h.1, ?_⟩
  rcases h.2 with h | ⟨g, cap, cur, h1, h2, h3⟩
  · exact .inl h
  · exact .inr ⟨g, cap, cur, h1, Nat.le_trans hB h2, h3⟩
theorem pot_bd {n : Nat} {N : Nat → Nd} {xs : List Int} (hk : icK n N xs = 0) (hb : icB n N xs = false) (i : Nat) : -4611686018427387904 ≤ icP n N xs i ∧ icP n N xs i ≤ 0 := ⟨pot_pin hk hb i, pot_le _ _ _ _⟩

def ICPost (n : Nat) (N : Nat → Nd) (xs : List Int) (w : World) (e : Ending) (w' : World) : Prop :=
  ∃ z, e = .returned (.tuple #[z, .bool (ckB n N xs), .int .i64 (ckE n N xs)]) ∧ OwnL w' w.heap.size z (ckL n N xs) ∧ Below w.heap.size w w'

set_option maxHeartbeats 4000000 in
theorem ICheck_any (v u : Value) (n : Nat) (N : Nat → Nd) (xs : List Int) (w : World) (hv : NdsAt w v n N) (hn : n ≤ 4096) (hch : CheckP n N) (hu : IntsAt w u xs.length (gfn xs)) (hm : xs.length ≤ 1000) (hxs : ∀ x ∈ xs, badLit n N x = false) :
    Calls Try.prog 13 #[.agg #[v], u] w (ICPost n N xs w) := by
  have hv' := Lib.hid hv
  have hu' := Lib.hid hu
  have hmay : Hid (mayT n N xs.length (gfn xs) = true) := by
    unfold Hid
    rw [mayT_chk hch, Bool.not_eq_true', anyBadL_iff]
    exact fun i hi => hxs _ (gfn_mem hi)
  have hER := Lib.hid (eds_R hch (by omega) hxs)
  have hxs' := Lib.hid hxs
  have hch' := Lib.hid hch
  have h2 := hch.two
  obtain ⟨A, c, rfl, _, _, hcs⟩ := hv
  obtain ⟨b, o, rfl, hbl, hcs⟩ := hcs (by omega)
  obtain ⟨U, cu, rfl, _, _, _⟩ := hu
  have hx0 := (Bx.nil w).one (.slice (some ⟨b, o, none⟩) n c) 33
  clear hcs hch hxs
  go_enter Try.func13, Try.ntmps13
  go_wp2_with fail
  refine (AMay_any _ _ n xs.length N (gfn xs) _ (hv'.out.below hx0.bel) (by omega) (hu'.out.below hx0.bel)).mono ?_
  rintro e w2 ⟨rfl, hb2⟩
  rw [hmay.out]
  have hx2 := hx0.step hb2
  obtain ⟨⟨q0, _⟩, -⟩ := hx2.cells
  go_wp2_with fail
  refine (ISum_any _ n N w2 (hv'.out.below hx2.bel) (by omega) hch'.out).mono ?_
  rintro e w3 ⟨rfl, hb3⟩
  have hx3 := hx2.step hb3
  obtain ⟨⟨q3, z3⟩, -⟩ := hx3.cells
  clear q0 hb2 hb3 hx0 hx2
  cases hs : sumI N n with
  | none =>
    have hsv : sumIV N n = .tuple #[.int .i64 0, .bool false] := by unfold sumIV sumR; unfold sumI at hs; rw [hs]
    have hso : sumOk N n = false := by unfold sumOk; rw [hs]; rfl
    have hR : Hid (ckB n N xs = false ∧ ckE n N xs = 10 ∧ ckL n N xs = []) := ⟨by unfold ckB; rw [hso]; rfl, by unfold ckE; rw [hso]; rfl, by unfold ckL; rw [hso]; rfl⟩
    rw [hsv]
    clear hs hsv hso
    go_wp2
    refine bodyPost_ret (results_tmp3 rfl _ _ _) rfl ⟨_, by rw [hR.out.1, hR.out.2.1]; rfl, by rw [hR.out.2.2]; exact OwnL.nil _ _, hx3.bel⟩
  | some s =>
    have hsv : sumIV N n = .tuple #[.int .i64 s, .bool true] := by unfold sumIV sumR; unfold sumI at hs; rw [hs]
    have hso : sumOk N n = true := by unfold sumOk; rw [hs]; rfl
    rw [hsv]
    clear hs hsv
    have hEC := Edges_any _ _ n N xs w3.drew (hv'.out.below hx3.drew.bel) (by omega) hch'.out (hu'.out.below hx3.drew.bel) hm hxs'.out
    have hS0 : w3.drew.cell? ⟨w.heap.size, 0, none⟩ = some (.slice (some ⟨b, o, none⟩) n c) := q3
    have hx3' := Lib.hid hx3
    have hPC := fun z x (h : OwnE x w3.drew.heap.size z (edsL N xs)) => Pots_any (n : Int) z (icM N xs) (icF N xs) x (h.eds (eds_len hm) hER.out) (eds_len hm) (by omega) (by omega)
    clear hx3
    go_wp2
    go_region_held3 (fun y => y.cell? ⟨w.heap.size, 0, none⟩ = some (.slice (some ⟨b, o, none⟩) n c))
      (first | exact hS0 | exact hS1 | exact hS2 | fail)
      (first | (go_at_call 16; (with_reducible refine Calls.mono hEC ?_); rintro e w5 ⟨z5, rfl, ho5, hb5⟩; have hS1 := (hx3'.out.drew.step hb5).cells.1.1; have hP5 := hPC z5 w5 ho5)
             | (go_at_call 31; (with_reducible refine Calls.mono hP5 ?_); rintro e w6 ⟨u6, rfl, hI6, hb6⟩; have hS2 := ((hx3'.out.drew.step hb5).step hb6).cells.1.1))
    have hx6 := Lib.hid ((hx3'.out.drew.step hb5).step hb6)
    have hKe : checkR (n : Int) (icM N xs) (icF N xs) = icK n N xs := rfl
    have hBe : badR (n : Int) (icM N xs) (icF N xs) = icB n N xs := rfl
    have hPe : potR (n : Int) (icM N xs) (icF N xs) = icP n N xs := rfl
    rw [hKe, hBe]
    rw [hPe] at hI6
    clear hEC hPC hP5 hS0 hS1 hS2 hb5 hb6 ho5 hKe hPe q3 hx3'
    cases hb : icB n N xs with
    | true =>
      have hk : icK n N xs = 0 := by
        have := hb
        unfold icB badR at this
        exact (of_decide_eq_true this).1
      have hR : Hid (ckB n N xs = true ∧ ckE n N xs = 0 ∧ ckL n N xs = []) := ⟨by unfold ckB; rw [hso, hb]; rfl, by unfold ckE; rw [hso, if_pos rfl]; exact hk, by unfold ckL; rw [hso, hb]; simp⟩
      rw [hk]
      clear hb hk hBe hI6
      go_wp2
      exact bodyPost_ret (results_tmp3 rfl _ _ _) rfl ⟨_, by rw [hR.out.1, hR.out.2.1]; rfl, by rw [hR.out.2.2]; exact OwnL.nil _ _, hx6.out.bel⟩
    | false =>
      by_cases hk : icK n N xs = 0
      · have hl : lenR (n : Int) (icM N xs) (icF N xs) = n := by
          have := (good_facts (n := (n : Int)) (m := icM N xs) (E := icF N xs) hk (hBe.trans hb)).1
          rw [this]; rfl
        have hR : Hid (ckB n N xs = false ∧ ckE n N xs = 0 ∧ ckL n N xs = (List.range n).map (fun i => icP n N xs i - icP n N xs 1)) := ⟨by unfold ckB; rw [hso, hb]; rfl, by unfold ckE; rw [hso, if_pos rfl]; exact hk, by unfold ckL; rw [hso, hb, hk]; simp⟩
        have hbd := fun i => pot_bd hk hb i
        rw [hl] at hI6
        obtain ⟨P6, c6, rfl, _, _, hc6⟩ := hI6
        obtain ⟨pb, po, rfl, hpb, hc6⟩ := hc6 (by omega)
        have hc6' := Lib.hid hc6
        have hbd' := Lib.hid hbd
        rw [hk]
        clear hb hk hBe hl hc6 hbd
        generalize icP n N xs = p at *
        go_wp2
        go_loopw [4, 43] (fun z i wr => ∃ j : Nat, j ≤ n ∧ i = .int .i64 j ∧ Hid (OwnL wr w6.heap.size z ((List.range j).map (fun i => p i - p 1))) ∧ Hid (Below w6.heap.size w6 wr)) (fun _ i _ => n - (intOf i).toNat)
        case atStart => exact ⟨0, Nat.zero_le _, rfl, OwnL.nil _ _, Below.refl _ _⟩
        case round =>
          obtain ⟨j, hj, rfl, hown, hbx⟩ := hrel
          have hzz := hbx.out.size
          by_cases hlt : j < n
          · have rj := (hbx.out.cell (p := ⟨pb, po + j, none⟩) hpb).trans (hc6'.out j hlt)
            have r1 := (hbx.out.cell (p := ⟨pb, po + 1, none⟩) hpb).trans (hc6'.out 1 (by omega))
            obtain ⟨b0, b1⟩ := hbd'.out j
            obtain ⟨b2, b3⟩ := hbd'.out 1
            have i1 : decide ((j : Int) < (n : Int)) = true := decide_eq_true (by omega)
            have i2 : (1 : Int) < (n : Int) := by omega
            have hw : IntKind.i64.wrap (p j - p 1) = p j - p 1 := by rw [IntKind.wrap_i64]; omega
            have hlen : ((List.range j).map (fun i => p i - p 1)).length ≤ 1000000 := by simp; omega
            go_wp2_with (at_builtin; refine wpList_app1 rfl rfl _ _ rfl w6.heap.size _ _ (p j - p 1) rfl (hown.out.alloc _) wr.heap.size 1 rfl ?c1 ?c2 ?c3 ?_)
            case c1 => simp
            case c2 => exact hlen
            case c3 => simp; omega
            intro v' w7 hown7 hb7 _
            go_wp2
            go_roundw
            case rel => exact ⟨j + 1, by omega, by go_num, by rw [List.range_succ, List.map_append]; exact hown7, (hbx.out.alloc hzz _).trans hb7⟩
            case measure => simp [intOf]; omega
          · have hjn : j = n := by omega
            have i1 : decide ((j : Int) < (n : Int)) = false := decide_eq_false (by omega)
            rw [hjn] at hown
            go_wp2
            exact bodyPost_ret (results_tmp3 rfl _ _ _) rfl ⟨u4, by rw [hR.out.1, hR.out.2.1]; rfl, by rw [hR.out.2.2]; exact hown.out.base' (hx6.out.bel.size), hx6.out.bel.trans (hbx.out.mono hx6.out.bel.size)⟩
      · have hR : Hid (ckB n N xs = false ∧ ckE n N xs = icK n N xs ∧ ckL n N xs = []) := ⟨by unfold ckB; rw [hso, hb]; rfl, by unfold ckE; rw [hso, if_pos rfl], by unfold ckL; rw [hso]; simp [hk]⟩
        have hk' : (icK n N xs != 0) = true := by simpa using hk
        clear hb hk hBe hI6
        go_wp2
        exact bodyPost_ret (results_tmp3 rfl _ _ _) rfl ⟨_, by rw [hR.out.1, hR.out.2.1]; rfl, by rw [hR.out.2.2]; exact OwnL.nil _ _, hx6.out.bel⟩
end Go.Proofs.Ytioceechdombjaa
