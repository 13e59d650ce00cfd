/- The law IdlNumbers: the walk. -/
import Derived.Test.YtioceechdombjaaIdlN
import Derived.Test.YtioceechdombjaaIdlW
import Derived.Test.YtioceechdombjaaHoldR
import Derived.Test.YtioceechdombjaaAtmM
namespace Go.Proofs.Ytioceechdombjaa
open Go.RowKit Go.Maps
set_option maxRecDepth 100000

theorem icK_vals {n : Nat} {N : Nat → Nd} (hc : CheckP n N) (hn : n ≤ 4096) {xs : List Int} (hxs : ∀ x ∈ xs, badLit n N x = false) : icK n N xs = 0 ∨ icK n N xs = 10 := by
  unfold icK checkR
  rw [if_neg (by omega)]
  have he : edsB n (icF N xs) (icM N xs) = true := by
    rw [edsB_iff]
    unfold icF icM
    rw [eF_all (fun e => 0 ≤ e.src ∧ e.src < (n : Int) ∧ 0 ≤ e.dst ∧ e.dst < (n : Int))]
    intro e he
    obtain ⟨x, hx, hd, rfl⟩ := edsL_mem.1 he
    obtain ⟨_, h1, g0, g1, g2, g3, g4, g5⟩ := diff_at hc (hxs x hx) hd
    unfold edOf
    split
    · exact ⟨g0, g1, g2, g3⟩
    · exact ⟨g2, g3, g0, g1⟩
  rw [he, if_neg (by simp)]
  split
  · exact .inr rfl
  · exact .inl rfl
theorem sumI_bd {N : Nat → Nd} {n : Nat} {s : Int} (h : sumI N n = some s) : 0 ≤ s ∧ s ≤ 2305843009213693952 := sumTo_bd (by decide) h
theorem nums_facts {n : Nat} {N : Nat → Nd} (hc : CheckP n N) {xs : List Int} (hxs : ∀ x ∈ xs, badLit n N x = false) {s : Int} (hs : sumI N n = some s) (hk : icK n N xs = 0) (hb : icB n N xs = false)
    {f : Nat → Int} (hf : ∀ i, i < n → f i = icP n N xs i - icP n N xs 1) : (∀ i, i < n → -s ≤ f i ∧ f i ≤ s) ∧ holdsB n f (icM N xs) (icF N xs) = true := by
  obtain ⟨_, hfe⟩ := good_facts (n := (n : Int)) (m := icM N xs) (E := icF N xs) hk hb
  have hho : HoldL (edsL N xs) (icP n N xs) := feas_hold.1 hfe
  have hp0 := fun v => pot_le (n : Int) (icM N xs) (icF N xs) v
  have hlow := fun v => pot_in_sum hc hxs hho hp0 (fun x hx h0 v => pot_ge (n := (n : Int)) (feas_hold.2 hx) h0 v) hs v
  have hsb := sumI_bd hs
  have hbd : ∀ i, i < n → -s ≤ f i ∧ f i ≤ s := by
    intro i hi
    rw [hf i hi]
    have h1 := hlow i
    have h2 := hlow 1
    have h3 : icP n N xs i ≤ 0 := hp0 i
    have h4 : icP n N xs 1 ≤ 0 := hp0 1
    omega
  refine ⟨hbd, ?_⟩
  obtain ⟨_, _, hE, _⟩ := check_ok (n := (n : Int)) (m := icM N xs) (E := icF N xs) hk
  have hE' : EdOk n (icF N xs) (icM N xs) := hE
  unfold holdsB
  rw [Bool.and_eq_true]
  constructor
  · rw [numsB_iff]
    intro i hi
    have := hbd i hi
    unfold mayB
    simp
    omega
  · rw [hedsB_iff]
    intro i hi
    obtain ⟨s0, s1, d0, d1, w0, w1⟩ := hE' i hi
    have hff := hfe i hi
    have e1 := hf (icF N xs i).src.toNat (by omega)
    have e2 := hf (icF N xs i).dst.toNat (by omega)
    have b1 := hbd (icF N xs i).src.toNat (by omega)
    have b2 := hbd (icF N xs i).dst.toNat (by omega)
    unfold hedB atmB
    rw [Bool.and_eq_true]
    refine ⟨decide_eq_true ⟨s0, s1, d0, d1⟩, decide_eq_true ⟨by omega, by omega, ⟨w0, w1⟩, ?_⟩⟩
    rw [e1, e2]
    have hff' : icP n N xs (icF N xs i).dst.toNat ≤ icP n N xs (icF N xs i).src.toNat + (icF N xs i).wt := hff
    omega

theorem lst_len (f : Nat → Int) (m : Nat) : ((List.range m).map f).length = m := by simp
theorem lst_at (f : Nat → Int) (m i : Nat) (h : i < m) : gfn ((List.range m).map f) i = f i := by unfold gfn; simp [h]
theorem IntsAt.lst {w : World} {v : Value} {m : Nat} {f : Nat → Int} (h : IntsAt w v m f) : IntsAt w v ((List.range m).map f).length (gfn ((List.range m).map f)) := by
  rw [lst_len]
  exact h.congr fun i hi => (lst_at f m i hi).symm
theorem may_lst {n m : Nat} {N : Nat → Nd} {f : Nat → Int} (h : mayT n N m f = true) : CheckP n N ∧ ∀ x ∈ (List.range m).map f, badLit n N x = false := by
  have hc : CheckP n N := by
    rcases Classical.em (CheckP n N) with hc | hc
    · exact hc
    · rw [mayT_no hc] at h; cases h
  refine ⟨hc, fun x hx => ?_⟩
  rw [mayT_chk hc, Bool.not_eq_true', anyBadL_iff] at h
  obtain ⟨i, hi, rfl⟩ := List.mem_map.1 hx
  exact h i (List.mem_range.1 hi)

set_option maxHeartbeats 4000000 in
theorem Numbers_main (v u : Value) (n m : Nat) (N : Nat → Nd) (f : Nat → Int) (w : World) (hv : NdsAt w v n N) (hu : IntsAt w u m f) (hn : n ≤ 60) (hm : m ≤ 60) (hmay : mayT n N m f = true) :
    Calls Try.prog 4 #[.agg #[v], u] w fun x w' => x = .returned (.bool true) ∧ Below w.heap.size w w' := by
  obtain ⟨hch, hxs⟩ := may_lst hmay
  have hul := Lib.hid hu.lst
  have hlx : ((List.range m).map f).length ≤ 1000 := by simp; omega
  generalize (List.range m).map f = xs at *
  have hv' := Lib.hid hv
  have hu' := Lib.hid hu
  have hmay' := Lib.hid hmay
  have hch' := Lib.hid hch
  have hxs' := Lib.hid hxs
  have h2 := hch.two
  have hKv := icK_vals hch (by omega) hxs
  have hKv' := Lib.hid hKv
  obtain ⟨A, c, rfl, _, _, hcs⟩ := hv
  obtain ⟨b, o, rfl, hbl, hcs⟩ := hcs (by omega)
  obtain ⟨U, cu, rfl, _, _, _⟩ := hu
  have d1 : decide ((60 : Int) < (n : Int)) = false := decide_eq_false (by omega)
  have d2 : decide ((60 : Int) < (m : Int)) = false := decide_eq_false (by omega)
  have hx0 := (Bx.nil w).one (.slice (some ⟨b, o, none⟩) n c) 33
  clear hcs hch hxs hmay hKv
  go_enter Try.func4, Try.ntmps4
  go_wp2_with fail
  refine (RMay13_any _ _ n m N f _ (hv'.out.below hx0.bel) (by omega) (hu'.out.below hx0.bel)).mono ?_
  rintro e w2 ⟨rfl, hb2⟩
  rw [hmay'.out]
  have hx2 := hx0.step hb2
  obtain ⟨⟨q2, _⟩, -⟩ := hx2.cells
  go_wp2_with fail
  refine (ICheck_any _ _ n N xs w2 (hv'.out.below hx2.bel) (by omega) hch'.out (hul.out.below hx2.bel) hlx hxs'.out).mono ?_
  rintro e w3 ⟨z3, rfl, ho3, hb3⟩
  have hx3 := hx2.step hb3
  obtain ⟨⟨q3, _⟩, -⟩ := hx3.cells
  clear q2 hb2 hb3 hx0 hx2
  have hn60 := Lib.hid hn
  go_wp2_with fail
  refine (ISum_any _ n N w3 (hv'.out.below hx3.bel) (by omega) hch'.out).mono ?_
  rintro e w4 ⟨rfl, hb4⟩
  have ho4 := Lib.hid (ho3.below hb4 (Nat.le_refl _))
  have hx4 := Lib.hid (hx3.step hb4)
  obtain ⟨⟨q4, _⟩, -⟩ := hx4.out.cells
  clear q3 hb4 hx3 ho3
  cases hs : sumI N n with
  | none =>
    have hsv : sumIV N n = .tuple #[.int .i64 0, .bool false] := by unfold sumIV sumR; unfold sumI at hs; rw [hs]
    have hso : sumOk N n = false := by unfold sumOk; rw [hs]; rfl
    have hB : ckB n N xs = false := by unfold ckB; rw [hso]; rfl
    have hE : ckE n N xs = 10 := by unfold ckE; rw [hso]; rfl
    have hL : ckL n N xs = [] := by unfold ckL; rw [hso]; rfl
    rw [hsv, hB, hE]
    rw [hL] at ho4
    obtain ⟨Z, zc, rfl⟩ : ∃ Z zc, z3 = .slice Z 0 zc := by
      obtain ⟨Z, zc, h, _⟩ := ho4.out.ints (by decide) (fun x hx => by cases hx)
      exact ⟨Z, zc, h⟩
    clear hs hsv hso hB hE hL ho4
    go_wp2_with fail
    refine (wakes25_any _).mono ?_
    rintro e w5 ⟨rfl, hb5⟩
    go_wp2
    go_ret
    exact ⟨rfl, (hx4.out.step hb5).bel⟩
  | some s =>
    have hsv : sumIV N n = .tuple #[.int .i64 s, .bool true] := by unfold sumIV sumR; unfold sumI at hs; rw [hs]
    have hso : sumOk N n = true := by unfold sumOk; rw [hs]; rfl
    rw [hsv]
    clear hsv
    cases hib : icB n N xs with
    | true =>
      have hB : ckB n N xs = true := by unfold ckB; rw [hso, hib]; rfl
      have hE := ckE_zero hB
      have hL : ckL n N xs = [] := by unfold ckL; rw [hso, hib]; simp
      rw [hB, hE]
      rw [hL] at ho4
      obtain ⟨Z, zc, rfl⟩ : ∃ Z zc, z3 = .slice Z 0 zc := by
        obtain ⟨Z, zc, h, _⟩ := ho4.out.ints (by decide) (fun x hx => by cases hx)
        exact ⟨Z, zc, h⟩
      clear hs hso hB hE hL ho4 hib
      go_wp2_with fail
      refine (wakes25_any _).mono ?_
      rintro e w5 ⟨rfl, hb5⟩
      go_wp2
      go_ret
      exact ⟨rfl, (hx4.out.step hb5).bel⟩
    | false =>
      have hB : ckB n N xs = false := by unfold ckB; rw [hso, hib]; rfl
      have hE : ckE n N xs = icK n N xs := by unfold ckE; rw [hso, if_pos rfl]
      rcases hKv'.out with hK | hK
      · have hL : ckL n N xs = (List.range n).map (fun i => icP n N xs i - icP n N xs 1) := by unfold ckL; rw [hso, hib, hK]; simp
        rw [hB, hE, hK]
        rw [hL] at ho4
        obtain ⟨hbd, hhold⟩ := nums_facts hch'.out hxs'.out hs hK hib (f := gfn ((List.range n).map (fun i => icP n N xs i - icP n N xs 1))) (fun i hi => lst_at _ n i hi)
        have hz1 : gfn ((List.range n).map (fun i => icP n N xs i - icP n N xs 1)) 1 = 0 := by rw [lst_at _ n 1 (by omega)]; omega
        have hsb := sumI_bd hs
        obtain ⟨hs0, hs1⟩ := hsb
        have hints := (ho4.out.ints (by simp; omega) (fun x hx => by
          obtain ⟨i, hi, rfl⟩ := List.mem_map.1 hx
          have := hbd i (List.mem_range.1 hi)
          rw [lst_at _ n i (List.mem_range.1 hi)] at this
          unfold R64
          omega))
        rw [lst_len] at hints
        have hints' : IntsAt w4 z3 n (gfn ((List.range n).map (fun i => icP n N xs i - icP n N xs 1))) := hints
        clear hints
        generalize gfn ((List.range n).map (fun i => icP n N xs i - icP n N xs 1)) = F at *
        have hi4 := Lib.hid hints'
        have hbd' := Lib.hid hbd
        have hhold' := Lib.hid hhold
        obtain ⟨Z, zc, rfl, _, _, hzc⟩ := hints'
        obtain ⟨zb, zo, rfl, hzb, hzc⟩ := hzc (by omega)
        have hzc' := Lib.hid hzc
        have r1 := hzc 1 (by omega)
        rw [hz1] at r1
        have i1 : (1 : Int) < (n : Int) := by omega
        clear hs hso hB hE hL ho4 hib hK hbd hhold hzc hz1
        go_wp2_with fail
        refine (Edges_any _ _ n N xs w4 (hv'.out.below hx4.out.bel) (by omega) hch'.out (hul.out.below hx4.out.bel) hlx hxs'.out).mono ?_
        rintro e w5 ⟨z5, rfl, ho5, hb5⟩
        have hx5 := Lib.hid (hx4.out.step hb5)
        have hed := ho5.eds (eds_len hlx) (eds_R hch'.out (by omega) hxs'.out)
        have hed' := Lib.hid hed
        obtain ⟨E5, c5, rfl, _, _, _⟩ := hed
        clear ho5
        go_wp2_with fail
        refine (RHolds_any _ _ (icM N xs) n (icF N xs) F w5 hed'.out (hi4.out.below hb5)).mono ?_
        rintro e w6 ⟨rfl, hb6⟩
        rw [hhold'.out]
        have hx6 := Lib.hid (hx5.out.step hb6)
        have hz6 : Hid (∀ i, i < n → w6.cell? ⟨zb, zo + i, none⟩ = some (.int .i64 (F i))) := fun i hi => (hb6.cell (p := ⟨zb, zo + i, none⟩) (Nat.lt_of_lt_of_le hzb hb5.size)).trans ((hb5.cell (p := ⟨zb, zo + i, none⟩) hzb).trans (hzc'.out i hi))
        clear hb5 hb6 r1 q4
        go_wp2
        go_loopw [92] (fun i wr => ∃ j : Nat, j ≤ n ∧ i = .int .i64 j ∧ wr = w6) (fun i _ => n - (intOf i).toNat)
        case atStart => exact ⟨0, Nat.zero_le _, rfl, rfl⟩
        case round =>
          obtain ⟨j, hj, rfl, rfl⟩ := hrel
          by_cases hlt : j < n
          · have rj := hz6.out j hlt
            obtain ⟨b0, b1⟩ := hbd'.out j hlt
            have k1 : decide ((j : Int) < (n : Int)) = true := decide_eq_true (by omega)
            have k2 : decide (F j < -s) = false := decide_eq_false (by omega)
            have k3 : decide (s < F j) = false := decide_eq_false (by omega)
            go_wp2
            go_roundw
            case rel => exact ⟨j + 1, by omega, by go_num, trivial⟩
            case measure => simp [intOf]; omega
          · have k1 : decide ((j : Int) < (n : Int)) = false := decide_eq_false (by omega)
            go_wp2_with fail
            refine (wakes25_any _).mono ?_
            rintro e w7 ⟨rfl, hb7⟩
            go_wp2
            go_ret
            exact ⟨rfl, (hx6.out.step hb7).bel⟩
      · have hL : ckL n N xs = [] := by unfold ckL; rw [hso, hK]; simp
        rw [hB, hE, hK]
        rw [hL] at ho4
        obtain ⟨Z, zc, rfl⟩ : ∃ Z zc, z3 = .slice Z 0 zc := by
          obtain ⟨Z, zc, h, _⟩ := ho4.out.ints (by decide) (fun x hx => by cases hx)
          exact ⟨Z, zc, h⟩
        clear hs hso hB hE hL ho4 hib hK
        go_wp2_with fail
        refine (wakes25_any _).mono ?_
        rintro e w5 ⟨rfl, hb5⟩
        go_wp2
        go_ret
        exact ⟨rfl, (hx4.out.step hb5).bel⟩

set_option maxHeartbeats 1000000 in
theorem INums_any (v u : Value) (n m : Nat) (N : Nat → Nd) (f : Nat → Int) (w : World) (hv : NdsAt w v n N) (hu : IntsAt w u m f) :
    Calls Try.prog 4 #[.agg #[v], u] w fun x w' => x = .returned (.bool true) ∧ Below w.heap.size w w' := by
  have hv' := Lib.hid hv
  have hu' := Lib.hid hu
  obtain ⟨A, c, rfl, _, _, _⟩ := hv
  obtain ⟨U, cu, rfl, _, _, _⟩ := hu
  have hx0 := (Bx.nil w).one (.slice A n c) 33
  by_cases hn : n ≤ 60
  · by_cases hm : m ≤ 60
    · cases hmay : mayT n N m f with
      | true => exact Numbers_main (.slice A n c) (.slice U m cu) n m N f w hv'.out hu'.out hn hm hmay
      | false =>
        have d1 : decide ((60 : Int) < (n : Int)) = false := decide_eq_false (by omega)
        have d2 : decide ((60 : Int) < (m : Int)) = false := decide_eq_false (by omega)
        have hmay' := Lib.hid hmay
        clear hmay
        go_enter Try.func4, Try.ntmps4
        go_wp2_with fail
        refine (RMay13_any _ _ n m N f _ (hv'.out.below hx0.bel) (by omega) (hu'.out.below hx0.bel)).mono ?_
        rintro e w2 ⟨rfl, hb2⟩
        rw [hmay'.out]
        have hx2 := hx0.step hb2
        go_wp2_with fail
        refine (wakes25_any _).mono ?_
        rintro e w7 ⟨rfl, hb7⟩
        go_wp2
        go_ret
        exact ⟨rfl, (hx2.step hb7).bel⟩
    · have d1 : decide ((60 : Int) < (n : Int)) = false := decide_eq_false (by omega)
      have d2 : decide ((60 : Int) < (m : Int)) = true := decide_eq_true (by omega)
      go_enter Try.func4, Try.ntmps4
      go_wp2_with fail
      refine (wakes25_any _).mono ?_
      rintro e w7 ⟨rfl, hb7⟩
      go_wp2
      go_ret
      exact ⟨rfl, (hx0.step hb7).bel⟩
  · have d1 : decide ((60 : Int) < (n : Int)) = true := decide_eq_true (by omega)
    go_enter Try.func4, Try.ntmps4
    go_wp2_with fail
    refine (wakes25_any _).mono ?_
    rintro e w7 ⟨rfl, hb7⟩
    go_wp2
    go_ret
    exact ⟨rfl, (hx0.step hb7).bel⟩
end Go.Proofs.Ytioceechdombjaa
