/- idl.Check. -/
import Derived.Test.YtioceechdombjaaZIdlCIdlD
import Derived.Deep.RegionHeld3
namespace Go.Proofs.Ytioceechdombjaa
open Go.RowKit Go.Maps
set_option maxRecDepth 100000

/-- The edges' number, and they. -/
def icM (N : Nat → Nd) (xs : List Int) : Nat := (edsL N xs).length
def icF (N : Nat → Nd) (xs : List Int) : Nat → Ed := eF (edsL N xs)
def icK (n : Nat) (N : Nat → Nd) (xs : List Int) : Int := checkR n (icM N xs) (icF N xs)
def icB (n : Nat) (N : Nat → Nd) (xs : List Int) : Bool := badR n (icM N xs) (icF N xs)
def icP (n : Nat) (N : Nat → Nd) (xs : List Int) (i : Nat) : Int := potR n (icM N xs) (icF N xs) i
def sumOk (N : Nat → Nd) (n : Nat) : Bool := (sumI N n).isSome
def ckE (n : Nat) (N : Nat → Nd) (xs : List Int) : Int := if sumOk N n then icK n N xs else 10
def ckB (n : Nat) (N : Nat → Nd) (xs : List Int) : Bool := sumOk N n && icB n N xs
def ckL (n : Nat) (N : Nat → Nd) (xs : List Int) : List Int := if sumOk N n && (icK n N xs == 0) && !icB n N xs then (List.range n).map (fun i => icP n N xs i - icP n N xs 1) else []
theorem eds_R {n : Nat} {N : Nat → Nd} (hc : CheckP n N) (hn : n ≤ 1000000) {xs : List Int} (hxs : ∀ x ∈ xs, badLit n N x = false) : ∀ e ∈ edsL N xs, R64 e.src ∧ R64 e.dst ∧ R64 e.wt := by
  intro e he
  obtain ⟨x, hx, hd, rfl⟩ := edsL_mem.1 he
  obtain ⟨_, h1, g0, g1, g2, g3, g4, g5⟩ := diff_at hc (hxs x hx) hd
  unfold edOf R64
  split <;> refine ⟨⟨?_, ?_⟩, ⟨?_, ?_⟩, ⟨?_, ?_⟩⟩ <;> dsimp only <;> omega
theorem eds_len {N : Nat → Nd} {xs : List Int} (h : xs.length ≤ 1000) : (edsL N xs).length ≤ 1000000 := by have := edsL_len N xs; omega
theorem OwnL.base' {w : World} {B B' : Nat} {v : Value} {xs : List Int} (h : OwnL w B v xs) (hB : B' ≤ B) : OwnL w B' v xs := by
  refine ⟨h.1, ?_⟩
  rcases h.2 with h | ⟨g, cap, cur, h1, h2, h3⟩
  · exact .inl h
  · exact .inr ⟨g, cap, cur, h1, Nat.le_trans hB h2, h3⟩
theorem pot_bd {n : Nat} {N : Nat → Nd} {xs : List Int} (hk : icK n N xs = 0) (hb : icB n N xs = false) (i : Nat) : -4611686018427387904 ≤ icP n N xs i ∧ icP n N xs i ≤ 0 := ⟨pot_pin hk hb i, pot_le _ _ _ _⟩

def ICPost (n : Nat) (N : Nat → Nd) (xs : List Int) (w : World) (e : Ending) (w' : World) : Prop :=
  ∃ z, e = .returned (.tuple #[z, .bool (ckB n N xs), .int .i64 (ckE n N xs)]) ∧ OwnL w' w.heap.size z (ckL n N xs) ∧ Below w.heap.size w w'

set_option maxHeartbeats 4000000 in
theorem ICheck_any (v u : Value) (n : Nat) (N : Nat → Nd) (xs : List Int) (w : World) (hv : NdsAt w v n N) (hn : n ≤ 4096) (hch : CheckP n N) (hu : IntsAt w u xs.length (gfn xs)) (hm : xs.length ≤ 1000) (hxs : ∀ x ∈ xs, badLit n N x = false) :
    Calls Try.prog 13 #[.agg #[v], u] w (ICPost n N xs w) := by
  have hv' := Lib.hid hv
  have hu' := Lib.hid hu
  have hmay : Hid (mayT n N xs.length (gfn xs) = true) := by
    unfold Hid
    rw [mayT_chk hch, Bool.not_eq_true', anyBadL_iff]
    exact fun i hi => hxs _ (gfn_mem hi)
  have hER := Lib.hid (eds_R hch (by omega) hxs)
  have hxs' := Lib.hid hxs
  have hch' := Lib.hid hch
  have h2 := hch.two
  obtain ⟨A, c, rfl, _, _, hcs⟩ := hv
  obtain ⟨b, o, rfl, hbl, hcs⟩ := hcs (by omega)
  obtain ⟨U, cu, rfl, _, _, _⟩ := hu
  have hx0 := (Bx.nil w).one (.slice (some ⟨b, o, none⟩) n c) 33
  clear hcs hch hxs
  go_enter Try.func13, Try.ntmps13
  go_wp2_with fail
  refine (AMay_any _ _ n xs.length N (gfn xs) _ (hv'.out.below hx0.bel) (by omega) (hu'.out.below hx0.bel)).mono ?_
  rintro e w2 ⟨rfl, hb2⟩
  rw [hmay.out]
  have hx2 := hx0.step hb2
  obtain ⟨⟨q0, _⟩, -⟩ := hx2.cells
  go_wp2_with fail
  refine (ISum_any _ n N w2 (hv'.out.below hx2.bel) (by omega) hch'.out).mono ?_
  rintro e w3 ⟨rfl, hb3⟩
  have hx3 := hx2.step hb3
  obtain ⟨⟨q3, z3⟩, -⟩ := hx3.cells
  clear q0 hb2 hb3 hx0 hx2
  cases hs : sumI N n with
  | none =>
    have hsv : sumIV N n = .tuple #[.int .i64 0, .bool false] := by unfold sumIV sumR; unfold sumI at hs; rw [hs]
    have hso : sumOk N n = false := by unfold sumOk; rw [hs]; rfl
    have hR : Hid (ckB n N xs = false ∧ ckE n N xs = 10 ∧ ckL n N xs = []) := ⟨by unfold ckB; rw [hso]; rfl, by unfold ckE; rw [hso]; rfl, by unfold ckL; rw [hso]; rfl⟩
    rw [hsv]
    clear hs hsv hso
    go_wp2
    refine bodyPost_ret (results_tmp3 rfl _ _ _) rfl ⟨_, by rw [hR.out.1, hR.out.2.1]; rfl, by rw [hR.out.2.2]; exact OwnL.nil _ _, hx3.bel⟩
  | some s =>
    have hsv : sumIV N n = .tuple #[.int .i64 s, .bool true] := by unfold sumIV sumR; unfold sumI at hs; rw [hs]
    have hso : sumOk N n = true := by unfold sumOk; rw [hs]; rfl
    rw [hsv]
    clear hs hsv
    have hEC := Edges_any _ _ n N xs w3.drew (hv'.out.below hx3.drew.bel) (by omega) hch'.out (hu'.out.below hx3.drew.bel) hm hxs'.out
    have hS0 : w3.drew.cell? ⟨w.heap.size, 0, none⟩ = some (.slice (some ⟨b, o, none⟩) n c) := q3
    have hx3' := Lib.hid hx3
    have hPC := fun z x (h : OwnE x w3.drew.heap.size z (edsL N xs)) => Pots_any (n : Int) z (icM N xs) (icF N xs) x (h.eds (eds_len hm) hER.out) (eds_len hm) (by omega) (by omega)
    clear hx3
    go_wp2
    go_region_held3 (fun y => y.cell? ⟨w.heap.size, 0, none⟩ = some (.slice (some ⟨b, o, none⟩) n c))
      (first | exact hS0 | exact hS1 | exact hS2 | fail)
      (first | (go_at_call 16; (with_reducible refine Calls.mono hEC ?_); rintro e w5 ⟨z5, rfl, ho5, hb5⟩; have hS1 := (hx3'.out.drew.step hb5).cells.1.1; have hP5 := hPC z5 w5 ho5)
             | (go_at_call 31; (with_reducible refine Calls.mono hP5 ?_); rintro e w6 ⟨u6, rfl, hI6, hb6⟩; have hS2 := ((hx3'.out.drew.step hb5).step hb6).cells.1.1))
    have hx6 := Lib.hid ((hx3'.out.drew.step hb5).step hb6)
    have hKe : checkR (n : Int) (icM N xs) (icF N xs) = icK n N xs := rfl
    have hBe : badR (n : Int) (icM N xs) (icF N xs) = icB n N xs := rfl
    have hPe : potR (n : Int) (icM N xs) (icF N xs) = icP n N xs := rfl
    rw [hKe, hBe]
    rw [hPe] at hI6
    clear hEC hPC hP5 hS0 hS1 hS2 hb5 hb6 ho5 hKe hPe q3 hx3'
    cases hb : icB n N xs with
    | true =>
      have hk : icK n N xs = 0 := by
        have := hb
        unfold icB badR at this
        exact (of_decide_eq_true this).1
      have hR : Hid (ckB n N xs = true ∧ ckE n N xs = 0 ∧ ckL n N xs = []) := ⟨by unfold ckB; rw [hso, hb]; rfl, by unfold ckE; rw [hso, if_pos rfl]; exact hk, by unfold ckL; rw [hso, hb]; simp⟩
      rw [hk]
      clear hb hk hBe hI6
      go_wp2
      exact bodyPost_ret (results_tmp3 rfl _ _ _) rfl ⟨_, by rw [hR.out.1, hR.out.2.1]; rfl, by rw [hR.out.2.2]; exact OwnL.nil _ _, hx6.out.bel⟩
    | false =>
      by_cases hk : icK n N xs = 0
      · have hl : lenR (n : Int) (icM N xs) (icF N xs) = n := by
          have := (good_facts (n := (n : Int)) (m := icM N xs) (E := icF N xs) hk (hBe.trans hb)).1
          rw [this]; rfl
        have hR : Hid (ckB n N xs = false ∧ ckE n N xs = 0 ∧ ckL n N xs = (List.range n).map (fun i => icP n N xs i - icP n N xs 1)) := ⟨by unfold ckB; rw [hso, hb]; rfl, by unfold ckE; rw [hso, if_pos rfl]; exact hk, by unfold ckL; rw [hso, hb, hk]; simp⟩
        have hbd := fun i => pot_bd hk hb i
        rw [hl] at hI6
        obtain ⟨P6, c6, rfl, _, _, hc6⟩ := hI6
        obtain ⟨pb, po, rfl, hpb, hc6⟩ := hc6 (by omega)
        have hc6' := Lib.hid hc6
        have hbd' := Lib.hid hbd
        rw [hk]
        clear hb hk hBe hl hc6 hbd
        generalize icP n N xs = p at *
        go_wp2
        go_loopw [4, 43] (fun z i wr => ∃ j : Nat, j ≤ n ∧ i = .int .i64 j ∧ Hid (OwnL wr w6.heap.size z ((List.range j).map (fun i => p i - p 1))) ∧ Hid (Below w6.heap.size w6 wr)) (fun _ i _ => n - (intOf i).toNat)
        case atStart => exact ⟨0, Nat.zero_le _, rfl, OwnL.nil _ _, Below.refl _ _⟩
        case round =>
          obtain ⟨j, hj, rfl, hown, hbx⟩ := hrel
          have hzz := hbx.out.size
          by_cases hlt : j < n
          · have rj := (hbx.out.cell (p := ⟨pb, po + j, none⟩) hpb).trans (hc6'.out j hlt)
            have r1 := (hbx.out.cell (p := ⟨pb, po + 1, none⟩) hpb).trans (hc6'.out 1 (by omega))
            obtain ⟨b0, b1⟩ := hbd'.out j
            obtain ⟨b2, b3⟩ := hbd'.out 1
            have i1 : decide ((j : Int) < (n : Int)) = true := decide_eq_true (by omega)
            have i2 : (1 : Int) < (n : Int) := by omega
            have hw : IntKind.i64.wrap (p j - p 1) = p j - p 1 := by rw [IntKind.wrap_i64]; omega
            have hlen : ((List.range j).map (fun i => p i - p 1)).length ≤ 1000000 := by simp; omega
            go_wp2_with (at_builtin; refine wpList_app1 rfl rfl _ _ rfl w6.heap.size _ _ (p j - p 1) rfl (hown.out.alloc _) wr.heap.size 1 rfl ?c1 ?c2 ?c3 ?_)
            case c1 => simp
            case c2 => exact hlen
            case c3 => simp; omega
            intro v' w7 hown7 hb7 _
            go_wp2
            go_roundw
            case rel => exact ⟨j + 1, by omega, by go_num, by rw [List.range_succ, List.map_append]; exact hown7, (hbx.out.alloc hzz _).trans hb7⟩
            case measure => simp [intOf]; omega
          · have hjn : j = n := by omega
            have i1 : decide ((j : Int) < (n : Int)) = false := decide_eq_false (by omega)
            rw [hjn] at hown
            go_wp2
            exact bodyPost_ret (results_tmp3 rfl _ _ _) rfl ⟨u4, by rw [hR.out.1, hR.out.2.1]; rfl, by rw [hR.out.2.2]; exact hown.out.base' (hx6.out.bel.size), hx6.out.bel.trans (hbx.out.mono hx6.out.bel.size)⟩
      · have hR : Hid (ckB n N xs = false ∧ ckE n N xs = icK n N xs ∧ ckL n N xs = []) := ⟨by unfold ckB; rw [hso, hb]; rfl, by unfold ckE; rw [hso, if_pos rfl], by unfold ckL; rw [hso]; simp [hk]⟩
        have hk' : (icK n N xs != 0) = true := by simpa using hk
        clear hb hk hBe hI6
        go_wp2
        exact bodyPost_ret (results_tmp3 rfl _ _ _) rfl ⟨_, by rw [hR.out.1, hR.out.2.1]; rfl, by rw [hR.out.2.2]; exact OwnL.nil _ _, hx6.out.bel⟩
end Go.Proofs.Ytioceechdombjaa

namespace Go.Proofs.Ytioceechdombjaa
open Go.RowKit

def cnt (P : Nat → Bool) : Nat → Nat
  | 0 => 0
  | k + 1 => cnt P k + (if P k then 1 else 0)
theorem cnt_all {P : Nat → Bool} : ∀ D, (∀ t, t < D → P t = true) → cnt P D = D
  | 0, _ => rfl
  | D + 1, h => by
    unfold cnt
    rw [cnt_all D fun t ht => h t (by omega), if_pos (h D (by omega))]
theorem cnt_or (P Q : Nat → Bool) : ∀ D, cnt (fun t => P t || Q t) D ≤ cnt P D + cnt Q D
  | 0 => Nat.le_refl _
  | D + 1 => by
    have := cnt_or P Q D
    unfold cnt
    cases P D <;> cases Q D <;> simp <;> omega
theorem cnt_mono {P Q : Nat → Bool} (h : ∀ t, P t = true → Q t = true) : ∀ D, cnt P D ≤ cnt Q D
  | 0 => Nat.le_refl _
  | D + 1 => by
    have := cnt_mono h D
    unfold cnt
    cases hp : P D with
    | false => simp; omega
    | true => rw [h D hp]; simp; omega
theorem cnt_int (lo len : Int) (hl : 0 ≤ len) : ∀ D : Nat, (cnt (fun t => decide (lo ≤ (t : Int) ∧ (t : Int) < lo + len)) D : Int) ≤ max 0 (min (D : Int) (lo + len) - lo)
  | 0 => by simp [cnt]; omega
  | D + 1 => by
    have ih := cnt_int lo len hl D
    unfold cnt
    by_cases h : lo ≤ (D : Int) ∧ (D : Int) < lo + len
    · rw [if_pos (decide_eq_true h)]
      omega
    · rw [if_neg (by simpa using h)]
      omega
def inIv (lo len : Int) (t : Nat) : Bool := decide (lo ≤ (t : Int) ∧ (t : Int) < lo + len)
def anyI (h : Nat → Bool) (lo len : Nat → Int) (n t : Nat) : Bool := (List.range n).any fun i => h i && inIv (lo i) (len i) t
/-- Intervals that cover are as long as what they cover. -/
theorem cover (h : Nat → Bool) (lo len : Nat → Int) (hl : ∀ i, 0 ≤ len i) : ∀ (n D : Nat), (cnt (anyI h lo len n) D : Int) ≤ sumN (fun i => if h i then len i else 0) n
  | 0, D => by
    have : cnt (anyI h lo len 0) D = 0 := by
      induction D with
      | zero => rfl
      | succ D ih => unfold cnt; rw [ih]; rfl
    rw [this]
    exact Int.le_refl _
  | n + 1, D => by
    have ih := cover h lo len hl n D
    show _ ≤ sumN (fun i => if h i then len i else 0) n + (if h n then len n else 0)
    cases hn : h n with
    | false =>
      have e : anyI h lo len (n + 1) = anyI h lo len n := by
        funext t
        unfold anyI
        rw [List.range_succ, List.any_append]
        simp [hn]
      rw [e, if_neg (by simp)]
      omega
    | true =>
      have e : anyI h lo len (n + 1) = fun t => anyI h lo len n t || inIv (lo n) (len n) t := by
        funext t
        unfold anyI
        rw [List.range_succ, List.any_append]
        simp [hn]
      rw [e, if_pos rfl]
      have h1 := cnt_or (anyI h lo len n) (inIv (lo n) (len n)) D
      have h2 : (cnt (inIv (lo n) (len n)) D : Int) ≤ max 0 (min (D : Int) (lo n + len n) - lo n) := cnt_int (lo n) (len n) (hl n) D
      have := hl n
      omega

/-- The sum, node by node. -/
theorem sum_nodes (N : Nat → Nd) : ∀ k, sumN (fun i => absI (gfn (numsL N k) i) + 1) (numsL N k).length = sumN (fun i => if hasNum N i then absI (N i).num + 1 else 0) k
  | 0 => rfl
  | k + 1 => by
    have ih := sum_nodes N k
    show _ = sumN (fun i => if hasNum N i then absI (N i).num + 1 else 0) k + (if hasNum N k then absI (N k).num + 1 else 0)
    unfold numsL
    split
    · rw [List.length_append, List.length_singleton]
      show sumN _ (numsL N k).length + (absI (gfn (numsL N k ++ [(N k).num]) (numsL N k).length) + 1) = _
      have e1 : sumN (fun i => absI (gfn (numsL N k ++ [(N k).num]) i) + 1) (numsL N k).length = sumN (fun i => absI (gfn (numsL N k) i) + 1) (numsL N k).length := by
        refine sumN_congr fun i hi => ?_
        unfold gfn
        rw [List.getD_eq_getElem?_getD, List.getElem?_append_left hi, ← List.getD_eq_getElem?_getD]
      have e2 : gfn (numsL N k ++ [(N k).num]) (numsL N k).length = (N k).num := by
        unfold gfn
        rw [List.getD_eq_getElem?_getD, List.getElem?_append_right (Nat.le_refl _), Nat.sub_self]
        rfl
      rw [e1, e2, ih]
    · rw [ih]; omega
theorem sumI_val {N : Nat → Nd} {n : Nat} {s : Int} (h : sumI N n = some s) : s = sumN (fun i => if hasNum N i then absI (N i).num + 1 else 0) n := by
  rw [← sum_nodes]
  exact sumTo_eq _ h

theorem absI_nn (x : Int) : 0 ≤ absI x := by unfold absI; split <;> omega
/-- A level is crossed by an edge that holds just so. -/
theorem level {L : List Ed} {p : Nat → Int} (hp : HoldL L p) (hp0 : ∀ v, p v ≤ 0) (hmax : ∀ x : Nat → Int, HoldL L x → (∀ v, x v ≤ 0) → ∀ v, x v ≤ p v) (v t : Nat) (ht : (t : Int) < - p v) :
    ∃ e ∈ L, p e.dst.toNat = p e.src.toNat + e.wt ∧ - p e.src.toNat ≤ t ∧ (t : Int) < - p e.dst.toNat := by
  apply Classical.byContradiction
  intro hno
  have h1 := hmax (fun u => if p u ≤ -((t : Int) + 1) then p u + 1 else p u) (fun e he => ?_) (fun u => ?_) v
  · rw [if_pos (by omega)] at h1
    omega
  · have h2 := hp e he
    dsimp only
    by_cases hd : p e.dst.toNat ≤ -((t : Int) + 1)
    · by_cases hs : p e.src.toNat ≤ -((t : Int) + 1)
      · rw [if_pos hd, if_pos hs]; omega
      · rw [if_pos hd, if_neg hs]
        by_cases hti : p e.dst.toNat = p e.src.toNat + e.wt
        · exact absurd ⟨e, he, hti, by omega, by omega⟩ hno
        · omega
    · rw [if_neg hd]
      split <;> omega
  · have := hp0 u
    split <;> omega
theorem pot_in_sum {n : Nat} {N : Nat → Nd} (hc : CheckP n N) {xs : List Int} (hxs : ∀ x ∈ xs, badLit n N x = false) {p : Nat → Int} (hp : HoldL (edsL N xs) p) (hp0 : ∀ v, p v ≤ 0)
    (hmax : ∀ x : Nat → Int, HoldL (edsL N xs) x → (∀ v, x v ≤ 0) → ∀ v, x v ≤ p v) {s : Int} (hs : sumI N n = some s) (v : Nat) : - s ≤ p v := by
  have hcov := cover (hasNum N) (fun i => if p (N i).a0.toNat = p (N i).a1.toNat + (N i).num then - p (N i).a1.toNat else - p (N i).a0.toNat) (fun i => absI (N i).num + 1) (fun i => by have := absI_nn (N i).num; omega) n (- p v).toNat
  rw [cnt_all _ fun t ht => ?_, ← sumI_val hs] at hcov
  · have := hp0 v
    omega
  · obtain ⟨e, he, hti, h1, h2⟩ := level hp hp0 hmax v t (by omega)
    obtain ⟨x, hx, hd, rfl⟩ := edsL_mem.1 he
    obtain ⟨_, hid, _⟩ := diff_at hc (hxs x hx) hd
    unfold anyI
    rw [List.any_eq_true]
    refine ⟨(x / 2).toNat, List.mem_range.2 hid, ?_⟩
    have hop : (N (x / 2).toNat).op = 12 := by simpa [isD] using hd
    have hh : hasNum N (x / 2).toNat = true := by unfold hasNum; rw [hop]; rfl
    rw [hh, Bool.true_and]
    unfold inIv
    rw [decide_eq_true_eq]
    unfold edOf at hti h1 h2
    dsimp only
    generalize N (x / 2).toNat = E at *
    have ha : E.num ≤ absI E.num ∧ - E.num ≤ absI E.num := by unfold absI; split <;> omega
    by_cases hodd : x % 2 = 1
    · rw [if_pos hodd] at hti h1 h2
      have hne : ¬ p E.a0.toNat = p E.a1.toNat + E.num := by
        have hti' : p E.a1.toNat = p E.a0.toNat + (-E.num - 1) := hti
        omega
      rw [if_neg hne]
      have hti' : p E.a1.toNat = p E.a0.toNat + (-E.num - 1) := hti
      have h1' : - p E.a0.toNat ≤ t := h1
      have h2' : (t : Int) < - p E.a1.toNat := h2
      omega
    · rw [if_neg hodd] at hti h1 h2
      have hti' : p E.a0.toNat = p E.a1.toNat + E.num := hti
      rw [if_pos hti']
      have h1' : - p E.a1.toNat ≤ t := h1
      have h2' : (t : Int) < - p E.a0.toNat := h2
      omega
end Go.Proofs.Ytioceechdombjaa
