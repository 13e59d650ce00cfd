/- value.kinds. -/
import Derived.Test.YtdcohcjkimgccaaZNumWorldM
import Derived.Test.YtdcohcjkimgccaaZBoxes
import Derived.Test.YtdcohcjkimgccaaZOwn
import Derived.Lib.OwnKind
namespace Go.Proofs.Ytdcohcjkimgccaa
open Go.RowKit
set_option maxRecDepth 100000

theorem kinds1_any (v : Int) (w : World) : Calls Try.prog 148 #[.int .i64 v] w fun e w' => e = .returned (.bool (decide (0 ≤ v ∧ v ≤ 1))) ∧ w' = w := by
  go_enter Try.func148, Try.ntmps148
  go_wp2
  go_ret
  refine ⟨ret_bool ?_, rfl⟩
  rw [Bool.eq_iff_iff]; simp; omega
theorem kinds2_any (v z : Int) (b : Nat) (w : World) (h : w.cell? ⟨b, 0, none⟩ = some (.int .i64 z)) : Calls Try.prog 149 #[.int .i64 v, .pointer (some ⟨b, 0, none⟩)] w fun e w' => e = .returned (.bool (decide (0 ≤ v ∧ v < z))) ∧ w' = w := by
  go_enter Try.func149, Try.ntmps149
  by_cases h0 : 0 ≤ v
  · have d0 : decide (0 ≤ v) = true := decide_eq_true h0
    have hR : Hid (decide (0 ≤ v ∧ v < z) = decide (v < z)) := by unfold Hid; simp [h0]
    clear h0
    go_wp2
    go_ret
    exact ⟨by rw [hR.out]; rfl, rfl⟩
  · have d0 : decide (0 ≤ v) = false := decide_eq_false h0
    have hR : Hid (decide (0 ≤ v ∧ v < z) = false) := by unfold Hid; simp [h0]
    clear h0
    go_wp2
    go_ret
    exact ⟨by rw [hR.out]; rfl, rfl⟩
theorem info_fib : (Try.prog.info? 84).map (fun i => (i.zero, i.size, i.bytes)) = some (some .nilFunc, 1, 8) := by kernel_rfl
/-- The i-th test of a sort's values; those of the world's own sorts hold the cell of their size. -/
def kindV (P : Nat → Nat) (i : Nat) : Value := if i = 0 then .func (.func 148) #[] #[] else if i = 1 then .func (.func 46) #[] #[] else .func (.func 149) #[] #[.pointer (some ⟨P (i - 2), 0, none⟩)]
def OwnK (w : World) (base : Nat) (v : Value) (n : Nat) (P : Nat → Nat) : Prop := OwnG w base 84 1 v n (fun i => [kindV P i])
def setP (P : Nat → Nat) (j b : Nat) (i : Nat) : Nat := if i = j then b else P i
theorem kindV_set {P : Nat → Nat} {j b i : Nat} (h : i < 2 + j) : kindV (setP P j b) i = kindV P i := by
  unfold kindV setP
  by_cases h0 : i = 0
  · rw [if_pos h0, if_pos h0]
  · rw [if_neg h0, if_neg h0]
    by_cases h1 : i = 1
    · rw [if_pos h1, if_pos h1]
    · rw [if_neg h1, if_neg h1, if_neg (by omega)]
theorem kindV_new (P : Nat → Nat) (j b : Nat) : kindV (setP P j b) (2 + j) = .func (.func 149) #[] #[.pointer (some ⟨b, 0, none⟩)] := by
  unfold kindV setP
  rw [if_neg (by omega), if_neg (by omega), if_pos (by omega)]
theorem wpList_appK {P : Program} (hP : P = Try.prog) {w : World} {ops : Array Oper} {rest : List Oper} {o : Oper} {a : Act} {Q : Exit → Act → World → Prop} (hgd : o.guard = none) (s x : Operand)
    (ho : o.op = .call { callee := .builtin .append, args := #[s, x], argTypes := #[172, 172] })
    (base : Nat) (v : Value) (j : Nat) (Pt : Nat → Nat) (hs : a.eval s = v) (hown : OwnK w base v (2 + j) Pt) (g c b : Nat) (hx : a.eval x = .slice (some ⟨g, 0, none⟩) 1 c) (hc : w.cell? ⟨g, 0, none⟩ = some (.func (.func 149) #[] #[.pointer (some ⟨b, 0, none⟩)]))
    (hlen : j ≤ 1000000) (hb : base ≤ w.heap.size)
    (h : ∀ v' w', OwnK w' base v' (2 + (j + 1)) (setP Pt j b) → Below base w w' → w.grownBy w' v.ownBlock → wpList P ops Q rest (a.put o.dst v') w') : wpList P ops Q (o :: rest) a w := by
  subst hP
  obtain ⟨i0, hi, hz0, hz1, hz2⟩ := info_parts info_fib
  refine wpList_append_own w hgd s x 172 ho base 84 i0 .nilFunc 1 8 Try.underlying172 hi hz0 hz1 hz2 rfl (by decide) v (2 + j) _ hs hown ⟨g, 0, none⟩ 1 c [.func (.func 149) #[] #[.pointer (some ⟨b, 0, none⟩)]] hx rfl ?_ ?_ ?_ ?_ hb ?_
  · intro j u hu
    cases j with
    | zero => simp at hu; subst hu; exact hc
    | succ j => simp at hu
  · intro u hu; simp at hu; subst hu; rfl
  · unfold maxLen; omega
  · omega
  · intro v' w' h1 h2 _
    refine h v' w' ?_ ((Below.refl base w).grown h2 hb (fun k hk => (OwnG.lt hown k hk).1)) h2
    have e := flat_app (fun i => [kindV Pt i]) (fun _ => [Value.func (.func 149) #[] #[.pointer (some ⟨b, 0, none⟩)]]) (2 + j) 1
    rw [show (List.range 1).flatMap (fun _ => [Value.func (.func 149) #[] #[.pointer (some ⟨b, 0, none⟩)]]) = [Value.func (.func 149) #[] #[.pointer (some ⟨b, 0, none⟩)]] by simp] at e
    rw [e] at h1
    refine OwnG.congr h1 fun i hi => ?_
    by_cases h3 : i < 2 + j
    · rw [if_pos h3, kindV_set h3]
    · rw [if_neg h3, show i = 2 + j by omega, kindV_new]
/-- The cells of the sizes. -/
def SizesAt (x : World) (j : Nat) (Z : Nat → Int) (P : Nat → Nat) : Prop := ∀ i, i < j → x.heap[P i]? = some (.cells #[.int .i64 (Z i)] 3)
theorem SizesAt.apart {x : World} {j base m : Nat} {Z : Nat → Int} {P Q : Nat → Nat} {v : Value} (h : SizesAt x j Z P) (ho : OwnK x base v m Q) {i : Nat} (hi : i < j) : v.ownBlock ≠ some (P i) := fun e => by
  obtain ⟨c, fz, h1⟩ := Lib.ownsRow_kind ho _ e
  rw [h i hi] at h1
  injection h1 with h1
  injection h1 with _ h2 _
  exact absurd h2 (by decide)
theorem SizesAt.alloc {x : World} {j : Nat} {Z : Nat → Int} {P : Nat → Nat} (h : SizesAt x j Z P) (o : Obj) : SizesAt (x.alloc o) j Z P := fun i hi => by
  have h1 := h i hi
  exact (heap_alloc_old x o (Array.getElem?_eq_some_iff.1 h1).1).trans h1
theorem SizesAt.more {x : World} {j : Nat} {Z : Nat → Int} {P : Nat → Nat} (h : SizesAt x j Z P) : SizesAt (x.alloc (.cells #[.int .i64 (Z j)] 3)) (j + 1) Z (setP P j x.heap.size) := fun i hi => by
  unfold setP
  by_cases e : i = j
  · subst e; rw [if_pos rfl]; exact heap_alloc_new x _
  · rw [if_neg e]; exact (h.alloc _) i (by omega)
theorem SizesAt.grown {x y : World} {j base m : Nat} {Z : Nat → Int} {P Q : Nat → Nat} {v : Value} (h : SizesAt x j Z P) (ho : OwnK x base v m Q) (hg : x.grownBy y v.ownBlock) : SizesAt y j Z P := fun i hi => by
  have h1 := h i hi
  rw [hg.block (P i) (Array.getElem?_eq_some_iff.1 h1).1 (fun e => h.apart ho hi e.symm)]
  exact h1
/-- The tests of a world's sorts lie so. -/
structure KindsAt (x : World) (v : Value) (n : Nat) (Z : Nat → Int) (P : Nat → Nat) : Prop where
  form : ∃ g c, v = .slice (some ⟨g, 0, none⟩) (2 + n) c ∧ g < x.heap.size ∧ ∀ i, i < 2 + n → x.cell? ⟨g, i, none⟩ = some (kindV P i)
  size : ∀ i, i < n → x.cell? ⟨P i, 0, none⟩ = some (.int .i64 (Z i))
set_option maxHeartbeats 4000000 in
theorem kinds_any (b : Nat) (zv : Value) (n : Nat) (Z : Nat → Int) (w : World) (h : w.cell? ⟨b, 0, none⟩ = some zv) (hb : b < w.heap.size) (hZ : IntsAt w zv n Z) (hn : n ≤ 1000000) :
    Calls Try.prog 133 #[.pointer (some ⟨b, 0, none⟩)] w fun e w' => ∃ v P, e = .returned v ∧ KindsAt w' v n Z P ∧ Below w.heap.size w w' := by
  have hmf : ∀ (fn : Go.Fn) (first cap : Array Value) (w : World), (Instr.makeFunc fn first cap).run Try.prog w = .ok (.func fn first cap) w := fun _ _ _ _ => rfl
  have hZ' := Lib.hid hZ
  obtain ⟨A, c, rfl, hm, hRz, hcs⟩ := hZ
  have hcs' := Lib.hid hcs
  have hb' := Lib.hid hb
  have h' := Lib.hid h
  clear hcs hRz
  have hown0 : Hid (OwnK (w.alloc (.cells #[.func (.func 148) #[] #[], .func (.func 46) #[] #[]] 84)) w.heap.size (.slice (some ⟨w.heap.size, 0, none⟩) 2 2) (2 + 0) (fun _ => 0)) := by
    have := World.ownsRow_lit (e := 84) (size := 1) w #[.func (.func 148) #[] #[], .func (.func 46) #[] #[]] 2 (Nat.le_refl _) (by unfold maxLen; omega) rfl
    exact this
  have hbe0 : Hid (Below w.heap.size w (w.alloc (.cells #[.func (.func 148) #[] #[], .func (.func 46) #[] #[]] 84))) := (Below.refl _ _).alloc (Nat.le_refl _) _
  go_enter Try.func133, Try.ntmps133
  go_wp2_with fail
  go_loopw [3, 5, 12] (fun v _ i wr => ∃ (j : Nat) (P : Nat → Nat), j ≤ n ∧ i = .int .i64 j ∧ Hid (OwnK wr w.heap.size v (2 + j) P) ∧ Hid (SizesAt wr j Z P) ∧ Hid (Below w.heap.size w wr)) (fun _ _ i _ => n - (intOf i).toNat)
  case atStart => exact ⟨0, fun _ => 0, Nat.zero_le _, rfl, hown0.out, fun i hi => absurd hi (Nat.not_lt_zero _), hbe0.out⟩
  case round =>
    clear hown0 hbe0
    obtain ⟨j, P, hj, rfl, hown, hsz, hbe⟩ := hrel
    by_cases hlt : j < n
    · have i1 : decide ((j : Int) < (n : Int)) = true := decide_eq_true (by omega)
      obtain ⟨zb, zo, rfl, hzb, hc⟩ := hcs'.out (by omega)
      have rj := (hbe.out.cell (p := ⟨zb, zo + j, none⟩) hzb).trans (hc j hlt)
      have hz := hbe.out.size
      have hownA := Lib.hid (OwnG.alloc (OwnG.alloc hown.out (.cells #[.int .i64 (Z j)] 3)) (.cells #[.func (.func 149) #[] #[.pointer (some ⟨wr.heap.size, 0, none⟩)]] 84))
      clear hc
      go_wp2_with (at_builtin; refine wpList_appK rfl rfl _ _ rfl w.heap.size _ j P rfl hownA.out (wr.heap.size + 1) 1 wr.heap.size rfl ?c1 ?c2 ?c3 ?_)
      case c1 => simp
      case c2 => omega
      case c3 => simp; omega
      intro v' w4 hown4 hb4 hg4
      have hsz4 := Lib.hid (((hsz.out.more).alloc (.cells #[.func (.func 149) #[] #[.pointer (some ⟨wr.heap.size, 0, none⟩)]] 84)).grown hownA.out hg4)
      have hown4' := Lib.hid hown4
      have hbe4 := Lib.hid (((hbe.out.alloc (by omega) _).alloc (by simp; omega) _).trans hb4)
      clear hown4 hb4 hg4 hownA
      go_wp2_with fail
      go_roundw
      case rel => exact ⟨j + 1, _, by omega, by go_num, hown4'.out, hsz4.out, hbe4.out⟩
      case measure => simp [intOf]; omega
    · have i1 : decide ((j : Int) < (n : Int)) = false := decide_eq_false (by omega)
      obtain rfl : j = n := by omega
      go_wp2_with fail
      go_ret
      obtain ⟨g, cap, rfl, _, hgl⟩ := World.ownsRow.form hown.out (by omega : 0 < 2 + j)
      obtain ⟨A, c, hv, hs, hcell⟩ := OwnG.at_ hown.out (fun _ => rfl)
      injection hv with e1 _ e3
      subst e1; subst e3
      obtain ⟨g', o, hA, _, hcell⟩ := hcell (by omega)
      injection hA with hA
      injection hA with e1 e2
      subst e1; subst e2
      refine ⟨_, P, rfl, ⟨⟨g, cap, rfl, hgl, fun i hi => ?_⟩, fun i hi => (cell_of_row _ _ _ _ _ _ (hsz.out i hi)).trans rfl⟩, hbe.out⟩
      have := hcell i hi 0 _ rfl
      rwa [Nat.zero_add, Nat.mul_one, Nat.add_zero] at this
end Go.Proofs.Ytdcohcjkimgccaa

namespace Go.Proofs.Ytdcohcjkimgccaa
open Go.RowKit
set_option maxRecDepth 100000

/-- Is v a value of the sort s, in the world W, under a signature of ns sorts? -/
def isB (ns : Nat) (W : Wd) (s v : Int) : Bool :=
  if W.nz ≠ ns then false else if s < 0 then false else if (W.nz : Int) + 2 ≤ s then false
  else if s = 0 then decide (0 ≤ v ∧ v ≤ 1) else if s = 1 then mayB v else decide (0 ≤ v ∧ v < W.Z (s - 2).toNat)
def isK (w : World) (sv fv mv zv wv : Value) : List (Nat × Nat × Value) := [(w.heap.size + 1, 0, zv), (w.heap.size + 1, 1, wv), (w.heap.size, 0, sv), (w.heap.size, 1, fv), (w.heap.size, 2, mv)]
theorem isK_bx (w : World) (sv fv mv zv wv : Value) : Bx w (isK w sv fv mv zv wv) ((w.alloc (.cells #[sv, fv, mv] 48)).alloc (.cells #[zv, wv] 51)) := by
  have h := ((Bx.nil w).row #[sv, fv, mv] 48).row #[zv, wv] 51
  simp only [rowK, World.size_alloc, List.append_nil, List.cons_append, List.nil_append] at h
  exact h
set_option maxHeartbeats 4000000 in
theorem VIs_any (A FA MA ZA WA : Option Addr) (ns nf nm nz nw c fc mc zc wc : Nat) (W : Wd) (s v : Int) (w : World) (hz : W.nz = nz) (hZ : IntsAt w (.slice ZA nz zc) nz W.Z) (hn : nz ≤ 1000000) (hs : R64 s) (hv : R64 v) :
    Calls Try.prog 82 #[.agg #[.slice A ns c, .slice FA nf fc, .slice MA nm mc], .agg #[.slice ZA nz zc, .slice WA nw wc], .int .i64 s, .int .i64 v] w fun e w' => e = .returned (.bool (isB ns W s v)) ∧ Below w.heap.size w w' := by
  subst hz
  have hx := Lib.hid (isK_bx w (.slice A ns c) (.slice FA nf fc) (.slice MA nm mc) (.slice ZA W.nz zc) (.slice WA nw wc))
  have hx0 := hx.out.cells
  have hk := Lib.hid (kinds_any (w.heap.size + 1) _ W.nz W.Z _ hx0.1.1 hx0.1.2 (hZ.below hx.out.bel) hn)
  have hR : Hid (isB ns W s v = if W.nz ≠ ns then false else if s < 0 then false else if (W.nz : Int) + 2 ≤ s then false else if s = 0 then decide (0 ≤ v ∧ v ≤ 1) else if s = 1 then mayB v else decide (0 ≤ v ∧ v < W.Z (s - 2).toNat)) := rfl
  have hv' := Lib.hid hv
  clear hx0 hZ hv
  go_enter Try.func82, Try.ntmps82
  go_wp2_with fail
  refine hk.out.mono ?_
  rintro e w1 ⟨kv, P, rfl, hK, hb1⟩
  have hx1 := Lib.hid (hx.out.step hb1)
  obtain ⟨⟨g, kc, rfl, hgl, hcell⟩, hsz⟩ := hK
  have hcell' := Lib.hid hcell
  have hsz' := Lib.hid hsz
  obtain ⟨⟨k0, -⟩, ⟨k1, -⟩, ⟨k2, -⟩, ⟨k3, -⟩, ⟨k4, -⟩, -⟩ := hx1.out.cells
  clear hb1 hk hx hcell hsz
  by_cases h1 : W.nz = ns
  · have d1 : ((W.nz : Int) == (ns : Int)) = true := by simp [h1]
    have hR1 : Hid (isB ns W s v = if s < 0 then false else if (W.nz : Int) + 2 ≤ s then false else if s = 0 then decide (0 ≤ v ∧ v ≤ 1) else if s = 1 then mayB v else decide (0 ≤ v ∧ v < W.Z (s - 2).toNat)) := by unfold Hid; rw [hR.out, if_neg (fun h => h h1)]
    clear h1 hR
    by_cases h2 : s < 0
    · have d2 : decide (0 ≤ s) = false := decide_eq_false (by omega)
      have hF : Hid (isB ns W s v = false) := by unfold Hid; rw [hR1.out, if_pos h2]
      clear h2
      go_wp2_with fail
      go_ret
      exact ⟨by rw [hF.out]; rfl, hx1.out.bel⟩
    · have d2 : decide (0 ≤ s) = true := decide_eq_true (by omega)
      obtain ⟨si, rfl⟩ : ∃ si : Nat, s = si := ⟨s.toNat, by omega⟩
      by_cases h3 : (W.nz : Int) + 2 ≤ (si : Int)
      · have d3 : decide ((si : Int) < 2 + (W.nz : Int)) = false := decide_eq_false (by omega)
        have d4 : decide ((si : Int) < ((2 + W.nz : Nat) : Int)) = false := decide_eq_false (by omega)
        have d5 : decide (si < 2 + W.nz) = false := decide_eq_false (by omega)
        have hF : Hid (isB ns W si v = false) := by unfold Hid; rw [hR1.out, if_neg h2, if_pos h3]
        clear h2 h3
        go_wp2_with fail
        go_ret
        exact ⟨by rw [hF.out]; rfl, hx1.out.bel⟩
      · have d3 : decide ((si : Int) < 2 + (W.nz : Int)) = true := decide_eq_true (by omega)
        have d4 : decide ((si : Int) < ((2 + W.nz : Nat) : Int)) = true := decide_eq_true (by omega)
        have d5 : decide (si < 2 + W.nz) = true := decide_eq_true (by omega)
        have hlt : si < 2 + W.nz := by omega
        have hR2 : Hid (isB ns W si v = if si = 0 then decide (0 ≤ v ∧ v ≤ 1) else if si = 1 then mayB v else decide (0 ≤ v ∧ v < W.Z (si - 2))) := by
          unfold Hid
          rw [hR1.out, if_neg h2, if_neg h3]
          by_cases e0 : si = 0
          · rw [if_pos e0, if_pos (by omega)]
          · rw [if_neg e0, if_neg (by omega)]
            by_cases e1 : si = 1
            · rw [if_pos e1, if_pos (by omega)]
            · rw [if_neg e1, if_neg (by omega), show ((si : Int) - 2).toNat = si - 2 by omega]
        have hc := hcell'.out si hlt
        clear h2 h3 hR1
        by_cases e0 : si = 0
        · subst e0
          rw [show kindV P 0 = .func (.func 148) #[] #[] from rfl] at hc
          have hF : Hid (isB ns W ((0 : Nat) : Int) v = decide (0 ≤ v ∧ v ≤ 1)) := by unfold Hid; rw [hR2.out, if_pos rfl]
          have hkk := Lib.hid (kinds1_any v w1)
          clear hR2
          generalize decide (0 ≤ v ∧ v ≤ 1) = q at *
          go_wp2_with fail
          refine hkk.out.mono ?_
          rintro e w2 ⟨rfl, rfl⟩
          go_wp2_with fail
          go_ret
          exact ⟨by rw [hF.out]; rfl, hx1.out.bel⟩
        · by_cases e1 : si = 1
          · subst e1
            rw [show kindV P 1 = .func (.func 46) #[] #[] from rfl] at hc
            have hF : Hid (isB ns W ((1 : Nat) : Int) v = mayB v) := by unfold Hid; rw [hR2.out, if_neg (by omega), if_pos rfl]
            have hkk := Lib.hid (May_any v w1 hv'.out.1 hv'.out.2)
            clear hR2
            generalize mayB v = q at *
            go_wp2_with fail
            refine hkk.out.mono ?_
            rintro e w2 ⟨rfl, rfl⟩
            go_wp2_with fail
            go_ret
            exact ⟨by rw [hF.out]; rfl, hx1.out.bel⟩
          · rw [show kindV P si = .func (.func 149) #[] #[.pointer (some ⟨P (si - 2), 0, none⟩)] by unfold kindV; rw [if_neg e0, if_neg e1]] at hc
            have hF : Hid (isB ns W (si : Int) v = decide (0 ≤ v ∧ v < W.Z (si - 2))) := by unfold Hid; rw [hR2.out, if_neg e0, if_neg e1]
            have hkk := Lib.hid (kinds2_any v _ _ w1 (hsz'.out (si - 2) (by omega)))
            clear hR2
            generalize decide (0 ≤ v ∧ v < W.Z (si - 2)) = q at *
            go_wp2_with fail
            refine hkk.out.mono ?_
            rintro e w2 ⟨rfl, rfl⟩
            go_wp2_with fail
            go_ret
            exact ⟨by rw [hF.out]; rfl, hx1.out.bel⟩
  · have d1 : ((W.nz : Int) == (ns : Int)) = false := by simp; omega
    have hF : Hid (isB ns W s v = false) := by unfold Hid; rw [hR.out, if_pos h1]
    clear h1
    go_wp2_with fail
    go_ret
    exact ⟨by rw [hF.out]; rfl, hx1.out.bel⟩
end Go.Proofs.Ytdcohcjkimgccaa
