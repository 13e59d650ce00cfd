/- value.kinds. -/
import Derived.Test.YtlhnffmbjejphaaGreatZSigMToSigA
import Derived.Test.YtlhnffmbjejphaaGreatZIntsToSame10
import Derived.Test.YtlhnffmbjejphaaGreatZOwn
import Derived.Lib.OwnKind
namespace Go.Proofs.YtlhnffmbjejphaaGreat
open Go.RowKit
set_option maxRecDepth 100000

theorem kinds1_any (v : Int) (w : World) : Calls Tryz.prog 135 #[.int .i64 v] w fun e w' => e = .returned (.bool (decide (0 ≤ v ∧ v ≤ 1))) ∧ w' = w := by
  go_enter Tryz.func135, Tryz.ntmps135
  go_wp2
  go_ret
  refine ⟨ret_bool ?_, rfl⟩
  rw [Bool.eq_iff_iff]; simp; omega
theorem kinds2_any (v z : Int) (b : Nat) (w : World) (h : w.cell? ⟨b, 0, none⟩ = some (.int .i64 z)) : Calls Tryz.prog 136 #[.int .i64 v, .pointer (some ⟨b, 0, none⟩)] w fun e w' => e = .returned (.bool (decide (0 ≤ v ∧ v < z))) ∧ w' = w := by
  go_enter Tryz.func136, Tryz.ntmps136
  by_cases h0 : 0 ≤ v
  · have d0 : decide (0 ≤ v) = true := decide_eq_true h0
    have hR : Hid (decide (0 ≤ v ∧ v < z) = decide (v < z)) := by unfold Hid; simp [h0]
    clear h0
    go_wp2
    go_ret
    exact ⟨by rw [hR.out]; rfl, rfl⟩
  · have d0 : decide (0 ≤ v) = false := decide_eq_false h0
    have hR : Hid (decide (0 ≤ v ∧ v < z) = false) := by unfold Hid; simp [h0]
    clear h0
    go_wp2
    go_ret
    exact ⟨by rw [hR.out]; rfl, rfl⟩
theorem info_fib : (Tryz.prog.info? 95).map (fun i => (i.zero, i.size, i.bytes)) = some (some .nilFunc, 1, 8) := by kernel_rfl
/-- The i-th test of a sort's values; those of the world's own sorts hold the cell of their size. -/
def kindV (P : Nat → Nat) (i : Nat) : Value := if i = 0 then .func (.func 135) #[] #[] else if i = 1 then .func (.func 40) #[] #[] else .func (.func 136) #[] #[.pointer (some ⟨P (i - 2), 0, none⟩)]
def OwnK (w : World) (base : Nat) (v : Value) (n : Nat) (P : Nat → Nat) : Prop := OwnG w base 95 1 v n (fun i => [kindV P i])
def setP (P : Nat → Nat) (j b : Nat) (i : Nat) : Nat := if i = j then b else P i
theorem kindV_set {P : Nat → Nat} {j b i : Nat} (h : i < 2 + j) : kindV (setP P j b) i = kindV P i := by
  unfold kindV setP
  by_cases h0 : i = 0
  · rw [if_pos h0, if_pos h0]
  · rw [if_neg h0, if_neg h0]
    by_cases h1 : i = 1
    · rw [if_pos h1, if_pos h1]
    · rw [if_neg h1, if_neg h1, if_neg (by omega)]
theorem kindV_new (P : Nat → Nat) (j b : Nat) : kindV (setP P j b) (2 + j) = .func (.func 136) #[] #[.pointer (some ⟨b, 0, none⟩)] := by
  unfold kindV setP
  rw [if_neg (by omega), if_neg (by omega), if_pos (by omega)]
theorem wpList_appK {P : Program} (hP : P = Tryz.prog) {w : World} {ops : Array Oper} {rest : List Oper} {o : Oper} {a : Act} {Q : Exit → Act → World → Prop} (hgd : o.guard = none) (s x : Operand)
    (ho : o.op = .call { callee := .builtin .append, args := #[s, x], argTypes := #[141, 141] })
    (base : Nat) (v : Value) (j : Nat) (Pt : Nat → Nat) (hs : a.eval s = v) (hown : OwnK w base v (2 + j) Pt) (g c b : Nat) (hx : a.eval x = .slice (some ⟨g, 0, none⟩) 1 c) (hc : w.cell? ⟨g, 0, none⟩ = some (.func (.func 136) #[] #[.pointer (some ⟨b, 0, none⟩)]))
    (hlen : j ≤ 1000000) (hb : base ≤ w.heap.size)
    (h : ∀ v' w', OwnK w' base v' (2 + (j + 1)) (setP Pt j b) → Below base w w' → w.grownBy w' v.ownBlock → wpList P ops Q rest (a.put o.dst v') w') : wpList P ops Q (o :: rest) a w := by
  subst hP
  obtain ⟨i0, hi, hz0, hz1, hz2⟩ := info_parts info_fib
  refine wpList_append_own w hgd s x 141 ho base 95 i0 .nilFunc 1 8 Tryz.underlying141 hi hz0 hz1 hz2 rfl (by decide) v (2 + j) _ hs hown ⟨g, 0, none⟩ 1 c [.func (.func 136) #[] #[.pointer (some ⟨b, 0, none⟩)]] hx rfl ?_ ?_ ?_ ?_ hb ?_
  · intro j u hu
    cases j with
    | zero => simp at hu; subst hu; exact hc
    | succ j => simp at hu
  · intro u hu; simp at hu; subst hu; rfl
  · unfold maxLen; omega
  · omega
  · intro v' w' h1 h2 _
    refine h v' w' ?_ ((Below.refl base w).grown h2 hb (fun k hk => (OwnG.lt hown k hk).1)) h2
    have e := flat_app (fun i => [kindV Pt i]) (fun _ => [Value.func (.func 136) #[] #[.pointer (some ⟨b, 0, none⟩)]]) (2 + j) 1
    rw [show (List.range 1).flatMap (fun _ => [Value.func (.func 136) #[] #[.pointer (some ⟨b, 0, none⟩)]]) = [Value.func (.func 136) #[] #[.pointer (some ⟨b, 0, none⟩)]] by simp] at e
    rw [e] at h1
    refine OwnG.congr h1 fun i hi => ?_
    by_cases h3 : i < 2 + j
    · rw [if_pos h3, kindV_set h3]
    · rw [if_neg h3, show i = 2 + j by omega, kindV_new]
/-- The cells of the sizes. -/
def SizesAt (x : World) (j : Nat) (Z : Nat → Int) (P : Nat → Nat) : Prop := ∀ i, i < j → x.heap[P i]? = some (.cells #[.int .i64 (Z i)] 3)
theorem SizesAt.apart {x : World} {j base m : Nat} {Z : Nat → Int} {P Q : Nat → Nat} {v : Value} (h : SizesAt x j Z P) (ho : OwnK x base v m Q) {i : Nat} (hi : i < j) : v.ownBlock ≠ some (P i) := fun e => by
  obtain ⟨c, fz, h1⟩ := Lib.ownsRow_kind ho _ e
  rw [h i hi] at h1
  injection h1 with h1
  injection h1 with _ h2 _
  exact absurd h2 (by decide)
theorem SizesAt.alloc {x : World} {j : Nat} {Z : Nat → Int} {P : Nat → Nat} (h : SizesAt x j Z P) (o : Obj) : SizesAt (x.alloc o) j Z P := fun i hi => by
  have h1 := h i hi
  exact (heap_alloc_old x o (Array.getElem?_eq_some_iff.1 h1).1).trans h1
theorem SizesAt.more {x : World} {j : Nat} {Z : Nat → Int} {P : Nat → Nat} (h : SizesAt x j Z P) : SizesAt (x.alloc (.cells #[.int .i64 (Z j)] 3)) (j + 1) Z (setP P j x.heap.size) := fun i hi => by
  unfold setP
  by_cases e : i = j
  · subst e; rw [if_pos rfl]; exact heap_alloc_new x _
  · rw [if_neg e]; exact (h.alloc _) i (by omega)
theorem SizesAt.grown {x y : World} {j base m : Nat} {Z : Nat → Int} {P Q : Nat → Nat} {v : Value} (h : SizesAt x j Z P) (ho : OwnK x base v m Q) (hg : x.grownBy y v.ownBlock) : SizesAt y j Z P := fun i hi => by
  have h1 := h i hi
  rw [hg.block (P i) (Array.getElem?_eq_some_iff.1 h1).1 (fun e => h.apart ho hi e.symm)]
  exact h1
/-- The tests of a world's sorts lie so. -/
structure KindsAt (x : World) (v : Value) (n : Nat) (Z : Nat → Int) (P : Nat → Nat) : Prop where
  form : ∃ g c, v = .slice (some ⟨g, 0, none⟩) (2 + n) c ∧ g < x.heap.size ∧ ∀ i, i < 2 + n → x.cell? ⟨g, i, none⟩ = some (kindV P i)
  size : ∀ i, i < n → x.cell? ⟨P i, 0, none⟩ = some (.int .i64 (Z i))
set_option maxHeartbeats 4000000 in
theorem kinds_any (b : Nat) (zv : Value) (n : Nat) (Z : Nat → Int) (w : World) (h : w.cell? ⟨b, 0, none⟩ = some zv) (hb : b < w.heap.size) (hZ : IntsAt w zv n Z) (hn : n ≤ 1000000) :
    Calls Tryz.prog 103 #[.pointer (some ⟨b, 0, none⟩)] w fun e w' => ∃ v P, e = .returned v ∧ KindsAt w' v n Z P ∧ Below w.heap.size w w' := by
  have hmf : ∀ (fn : Go.Fn) (first cap : Array Value) (w : World), (Instr.makeFunc fn first cap).run Tryz.prog w = .ok (.func fn first cap) w := fun _ _ _ _ => rfl
  have hZ' := Lib.hid hZ
  obtain ⟨A, c, rfl, hm, hRz, hcs⟩ := hZ
  have hcs' := Lib.hid hcs
  have hb' := Lib.hid hb
  have h' := Lib.hid h
  clear hcs hRz
  have hown0 : Hid (OwnK (w.alloc (.cells #[.func (.func 135) #[] #[], .func (.func 40) #[] #[]] 95)) w.heap.size (.slice (some ⟨w.heap.size, 0, none⟩) 2 2) (2 + 0) (fun _ => 0)) := by
    have := World.ownsRow_lit (e := 95) (size := 1) w #[.func (.func 135) #[] #[], .func (.func 40) #[] #[]] 2 (Nat.le_refl _) (by unfold maxLen; omega) rfl
    exact this
  have hbe0 : Hid (Below w.heap.size w (w.alloc (.cells #[.func (.func 135) #[] #[], .func (.func 40) #[] #[]] 95))) := (Below.refl _ _).alloc (Nat.le_refl _) _
  go_enter Tryz.func103, Tryz.ntmps103
  go_wp2_with fail
  go_loopw [3, 5, 12] (fun v _ i wr => ∃ (j : Nat) (P : Nat → Nat), j ≤ n ∧ i = .int .i64 j ∧ Hid (OwnK wr w.heap.size v (2 + j) P) ∧ Hid (SizesAt wr j Z P) ∧ Hid (Below w.heap.size w wr)) (fun _ _ i _ => n - (intOf i).toNat)
  case atStart => exact ⟨0, fun _ => 0, Nat.zero_le _, rfl, hown0.out, fun i hi => absurd hi (Nat.not_lt_zero _), hbe0.out⟩
  case round =>
    clear hown0 hbe0
    obtain ⟨j, P, hj, rfl, hown, hsz, hbe⟩ := hrel
    by_cases hlt : j < n
    · have i1 : decide ((j : Int) < (n : Int)) = true := decide_eq_true (by omega)
      obtain ⟨zb, zo, rfl, hzb, hc⟩ := hcs'.out (by omega)
      have rj := (hbe.out.cell (p := ⟨zb, zo + j, none⟩) hzb).trans (hc j hlt)
      have hz := hbe.out.size
      have hownA := Lib.hid (OwnG.alloc (OwnG.alloc hown.out (.cells #[.int .i64 (Z j)] 3)) (.cells #[.func (.func 136) #[] #[.pointer (some ⟨wr.heap.size, 0, none⟩)]] 95))
      clear hc
      go_wp2_with (at_builtin; refine wpList_appK rfl rfl _ _ rfl w.heap.size _ j P rfl hownA.out (wr.heap.size + 1) 1 wr.heap.size rfl ?c1 ?c2 ?c3 ?_)
      case c1 => simp
      case c2 => omega
      case c3 => simp; omega
      intro v' w4 hown4 hb4 hg4
      have hsz4 := Lib.hid (((hsz.out.more).alloc (.cells #[.func (.func 136) #[] #[.pointer (some ⟨wr.heap.size, 0, none⟩)]] 95)).grown hownA.out hg4)
      have hown4' := Lib.hid hown4
      have hbe4 := Lib.hid (((hbe.out.alloc (by omega) _).alloc (by simp; omega) _).trans hb4)
      clear hown4 hb4 hg4 hownA
      go_wp2_with fail
      go_roundw
      case rel => exact ⟨j + 1, _, by omega, by go_num, hown4'.out, hsz4.out, hbe4.out⟩
      case measure => simp [intOf]; omega
    · have i1 : decide ((j : Int) < (n : Int)) = false := decide_eq_false (by omega)
      obtain rfl : j = n := by omega
      go_wp2_with fail
      go_ret
      obtain ⟨g, cap, rfl, _, hgl⟩ := World.ownsRow.form hown.out (by omega : 0 < 2 + j)
      obtain ⟨A, c, hv, hs, hcell⟩ := OwnG.at_ hown.out (fun _ => rfl)
      injection hv with e1 _ e3
      subst e1; subst e3
      obtain ⟨g', o, hA, _, hcell⟩ := hcell (by omega)
      injection hA with hA
      injection hA with e1 e2
      subst e1; subst e2
      refine ⟨_, P, rfl, ⟨⟨g, cap, rfl, hgl, fun i hi => ?_⟩, fun i hi => (cell_of_row _ _ _ _ _ _ (hsz.out i hi)).trans rfl⟩, hbe.out⟩
      have := hcell i hi 0 _ rfl
      rwa [Nat.zero_add, Nat.mul_one, Nat.add_zero] at this
end Go.Proofs.YtlhnffmbjejphaaGreat
