/- sig.macro. -/
import Derived.Test.YtlhnffmbjejphaaGreatZSexAToSexC
import Derived.Test.YtlhnffmbjejphaaGreatZSigMToSigA
import Derived.Test.YtlhnffmbjejphaaGreatZSetK
namespace Go.Proofs.YtlhnffmbjejphaaGreat
open Go.RowKit
set_option maxRecDepth 100000

set_option maxHeartbeats 4000000 in
theorem macro_any (A : Option Addr) (n c : Nat) (fv mv : Value) (m : Mc) (v0 v1 v2 v3 v4 v5 : Value) (w : World) (hn : n ≤ 9223372036854775800) (hM : McIs w m v0 v1 v2 v3 v4 v5) :
    Calls Tryz.prog 101 #[.agg #[.slice A n c, fv, mv], .agg #[v0, v1, v2, v3, v4, v5]] w fun e w' => e = .returned (.bool (macB n m)) ∧ Below w.heap.size w w' := by
  have hmm := @run_makeMap Tryz.prog
  have hth := Lib.hid fun x w => there_any A n c fv mv x w hn
  have hM' := Lib.hid hM
  obtain ⟨rfl, _, hP, rfl, hres, hB⟩ := hM
  obtain ⟨kk, tt, AA, nn, cc, rfl, rfl, rfl⟩ := hB.forms
  have hB' := Lib.hid hB
  have hP' := Lib.hid hP
  clear hB
  obtain ⟨PA, pc, rfl, ⟨hpn, hpc⟩, _⟩ := hP
  have hx0 : Bx w (mbox w A n c fv mv (.string m.name) (.slice PA m.np pc) (.int .i64 m.res) (.int .i8 kk) (.string tt) (.slice AA nn cc)) (((w.alloc (.cells #[.slice A n c, fv, mv] 26)).alloc (.cells #[.string m.name, .slice PA m.np pc, .int .i64 m.res, .int .i8 kk, .string tt, .slice AA nn cc] 61)).alloc (.map #[] 0)) :=
    ((((Bx.nil w).row #[.slice A n c, fv, mv] 26).row #[.string m.name, .slice PA m.np pc, .int .i64 m.res, .int .i8 kk, .string tt, .slice AA nn cc] 61).skip (.map #[] 0)).cast (by simp [rowK, mbox])
  have hs0 : SetAt 9 strL okS (((w.alloc (.cells #[.slice A n c, fv, mv] 26)).alloc (.cells #[.string m.name, .slice PA m.np pc, .int .i64 m.res, .int .i8 kk, .string tt, .slice AA nn cc] 61)).alloc (.map #[] 0)) (w.heap.size + 2) 0 (fun _ => false) := by
    have := SetAt.made (k := 9) (kf := strL) (ok := okS) ((w.alloc (.cells #[.slice A n c, fv, mv] 26)).alloc (.cells #[.string m.name, .slice PA m.np pc, .int .i64 m.res, .int .i8 kk, .string tt, .slice AA nn cc] 61))
    simpa using this
  have hx0' := Lib.hid hx0
  have hs0' := Lib.hid hs0
  clear hx0 hs0
  go_enter Tryz.func101, Tryz.ntmps101
  go_wp2_with fail
  go_loopw [7, 12] (fun _ i wr => ∃ j : Nat, j ≤ m.np ∧ i = .int .i64 j ∧ Hid (∀ k, k < j → pmB n m.ps k = true) ∧ Hid (Bx w (mbox w A n c fv mv (.string m.name) (.slice PA m.np pc) (.int .i64 m.res) (.int .i8 kk) (.string tt) (.slice AA nn cc)) wr) ∧
    Hid (SetAt 9 strL okS wr (w.heap.size + 2) j (amongS j fun k => (m.ps k).name))) (fun _ i _ => m.np - (intOf i).toNat)
  case atStart => exact ⟨0, Nat.zero_le _, rfl, fun k hk => absurd hk (Nat.not_lt_zero _), hx0'.out, hs0'.out.congr fun _ _ => rfl⟩
  case round =>
    clear hx0' hs0'
    obtain ⟨j, hj, rfl, hall, hx, hset⟩ := hrel
    have hxo := hx.out
    unfold mbox at hxo
    obtain ⟨⟨c0, _⟩, ⟨c1, _⟩, ⟨c2, _⟩, ⟨c3, _⟩, ⟨c4, _⟩, ⟨c5, _⟩, ⟨c6, _⟩, ⟨c7, _⟩, ⟨c8, _⟩, _⟩ := hxo.cells
    clear hxo
    by_cases hlt : j < m.np
    · have i1 : decide ((j : Int) < (m.np : Int)) = true := decide_eq_true (by omega)
      obtain ⟨_, _, e, _, hcs⟩ := hP'.out.below hx.out.bel
      injection e with e1 _ e3
      subst e1; subst e3
      obtain ⟨b, o, rfl, hbl, hcs⟩ := hcs (by omega)
      obtain ⟨⟨p0, p1⟩, hpr, hps⟩ := hcs j hlt
      clear hcs
      have hpr' := Lib.hid hpr
      have hlk := (hset.out.alloc (.cells #[.string (m.ps j).name, .int .i64 (m.ps j).sort] 170)).look strK (i := (m.ps j).name) hpr
      unfold strV at hlk
      have hx1 := Lib.hid (hx.out.skip (.cells #[.string (m.ps j).name, .int .i64 (m.ps j).sort] 170))
      have hpm : Hid (pmB n m.ps j = (!amongS j (fun k => (m.ps k).name) (m.ps j).name && useS (m.ps j).name && thereB n (m.ps j).sort)) := rfl
      generalize hsn : amongS j (fun k => (m.ps k).name) (m.ps j).name = sn at *
      clear hsn hpr
      cases sn with
      | true =>
        have hF := Lib.hid (macB_pm (ns := n) hlt hpm.out)
        go_wp2_with fail
        go_ret
        exact ⟨ret_bool hF.out.symm, hx1.out.bel⟩
      | false =>
        cases hu : useS (m.ps j).name with
        | false =>
          have hF := Lib.hid (macB_pm (ns := n) hlt (by rw [hpm.out, hu]; rfl))
          go_wp2_with (go_at_call 98; (with_reducible refine (usable_any _ _ hpr'.out).mono ?_); rintro e w2 ⟨rfl, rfl⟩)
          go_ret
          exact ⟨ret_bool hF.out.symm, hx1.out.bel⟩
        | true =>
          cases ht : thereB n (m.ps j).sort with
          | false =>
            have hF := Lib.hid (macB_pm (ns := n) hlt (by rw [hpm.out, hu, ht]; rfl))
            go_wp2_with (first | (go_at_call 98; (with_reducible refine (usable_any _ _ hpr'.out).mono ?_); rintro e w2 ⟨rfl, rfl⟩) | (go_at_call 133; (with_reducible refine (hth.out (m.ps j).sort _).mono ?_); rintro e w3 ⟨rfl, hb3⟩; have hx3 := Lib.hid (hx1.out.step hb3); clear hb3))
            go_ret
            exact ⟨ret_bool hF.out.symm, hx3.out.bel⟩
          | true =>
            have hok : Hid (pmB n m.ps j = true) := by unfold Hid; rw [hpm.out, hu, ht]; rfl
            have hx1p := Lib.hid (hx.out.row #[.string (m.ps j).name, .int .i64 (m.ps j).sort] 170)
            go_wp2_with (first | (go_at_call 98; (with_reducible refine (usable_any _ _ hpr'.out).mono ?_); rintro e w2 ⟨rfl, rfl⟩) | (go_at_call 133; (with_reducible refine (hth.out (m.ps j).sort _).mono ?_); rintro e w3 ⟨rfl, hb3⟩; have hx3 := Lib.hid (hx1.out.step hb3); have q0 := (hx1p.out.step hb3).cells.1.1; have hset3 := Lib.hid ((hset.out.alloc (.cells #[.string (m.ps j).name, .int .i64 (m.ps j).sort] 170)).below hb3 (by have := hset.out.lt; simp; omega)); clear hb3) | (at_mapUpdate; refine wpList_setK strK rfl _ _ _ rfl (w.heap.size + 2) j _ (amongS (j + 1) fun k => (m.ps k).name) rfl hset3.out (by unfold maxLen; omega) (m.ps j).name rfl rfl hpr'.out among_same (fun i hi => among_other hi) ?_; intro w4 hset4 hgr4))
            go_roundw
            case rel => exact ⟨j + 1, by omega, by go_num, fun k hk => by
              by_cases e : k = j
              · subst e; exact hok.out
              · exact hall.out k (by omega), hx3.out.grown hgr4 (by omega) (by simp [mbox]), hset4⟩
            case measure => simp [intOf]; omega
    · have i1 : decide ((j : Int) < (m.np : Int)) = false := decide_eq_false (by omega)
      have hmac : Hid (macB n m = (decide (m.np ≤ 3) && thereB n m.res && mayX m.body)) := by
        unfold Hid macB
        rw [upTo_yes fun i hi => hall.out i (by omega)]; rfl
      by_cases h3 : m.np ≤ 3
      · have d0 : decide ((m.np : Int) ≤ 3) = true := decide_eq_true (by omega)
        cases ht : thereB n m.res with
        | false =>
          have hF : Hid (macB n m = false) := by unfold Hid; rw [hmac.out, ht]; simp
          clear hset hM' hP' hall
          go_wp2_with (go_at_call 133; (with_reducible refine (hth.out m.res _).mono ?_); rintro e w3 ⟨rfl, hb3⟩; have hx3 := Lib.hid (hx.out.step hb3); clear hb3)
          go_ret
          exact ⟨ret_bool hF.out.symm, hx3.out.bel⟩
        | true =>
          have hF : Hid (macB n m = mayX m.body) := by unfold Hid; rw [hmac.out, ht, decide_eq_true h3]; rfl
          clear hset hM' hP' hall
          go_wp2_with (go_at_call 133; (with_reducible refine (hth.out m.res _).mono ?_); rintro e w3 ⟨rfl, hb3⟩; have hx3 := Lib.hid (hx.out.step hb3); have z3 := hx3.out.cells.2.2.2.1.1; have z4 := hx3.out.cells.2.2.2.2.1.1; have z5 := hx3.out.cells.2.2.2.2.2.1.1; clear hb3)
          refine (XMay_any m.body _ _ _ _ (SxIs.below hx3.out.bel _ _ _ _ hB'.out)).mono ?_
          rintro e w5 ⟨rfl, hb5⟩
          have hx5 := Lib.hid (hx3.out.step hb5)
          clear hb5
          go_wp2_with fail
          go_ret
          exact ⟨ret_bool hF.out.symm, hx5.out.bel⟩
      · have d0 : decide ((m.np : Int) ≤ 3) = false := decide_eq_false (by omega)
        have hF : Hid (macB n m = false) := by unfold Hid; rw [hmac.out, decide_eq_false h3]; rfl
        clear hset hM' hP' hall
        go_wp2_with fail
        go_ret
        exact ⟨ret_bool hF.out.symm, hx.out.bel⟩
end Go.Proofs.YtlhnffmbjejphaaGreat

namespace Go.Proofs.YtlhnffmbjejphaaGreat
open Go.RowKit
open Go.ChangeMaps (setBlock)
set_option maxRecDepth 100000

def NamesAt (w : World) (mb n : Nat) (S : ByteArray × Bool → Bool) : Prop := SetAt 134 nmL okN w mb n S
/-- Whatever boxes were there, but for the map's block, are there. -/
def KeepsB (mb : Nat) (w w' : World) : Prop := ∀ w0 K, Bx w0 K w → w0.heap.size ≤ mb → (∀ a ∈ K, a.1 ≠ mb) → Bx w0 K w'
def FreshP (S : ByteArray × Bool → Bool) (s : ByteArray) (b : Bool) (mb n : Nat) (w : World) (e : Ending) (w' : World) : Prop :=
  e = .returned (.bool (frB S s b)) ∧ NamesAt w' mb (n + 1) (addN S (s, b)) ∧ KeepsB mb w w'
theorem fresh_of (S : ByteArray × Bool → Bool) (s : ByteArray) (b : Bool) (mb sb n : Nat) (w : World) (hs : StrR s) (h : NamesAt w mb n S) (hn : n < maxLen) (c0 : w.cell? ⟨sb, 0, none⟩ = some (.map (some mb))) (hsb : sb < w.heap.size) :
    Calls Tryz.prog 97 #[.string s, .bool b, .pointer (some ⟨sb, 0, none⟩)] w (FreshP S s b mb n w) := by
  have h1 : NamesAt (w.alloc (.cells #[.string s, .bool b] 134)) mb n S := h.alloc _
  have hlk := h1.look nameK (i := (s, b)) hs
  unfold nameV at hlk
  simp only at hlk
  have h1' := Lib.hid h1
  have hfr : Hid (frB S s b = (useS s && !S (s, b) && (b || !coreS s))) := rfl
  have hlt := h.lt
  have hx0 : Hid (KeepsB mb w (w.alloc (.cells #[.string s, .bool b] 134))) := fun w0 K hx _ _ => hx.skip _
  have hSd : ∀ j, j ≠ (s, b) → addN S (s, b) j = S j := fun j hj => by unfold addN; rw [decide_eq_false hj]; rfl
  have hS1 : addN S (s, b) (s, b) = true := by unfold addN; simp
  have hSd' := Lib.hid hSd
  have hS1' := Lib.hid hS1
  clear h1 h hSd hS1
  have c1 : (w.alloc (.cells #[.string s, .bool b] 134)).cell? ⟨sb, 0, none⟩ = some (.map (some mb)) := by rw [World.cell?_alloc_lt _ _ _ hsb]; exact c0
  clear c0
  generalize hsn : S (s, b) = sn at *
  clear hsn
  cases hu : useS s with
  | false =>
    have hF : Hid (frB S s b = false) := by unfold Hid; rw [hfr.out, hu]; rfl
    go_enter Tryz.func97, Tryz.ntmps97
    go_wp2_with (first | (go_at_call 98; (with_reducible refine (usable_any _ _ hs).mono ?_); rintro e w2 ⟨rfl, rfl⟩) | (go_at_call 99; (with_reducible refine (Core_any _ _).mono ?_); rintro e w2 ⟨rfl, rfl⟩) | (at_mapUpdate; refine wpList_setK nameK rfl _ _ _ rfl mb n _ (addN S (s, b)) rfl h1'.out hn (s, b) rfl rfl hs hS1'.out hSd'.out ?_; intro w4 hset4 hgr4))
    go_ret
    exact ⟨ret_bool hF.out.symm, hset4, fun w0 K hx hw hK => (hx0.out w0 K hx hw hK).grown hgr4 hw hK⟩
  | true =>
    cases sn with
    | true =>
      have hF : Hid (frB S s b = false) := by unfold Hid; rw [hfr.out, hu]; rfl
      go_enter Tryz.func97, Tryz.ntmps97
      go_wp2_with (first | (go_at_call 98; (with_reducible refine (usable_any _ _ hs).mono ?_); rintro e w2 ⟨rfl, rfl⟩) | (go_at_call 99; (with_reducible refine (Core_any _ _).mono ?_); rintro e w2 ⟨rfl, rfl⟩) | (at_mapUpdate; refine wpList_setK nameK rfl _ _ _ rfl mb n _ (addN S (s, b)) rfl h1'.out hn (s, b) rfl rfl hs hS1'.out hSd'.out ?_; intro w4 hset4 hgr4))
      go_ret
      exact ⟨ret_bool hF.out.symm, hset4, fun w0 K hx hw hK => (hx0.out w0 K hx hw hK).grown hgr4 hw hK⟩
    | false =>
      cases b with
      | true =>
        have hF : Hid (frB S s true = true) := by unfold Hid; rw [hfr.out, hu]; rfl
        go_enter Tryz.func97, Tryz.ntmps97
        go_wp2_with (first | (go_at_call 98; (with_reducible refine (usable_any _ _ hs).mono ?_); rintro e w2 ⟨rfl, rfl⟩) | (go_at_call 99; (with_reducible refine (Core_any _ _).mono ?_); rintro e w2 ⟨rfl, rfl⟩) | (at_mapUpdate; refine wpList_setK nameK rfl _ _ _ rfl mb n _ (addN S (s, true)) rfl h1'.out hn (s, true) rfl rfl hs hS1'.out hSd'.out ?_; intro w4 hset4 hgr4))
        go_ret
        exact ⟨ret_bool hF.out.symm, hset4, fun w0 K hx hw hK => (hx0.out w0 K hx hw hK).grown hgr4 hw hK⟩
      | false =>
        have hF : Hid (frB S s false = !coreS s) := by unfold Hid; rw [hfr.out, hu]; rfl
        go_enter Tryz.func97, Tryz.ntmps97
        go_wp2_with (first | (go_at_call 98; (with_reducible refine (usable_any _ _ hs).mono ?_); rintro e w2 ⟨rfl, rfl⟩) | (go_at_call 99; (with_reducible refine (Core_any _ _).mono ?_); rintro e w2 ⟨rfl, rfl⟩) | (at_mapUpdate; refine wpList_setK nameK rfl _ _ _ rfl mb n _ (addN S (s, false)) rfl h1'.out hn (s, false) rfl rfl hs hS1'.out hSd'.out ?_; intro w4 hset4 hgr4))
        go_ret
        exact ⟨ret_bool hF.out.symm, hset4, fun w0 K hx hw hK => (hx0.out w0 K hx hw hK).grown hgr4 hw hK⟩
end Go.Proofs.YtlhnffmbjejphaaGreat
