/- typing.rules, typing.alike, typing.Op. -/
import Derived.Test.YtecmoahadckomaaZTyWR6OpR6OpB
import Derived.Deep.WholeRow
import Derived.Laws.Rows
import Derived.Deep.Cut
import Derived.Test.YtecmoahadckomaaZIntsToNumW
import Derived.BigQuiet
import Derived.Deep.QuietTactic
namespace Go.Proofs.Ytecmoahadckomaa
open Go.RowKit
set_option maxRecDepth 100000

def ruleV (op : Int) : Value := if tyK op then .agg #[.int .i64 (tyN op), .int .i64 (tyA op), .int .i64 (tyR op), .bool true] else .agg #[.int .i64 0, .int .i64 0, .int .i64 0, .bool false]

theorem wpList_store_last {ops : Array Oper} {rest : List Oper} {o : Oper} {a : Act} {w0 : World} {Q : Exit → Act → World → Prop} {c c' : Array Value} {ty : TypeId} (hgd : o.guard = none) (hd : o.dst = none) (x y : Operand) (ho : o.op = .store ty x y)
    (g : Nat) (hg : g = w0.heap.size) (hx : a.eval x = .pointer (some ⟨g, 0, none⟩)) (hy : a.eval y = .agg c') (hi : (Try.prog.info? ty).map (·.size) = some c'.size) (hc : c.size = c'.size) (h1 : c'.all (·.oneCell') = true)
    (h : wpList Try.prog ops Q rest a (w0.alloc (.cells c' ty))) : wpList Try.prog ops Q (o :: rest) a (w0.alloc (.cells c ty)) := by
  subst hg
  refine wpList_plain hgd fun _ hK => ?_
  unfold Oper.wp execOp
  simp only [ho, hx, hy, Instr.storeAt, Instr.sureAddr, Sem.run_bind, Sem.run_pure, Result.andThen_ok, run_storeVar_new w0 ty c c' hi hc h1]
  exact hK _ _ (by simpa [hd, Act.put] using h)

def tyCells : Array Value := #[.int .i64 0, .int .i64 (-1), .int .i64 0, .bool true, .int .i64 1, .int .i64 0, .int .i64 0, .bool true, .int .i64 2, .int .i64 0, .int .i64 0, .bool true, .int .i64 2, .int .i64 0, .int .i64 0, .bool true, .int .i64 2, .int .i64 0, .int .i64 0, .bool true, .int .i64 2, .int .i64 0, .int .i64 0, .bool true, .int .i64 2, .int .i64 (-1), .int .i64 0, .bool true, .int .i64 3, .int .i64 (-1), .int .i64 (-1), .bool true, .int .i64 2, .int .i64 1, .int .i64 0, .bool true, .int .i64 2, .int .i64 1, .int .i64 0, .bool true, .int .i64 0, .int .i64 (-1), .int .i64 1, .bool true, .int .i64 1, .int .i64 1, .int .i64 1, .bool true, .int .i64 2, .int .i64 1, .int .i64 0, .bool true]
theorem ty_built : Try.prog.built 100 [(0, .agg #[.int .i64 0, .int .i64 (-1), .int .i64 0, .bool true]), (1, .agg #[.int .i64 1, .int .i64 0, .int .i64 0, .bool true]), (2, .agg #[.int .i64 2, .int .i64 0, .int .i64 0, .bool true]), (3, .agg #[.int .i64 2, .int .i64 0, .int .i64 0, .bool true]), (4, .agg #[.int .i64 2, .int .i64 0, .int .i64 0, .bool true]), (5, .agg #[.int .i64 2, .int .i64 0, .int .i64 0, .bool true]), (6, .agg #[.int .i64 2, .int .i64 (-1), .int .i64 0, .bool true]), (7, .agg #[.int .i64 3, .int .i64 (-1), .int .i64 (-1), .bool true]), (8, .agg #[.int .i64 2, .int .i64 1, .int .i64 0, .bool true]), (9, .agg #[.int .i64 2, .int .i64 1, .int .i64 0, .bool true]), (10, .agg #[.int .i64 0, .int .i64 (-1), .int .i64 1, .bool true]), (11, .agg #[.int .i64 1, .int .i64 1, .int .i64 1, .bool true]), (12, .agg #[.int .i64 2, .int .i64 1, .int .i64 0, .bool true])] = some tyCells := by kernel_rfl
theorem ty_size : (Try.prog.info? 100).map (·.size) = some tyCells.size := by kernel_rfl
theorem ty_one : tyCells.all (·.oneCell') = true := by kernel_rfl
theorem wpList_buildK {ops : Array Oper} {rest : List Oper} {o : Oper} {a : Act} {w : World} {Q : Exit → Act → World → Prop} {cells : Array Value} {t : TypeId} {parts : Array (Nat × Operand)} {vs : List (Nat × Value)} (hc : Try.prog.built t vs = some cells) (hgd : o.guard = none) (ho : o.op = .build t parts)
    (hv : parts.toList.map (fun p => (p.1, a.eval p.2)) = vs) (h : wpList Try.prog ops Q rest (a.put o.dst (.agg cells)) w) : wpList Try.prog ops Q (o :: rest) a w := by
  refine wpList_plain hgd fun K hK => ?_
  have hv' : (parts.map fun (i, x) => (i, a.eval x)).toList = vs := by rw [Array.toList_map]; exact hv
  refine wp_build t parts ho (by rw [hv', hc]; rfl) ?_
  rw [hv', hc]
  exact hK _ _ h
theorem ty_at {op : Int} (h : tyK op = true) : tyCells[op.toNat * 4]? = some (.int .i64 (tyN op)) ∧ tyCells[op.toNat * 4 + 1]? = some (.int .i64 (tyA op)) ∧ tyCells[op.toNat * 4 + 2]? = some (.int .i64 (tyR op)) ∧ tyCells[op.toNat * 4 + 3]? = some (.bool true) := by
  rcases tyop_cases h with h | h | h | h | h | h | h | h | h | h | h | h | h <;> subst h <;> exact ⟨rfl, rfl, rfl, rfl⟩

theorem rule_ret {Q : Ending → World → Prop} {a : Act} {w : World} {B : Obj} {x y z : Int} {b : Bool} (hd : a.defers = []) (hp : a.tmps.getD 2 undef = .pointer (some ⟨w.heap.size, 0, none⟩))
    (h : Q (.returned (.agg #[.int .i64 x, .int .i64 y, .int .i64 z, .bool b])) ((w.alloc (.cells #[.int .i64 x, .int .i64 y, .int .i64 z, .bool b] 82)).alloc B)) :
    bodyPost Try.prog Try.f57 Q Exit.ret a ((w.alloc (.cells #[.int .i64 x, .int .i64 y, .int .i64 z, .bool b] 82)).alloc B) := by
  refine bodyPost_ret (results_cell_row (P := Try.prog) (p := 2) (ty := 82) rfl a.tmps _ w.heap.size 82 #[.int .i64 x, .int .i64 y, .int .i64 z, .bool b] (0, 0) _ hp ?_ Try.underlying82 rfl (by kernel_rfl)) hd h
  exact (Below.heap_alloc (w.alloc _) B w.heap.size (by simp)).trans (by show (w.heap.push _)[w.heap.size]? = _; simp)

set_option maxHeartbeats 4000000 in
theorem rules_any (op : Int) (w : World) (h8 : R8 op) : Calls Try.prog 57 #[.int .i8 op] w fun e w' => e = .returned (ruleV op) ∧ Below w.heap.size w w' := by
  obtain ⟨r0, r1⟩ := h8
  go_enter Try.func57, Try.ntmps57
  go_upto_region 2 with (first | refine wpList_buildK ty_built rfl rfl rfl ?_ | refine wpList_store_last rfl rfl (.tmp 3) (.tmp 17) rfl (w.heap.size + 1) (by simp) rfl rfl ty_size rfl ty_one ?_)
  cases hk : tyK op with
  | false =>
    have hR : Hid (ruleV op = .agg #[.int .i64 0, .int .i64 0, .int .i64 0, .bool false]) := by unfold Hid ruleV; rw [hk]; rfl
    unfold tyK at hk
    simp at hk
    by_cases h0 : op < 0
    · have d0 : decide (op < 0) = true := decide_eq_true h0
      clear hk
      go_wp2
      exact rule_ret rfl rfl ⟨by rw [hR.out], ((Below.refl _ _).alloc (Nat.le_refl _) _).alloc (by simp) _⟩
    · have d0 : decide (op < 0) = false := decide_eq_false h0
      have d1 : decide (13 ≤ op) = true := decide_eq_true (by omega)
      clear hk
      go_wp2
      exact rule_ret rfl rfl ⟨by rw [hR.out], ((Below.refl _ _).alloc (Nat.le_refl _) _).alloc (by simp) _⟩
  | true =>
    obtain ⟨t0, t1, t2, t3⟩ := ty_at hk
    have hR : Hid (ruleV op = .agg #[.int .i64 (tyN op), .int .i64 (tyA op), .int .i64 (tyR op), .bool true]) := by unfold Hid ruleV; rw [hk]; rfl
    unfold tyK at hk
    simp at hk
    obtain ⟨k0, k1⟩ := hk
    have d0 : decide (op < 0) = false := decide_eq_false (by omega)
    have d1 : decide (13 ≤ op) = false := decide_eq_false (by omega)
    go_wp2
    exact rule_ret rfl rfl ⟨by rw [hR.out], ((Below.refl _ _).alloc (Nat.le_refl _) _).alloc (by simp) _⟩

set_option maxHeartbeats 1000000 in
theorem alike_any (v : Value) (m : Nat) (f : Nat → Int) (w : World) (hv : IntsAt w v m f) :
    Calls Try.prog 58 #[v] w fun e w' => e = .returned (.bool (alikeB m f)) ∧ w' = w := by
  obtain ⟨U, cu, rfl, hm, hR, hcu⟩ := hv
  have hcu' := Lib.hid hcu
  clear hcu hR
  go_enter Try.func58, Try.ntmps58
  go_wp2
  go_loopw [7] (fun i wr => ∃ j : Nat, j ≤ m ∧ i = .int .i64 j ∧ wr = w ∧ Hid (∀ k, k < j → f k = f 0)) (fun i _ => m - (intOf i).toNat)
  case atStart => exact ⟨0, Nat.zero_le _, rfl, rfl, fun k hk => absurd hk (Nat.not_lt_zero _)⟩
  case round =>
    obtain ⟨j, hj, rfl, rfl, hall⟩ := hrel
    by_cases hlt : j < m
    · have i1 : decide ((j : Int) < (m : Int)) = true := decide_eq_true (by omega)
      obtain ⟨b, o, rfl, hb, hc⟩ := hcu'.out (by omega)
      have rj := hc j hlt
      have r0 := hc 0 (by omega)
      rw [Nat.add_zero] at r0
      clear hc
      by_cases he : f j = f 0
      · have d1 : (f j != f 0) = false := by simpa using he
        have he' := Lib.hid he
        clear he
        go_wp2
        go_roundw
        case rel => exact ⟨j + 1, by omega, by go_num, trivial, fun k hk => by
          by_cases e : k = j
          · subst e; exact he'.out
          · exact hall.out k (by omega)⟩
        case measure => simp [intOf]; omega
      · have d1 : (f j != f 0) = true := by simpa using he
        have hno := Lib.hid (alike_no hlt he)
        clear he
        go_wp2
        go_ret
        exact ⟨by rw [hno.out]; rfl, rfl⟩
    · have i1 : decide ((j : Int) < (m : Int)) = false := decide_eq_false (by omega)
      have hyes := Lib.hid (alike_yes (m := m) (f := f) fun i hi => hall.out i (by omega))
      go_wp2
      go_ret
      exact ⟨by rw [hyes.out]; rfl, rfl⟩
end Go.Proofs.Ytecmoahadckomaa

namespace Go.Proofs.Ytecmoahadckomaa
open Go.RowKit
set_option maxRecDepth 100000

set_option maxHeartbeats 4000000 in
theorem TOp_plain (op : Int) (v : Value) (m : Nat) (f : Nat → Int) (w : World) (h8 : R8 op) (h7 : op ≠ 7) (hv : IntsAt w v m f) :
    Calls Try.prog 34 #[.int .i8 op, v] w fun e w' => e = .returned (opV (opT op m f)) ∧ Below w.heap.size w w' := by
  have hv' := Lib.hid hv
  have hr8 := Lib.hid h8
  have h7' := Lib.hid h7
  have d7 : (op == 7) = false := by simpa using h7
  have hfree := tyR_free h7
  obtain ⟨U, cu, rfl, hm, hRu, hcu⟩ := hv
  have hcu' := Lib.hid hcu
  clear hcu hRu h8 h7
  go_enter Try.func34, Try.ntmps34
  go_wp2_with fail
  refine (rules_any op w hr8.out).mono ?_
  rintro e w1 ⟨rfl, hb1⟩
  have hx1 := (Bx.nil w).step hb1
  cases hk : tyK op with
  | false =>
    have hR : Hid (opT op m f = (0, 2)) := by unfold Hid opT; rw [if_pos hk]
    rw [show ruleV op = .agg #[.int .i64 0, .int .i64 0, .int .i64 0, .bool false] by unfold ruleV; rw [hk]; rfl]
    clear hk
    have hbw := (hx1.skip (.cells #[.int .i64 0, .int .i64 0, .int .i64 0, .bool false] 82)).bel
    go_wp2
    refine bodyPost_ret (results_tmp2 rfl _ _ _) rfl ⟨by rw [hR.out]; rfl, hbw⟩
  | true =>
    rw [show ruleV op = .agg #[.int .i64 (tyN op), .int .i64 (tyA op), .int .i64 (tyR op), .bool true] by unfold ruleV; rw [hk]; rfl]
    have hk' := Lib.hid hk
    have hx2 := Lib.hid (hx1.skip (.cells #[.int .i64 (tyN op), .int .i64 (tyA op), .int .i64 (tyR op), .bool true] 82))
    have hR1 : Hid ((m : Int) ≠ tyN op → opT op m f = (0, 2)) := fun h => by unfold opT; rw [if_neg (by rw [hk'.out]; simp), if_pos h]
    have hR2 : Hid ((m : Int) = tyN op → negS m f = true → opT op m f = (0, 33)) := fun h h2 => by
      unfold opT; rw [if_neg (by rw [hk'.out]; simp), if_neg (fun h3 => h3 h), if_neg (fun h3 => h7'.out h3.1), if_pos h2]
    have hR3 : Hid ((m : Int) = tyN op → negS m f = false → opT op m f = tailT op m f) := fun h h2 => by
      unfold opT; rw [if_neg (by rw [hk'.out]; simp), if_neg (fun h3 => h3 h), if_neg (fun h3 => h7'.out h3.1), if_neg (by rw [h2]; simp), if_neg h7'.out]
    have hT : Hid (∀ g : Nat → Int, tailT op m g = if alikeB m g = false then (0, 33) else if 0 < m ∧ tyA op ≠ -1 ∧ g 0 ≠ tyA op then (0, 33) else if tyR op = -1 then (g 0, 0) else (tyR op, 0)) := fun g => rfl
    clear hk hb1 hx1
    generalize tyN op = rn at *
    generalize tyA op = ra at *
    generalize tyR op = rr at *
    by_cases hmn : (m : Int) = rn
    · have dn : ((m : Int) != rn) = false := by simpa using hmn
      have hmn' := Lib.hid hmn
      clear hmn
      have dr : (rr == -1) = false := by simpa using hfree
      have hfree' := Lib.hid hfree
      clear hfree
      have hv2 := Lib.hid (hv'.out.below hx2.out.bel)
      go_wp2_with fail
      go_loopw [33] (fun i wr => ∃ j : Nat, j ≤ m ∧ i = .int .i64 j ∧ wr = (w1.alloc (.cells #[.int .i64 rn, .int .i64 ra, .int .i64 rr, .bool true] 82)) ∧ Hid (∀ k, k < j → 0 ≤ f k)) (fun i _ => m - (intOf i).toNat)
      case atStart => exact ⟨0, Nat.zero_le _, rfl, rfl, fun k hk => absurd hk (Nat.not_lt_zero _)⟩
      case round =>
        obtain ⟨j, hj, rfl, rfl, hall⟩ := hrel
        by_cases hlt : j < m
        · have i1 : decide ((j : Int) < (m : Int)) = true := decide_eq_true (by omega)
          obtain ⟨b, o, rfl, hb, hc⟩ := hcu'.out (by omega)
          have rj := (hx2.out.bel.cell (p := ⟨b, o + j, none⟩) hb).trans (hc j hlt)
          clear hc
          by_cases he : f j < 0
          · have d1 : decide (f j < 0) = true := decide_eq_true he
            have hno := Lib.hid (hR2.out hmn'.out (neg_yes hlt he))
            clear he
            go_wp2
            refine bodyPost_ret (results_tmp2 rfl _ _ _) rfl ⟨by rw [hno.out]; rfl, hx2.out.bel⟩
          · have d1 : decide (f j < 0) = false := decide_eq_false he
            have he' := Lib.hid he
            clear he
            go_wp2
            go_roundw
            case rel => exact ⟨j + 1, by omega, by go_num, trivial, fun k hk => by
              by_cases e : k = j
              · subst e; have := he'.out; omega
              · exact hall.out k (by omega)⟩
            case measure => simp [intOf]; omega
        · have i1 : decide ((j : Int) < (m : Int)) = false := decide_eq_false (by omega)
          have hneg := neg_no (m := m) (f := f) fun i hi => hall.out i (by omega)
          have hRR := Lib.hid ((hR3.out hmn'.out hneg).trans (hT.out f))
          clear hneg
          have hAl := Lib.hid fun n => alike_any (.slice U m cu) m f ((w1.alloc (.cells #[.int .i64 rn, .int .i64 ra, .int .i64 rr, .bool true] 82)).drewN n) (hv2.out.below (below_drewN (Below.refl _ _) n))
          cases ha : alikeB m f with
          | false =>
            have hF : Hid (opT op m f = (0, 33)) := by have := hRR.out; rw [if_pos ha] at this; exact this
            rw [ha] at hAl
            go_upto_region 15 with fail
            go_quiet ((go_at_call 58; exact Calls.quiet_of_same (hAl.out _)))
            go_wp2
            refine bodyPost_ret (results_tmp2 rfl _ _ _) rfl ⟨by rw [hF.out]; rfl, below_drewN hx2.out.bel _⟩
          | true =>
            have hRR2 : Hid (opT op m f = if 0 < m ∧ ra ≠ -1 ∧ f 0 ≠ ra then (0, 33) else (rr, 0)) := by have := hRR.out; rw [if_neg (by rw [ha]; simp), if_neg hfree'.out] at this; exact this
            rw [ha] at hAl
            by_cases h0 : 0 < m
            · have p0 : decide (0 < m) = true := decide_eq_true h0
              have p1 : decide (0 < (m : Int)) = true := decide_eq_true (by omega)
              obtain ⟨b, o, rfl, hb, hc⟩ := hcu'.out h0
              have r0 := (hx2.out.bel.cell (p := ⟨b, o + 0, none⟩) hb).trans (hc 0 h0)
              rw [Nat.add_zero] at r0
              clear hc
              by_cases hra : ra = -1
              · subst hra
                have dra : ((-1 : Int) != -1) = false := rfl
                have hF : Hid (opT op m f = (rr, 0)) := by have := hRR2.out; rw [if_neg (fun h => h.2.1 rfl)] at this; exact this
                go_upto_region 15 with fail
                go_quiet ((go_at_call 58; exact Calls.quiet_of_same (hAl.out _)))
                go_wp2
                refine bodyPost_ret (results_tmp2 rfl _ _ _) rfl ⟨by rw [hF.out]; rfl, below_drewN hx2.out.bel _⟩
              · have dra : (ra != -1) = true := by simpa using hra
                by_cases he : f 0 = ra
                · have de : (f 0 != ra) = false := by simpa using he
                  have hF : Hid (opT op m f = (rr, 0)) := by have := hRR2.out; rw [if_neg (fun h => h.2.2 he)] at this; exact this
                  clear he hra
                  go_upto_region 15 with fail
                  go_quiet ((go_at_call 58; exact Calls.quiet_of_same (hAl.out _)))
                  go_wp2
                  refine bodyPost_ret (results_tmp2 rfl _ _ _) rfl ⟨by rw [hF.out]; rfl, below_drewN hx2.out.bel _⟩
                · have de : (f 0 != ra) = true := by simpa using he
                  have hF : Hid (opT op m f = (0, 33)) := by have := hRR2.out; rw [if_pos ⟨h0, hra, he⟩] at this; exact this
                  clear he hra
                  go_upto_region 15 with fail
                  go_quiet ((go_at_call 58; exact Calls.quiet_of_same (hAl.out _)))
                  go_wp2
                  refine bodyPost_ret (results_tmp2 rfl _ _ _) rfl ⟨by rw [hF.out]; rfl, below_drewN hx2.out.bel _⟩
            · have p0 : decide (0 < m) = false := decide_eq_false h0
              have p1 : decide (0 < (m : Int)) = false := decide_eq_false (by omega)
              have hF : Hid (opT op m f = (rr, 0)) := by have := hRR2.out; rw [if_neg (fun h => h0 h.1)] at this; exact this
              go_upto_region 15 with fail
              go_quiet ((go_at_call 58; exact Calls.quiet_of_same (hAl.out _)))
              go_wp2
              refine bodyPost_ret (results_tmp2 rfl _ _ _) rfl ⟨by rw [hF.out]; rfl, below_drewN hx2.out.bel _⟩
    · have dn : ((m : Int) != rn) = true := by simpa using hmn
      have hno := Lib.hid (hR1.out hmn)
      clear hmn
      go_wp2
      refine bodyPost_ret (results_tmp2 rfl _ _ _) rfl ⟨by rw [hno.out]; rfl, hx2.out.bel⟩

set_option maxHeartbeats 4000000 in
theorem TOp_ite (v : Value) (m : Nat) (f : Nat → Int) (w : World) (hv : IntsAt w v m f) (hcap : CapOk v) :
    Calls Try.prog 34 #[.int .i8 7, v] w fun e w' => e = .returned (opV (opT 7 m f)) ∧ Below w.heap.size w w' := by
  have hv' := Lib.hid hv
  obtain ⟨U, cu, rfl, hm, hRu, hcu⟩ := hv
  obtain ⟨hcap, hcap'⟩ := hcap _ _ _ rfl
  have hcu' := Lib.hid hcu
  clear hcu
  have h7 := Lib.hid (opT7 (m := m) (f := f))
  go_enter Try.func34, Try.ntmps34
  go_wp2_with fail
  refine (rules_any 7 w ⟨by decide, by decide⟩).mono ?_
  rintro e w1 ⟨rfl, hb1⟩
  have hx1 := (Bx.nil w).step hb1
  rw [show ruleV 7 = .agg #[.int .i64 3, .int .i64 (-1), .int .i64 (-1), .bool true] by rfl]
  have hx2 := Lib.hid (hx1.skip (.cells #[.int .i64 3, .int .i64 (-1), .int .i64 (-1), .bool true] 82))
  clear hb1 hx1
  by_cases hm3 : m = 3
  · have hm3' := Lib.hid hm3
    have dn : ((m : Int) != 3) = false := by simp [hm3]
    obtain ⟨b, o, rfl, hb, hc⟩ := hcu'.out (by omega)
    have hc' := Lib.hid hc
    have r0 := (hx2.out.bel.cell (p := ⟨b, o + 0, none⟩) hb).trans (hc 0 (by omega))
    have r1 := (hx2.out.bel.cell (p := ⟨b, o + 1, none⟩) hb).trans (hc 1 (by omega))
    rw [Nat.add_zero] at r0
    have r2 := (hx2.out.bel.cell (p := ⟨b, o + 2, none⟩) hb).trans (hc 2 (by omega))
    have hlo : (1 : Int) ≤ (m : Int) := by omega
    have hlc : (m : Int) ≤ (cu : Int) := by omega
    have hne : ¬ cu = 1 := by omega
    have hm4 : Hid ((m : Int) = 3) := by unfold Hid; omega
    have hRR : Hid (opT 7 m f = if f 0 ≠ 0 then (0, 33) else if negS m f = true then (0, 33) else if f 2 = f 1 then (f 1, 0) else (0, 33)) := by have := h7.out; rw [if_neg (fun h => h hm3)] at this; exact this
    clear hc hm3
    by_cases h0 : f 0 = 0
    · have d0 : (f 0 != 0) = false := by simpa using h0
      have hRR1 : Hid (opT 7 m f = if negS m f = true then (0, 33) else if f 2 = f 1 then (f 1, 0) else (0, 33)) := by have := hRR.out; rw [if_neg (fun h => h h0)] at this; exact this
      clear h0
      go_wp2_with fail
      go_loopw [33] (fun i wr => ∃ j : Nat, j ≤ m ∧ i = .int .i64 j ∧ wr = (w1.alloc (.cells #[.int .i64 3, .int .i64 (-1), .int .i64 (-1), .bool true] 82)) ∧ Hid (∀ k, k < j → 0 ≤ f k)) (fun i _ => m - (intOf i).toNat)
      case atStart => exact ⟨0, Nat.zero_le _, rfl, rfl, fun k hk => absurd hk (Nat.not_lt_zero _)⟩
      case round =>
        obtain ⟨j, hj, rfl, rfl, hall⟩ := hrel
        by_cases hlt : j < m
        · have i1 : decide ((j : Int) < (m : Int)) = true := decide_eq_true (by omega)
          have rj := (hx2.out.bel.cell (p := ⟨b, o + j, none⟩) hb).trans (hc'.out j hlt)
          by_cases he : f j < 0
          · have d1 : decide (f j < 0) = true := decide_eq_true he
            have hno : Hid (opT 7 m f = (0, 33)) := by have := hRR1.out; rw [if_pos (neg_yes hlt he)] at this; exact this
            clear he
            go_wp2
            refine bodyPost_ret (results_tmp2 rfl _ _ _) rfl ⟨by rw [hno.out]; rfl, hx2.out.bel⟩
          · have d1 : decide (f j < 0) = false := decide_eq_false he
            have he' := Lib.hid he
            clear he
            go_wp2
            go_roundw
            case rel => exact ⟨j + 1, by omega, by go_num, trivial, fun k hk => by
              by_cases e : k = j
              · subst e; have := he'.out; omega
              · exact hall.out k (by omega)⟩
            case measure => simp [intOf]; omega
        · have i1 : decide ((j : Int) < (m : Int)) = false := decide_eq_false (by omega)
          have hneg := neg_no (m := m) (f := f) fun i hi => hall.out i (by omega)
          have hRR2 : Hid (opT 7 m f = if f 2 = f 1 then (f 1, 0) else (0, 33)) := by have := hRR1.out; rw [if_neg (by rw [hneg]; simp)] at this; exact this
          clear hneg
          have hv2 : Hid (IntsAt (w1.alloc (.cells #[.int .i64 3, .int .i64 (-1), .int .i64 (-1), .bool true] 82)) (.slice (some ⟨b, o + 1, none⟩) (m - 1) (cu - 1)) (m - 1) (fun i => f (1 + i))) := by
            have hm3 := hm3'.out
            refine ⟨_, _, rfl, by omega, fun i hi => hRu (1 + i) (by omega), fun _ => ⟨b, o + 1, rfl, Nat.lt_of_lt_of_le hb hx2.out.bel.size, fun i hi => ?_⟩⟩
            rw [Nat.add_assoc]
            exact (hx2.out.bel.cell (p := ⟨b, o + (1 + i), none⟩) hb).trans (hc'.out (1 + i) (by omega))
          have hAl := Lib.hid fun n => alike_any _ (m - 1) (fun i => f (1 + i)) ((w1.alloc (.cells #[.int .i64 3, .int .i64 (-1), .int .i64 (-1), .bool true] 82)).drewN n) (hv2.out.below (below_drewN (Below.refl _ _) n))
          have hal : alikeB (m - 1) (fun i => f (1 + i)) = (f 2 == f 1) := by rw [hm3'.out]; unfold alikeB; simp [List.range, List.range.loop]
          rw [hal] at hAl
          clear hal
          have q0 : 0 < m - 1 := by have := hm3'.out; omega
          have p2 : decide (1 < m) = true := decide_eq_true (by have := hm3'.out; omega)
          have p3 : decide ((1 : Int) < (m : Int)) = true := decide_eq_true (by have := hm3'.out; omega)
          have p0 : decide (0 < m - 1) = true := decide_eq_true (by have := hm3'.out; omega)
          have p1 : decide (0 < ((m - 1 : Nat) : Int)) = true := decide_eq_true (by have := hm3'.out; omega)
          by_cases he : f 2 = f 1
          · have de : (f 2 == f 1) = true := by simpa using he
            have hF : Hid (opT 7 m f = (f 1, 0)) := by have := hRR2.out; rw [if_pos he] at this; exact this
            rw [de] at hAl
            clear he
            go_upto_region 15 with fail
            go_quiet ((go_at_call 58; exact Calls.quiet_of_same (hAl.out _)))
            go_wp2
            refine bodyPost_ret (results_tmp2 rfl _ _ _) rfl ⟨by rw [hF.out]; rfl, below_drewN hx2.out.bel _⟩
          · have de : (f 2 == f 1) = false := by simpa using he
            have hF : Hid (opT 7 m f = (0, 33)) := by have := hRR2.out; rw [if_neg he] at this; exact this
            rw [de] at hAl
            clear he
            go_upto_region 15 with fail
            go_quiet ((go_at_call 58; exact Calls.quiet_of_same (hAl.out _)))
            go_wp2
            refine bodyPost_ret (results_tmp2 rfl _ _ _) rfl ⟨by rw [hF.out]; rfl, below_drewN hx2.out.bel _⟩
    · have d0 : (f 0 != 0) = true := by simpa using h0
      have hno : Hid (opT 7 m f = (0, 33)) := by have := hRR.out; rw [if_pos h0] at this; exact this
      clear h0
      go_wp2
      refine bodyPost_ret (results_tmp2 rfl _ _ _) rfl ⟨by rw [hno.out]; rfl, hx2.out.bel⟩
  · have dn : ((m : Int) != 3) = true := by simp; omega
    have hno : Hid (opT 7 m f = (0, 2)) := by have := h7.out; rw [if_pos hm3] at this; exact this
    clear hm3
    go_wp2
    refine bodyPost_ret (results_tmp2 rfl _ _ _) rfl ⟨by rw [hno.out]; rfl, hx2.out.bel⟩
theorem TOp_any (op : Int) (v : Value) (m : Nat) (f : Nat → Int) (w : World) (h8 : R8 op) (hv : IntsAt w v m f) (hcap : CapOk v) :
    Calls Try.prog 34 #[.int .i8 op, v] w fun e w' => e = .returned (opV (opT op m f)) ∧ Below w.heap.size w w' := by
  by_cases h : op = 7
  · subst h; exact TOp_ite v m f w hv hcap
  · exact TOp_plain op v m f w h8 h hv
end Go.Proofs.Ytecmoahadckomaa
