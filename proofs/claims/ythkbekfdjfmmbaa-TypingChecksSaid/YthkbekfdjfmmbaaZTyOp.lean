/- typing.rules, typing.alike, typing.Op. -/
import Derived.Test.YthkbekfdjfmmbaaZTyW
import Derived.Deep.WholeRow
import Derived.Laws.Rows
import Derived.Deep.Cut
namespace Go.Proofs.Ythkbekfdjfmmbaa
open Go.RowKit
set_option maxRecDepth 100000

def ruleV (op : Int) : Value := if tyK op then .agg #[.int .i64 (tyN op), .int .i64 (tyA op), .int .i64 (tyR op), .bool true] else .agg #[.int .i64 0, .int .i64 0, .int .i64 0, .bool false]

theorem wpList_store_last {ops : Array Oper} {rest : List Oper} {o : Oper} {a : Act} {w0 : World} {Q : Exit → Act → World → Prop} {c c' : Array Value} {ty : TypeId} (hgd : o.guard = none) (hd : o.dst = none) (x y : Operand) (ho : o.op = .store ty x y)
    (g : Nat) (hg : g = w0.heap.size) (hx : a.eval x = .pointer (some ⟨g, 0, none⟩)) (hy : a.eval y = .agg c') (hi : (Try.prog.info? ty).map (·.size) = some c'.size) (hc : c.size = c'.size) (h1 : c'.all (·.oneCell') = true)
    (h : wpList Try.prog ops Q rest a (w0.alloc (.cells c' ty))) : wpList Try.prog ops Q (o :: rest) a (w0.alloc (.cells c ty)) := by
  subst hg
  refine wpList_plain hgd fun _ hK => ?_
  unfold Oper.wp execOp
  simp only [ho, hx, hy, Instr.storeAt, Instr.sureAddr, Sem.run_bind, Sem.run_pure, Result.andThen_ok, run_storeVar_new w0 ty c c' hi hc h1]
  exact hK _ _ (by simpa [hd, Act.put] using h)

def tyCells : Array Value := #[.int .i64 0, .int .i64 (-1), .int .i64 0, .bool true, .int .i64 1, .int .i64 0, .int .i64 0, .bool true, .int .i64 2, .int .i64 0, .int .i64 0, .bool true, .int .i64 2, .int .i64 0, .int .i64 0, .bool true, .int .i64 2, .int .i64 0, .int .i64 0, .bool true, .int .i64 2, .int .i64 0, .int .i64 0, .bool true, .int .i64 2, .int .i64 (-1), .int .i64 0, .bool true, .int .i64 3, .int .i64 (-1), .int .i64 (-1), .bool true, .int .i64 2, .int .i64 1, .int .i64 0, .bool true, .int .i64 2, .int .i64 1, .int .i64 0, .bool true, .int .i64 0, .int .i64 (-1), .int .i64 1, .bool true, .int .i64 1, .int .i64 1, .int .i64 1, .bool true, .int .i64 2, .int .i64 1, .int .i64 0, .bool true]
theorem ty_built : Try.prog.built 111 [(0, .agg #[.int .i64 0, .int .i64 (-1), .int .i64 0, .bool true]), (1, .agg #[.int .i64 1, .int .i64 0, .int .i64 0, .bool true]), (2, .agg #[.int .i64 2, .int .i64 0, .int .i64 0, .bool true]), (3, .agg #[.int .i64 2, .int .i64 0, .int .i64 0, .bool true]), (4, .agg #[.int .i64 2, .int .i64 0, .int .i64 0, .bool true]), (5, .agg #[.int .i64 2, .int .i64 0, .int .i64 0, .bool true]), (6, .agg #[.int .i64 2, .int .i64 (-1), .int .i64 0, .bool true]), (7, .agg #[.int .i64 3, .int .i64 (-1), .int .i64 (-1), .bool true]), (8, .agg #[.int .i64 2, .int .i64 1, .int .i64 0, .bool true]), (9, .agg #[.int .i64 2, .int .i64 1, .int .i64 0, .bool true]), (10, .agg #[.int .i64 0, .int .i64 (-1), .int .i64 1, .bool true]), (11, .agg #[.int .i64 1, .int .i64 1, .int .i64 1, .bool true]), (12, .agg #[.int .i64 2, .int .i64 1, .int .i64 0, .bool true])] = some tyCells := by kernel_rfl
theorem ty_size : (Try.prog.info? 111).map (·.size) = some tyCells.size := by kernel_rfl
theorem ty_one : tyCells.all (·.oneCell') = true := by kernel_rfl
theorem wpList_buildK {ops : Array Oper} {rest : List Oper} {o : Oper} {a : Act} {w : World} {Q : Exit → Act → World → Prop} {cells : Array Value} {t : TypeId} {parts : Array (Nat × Operand)} {vs : List (Nat × Value)} (hc : Try.prog.built t vs = some cells) (hgd : o.guard = none) (ho : o.op = .build t parts)
    (hv : parts.toList.map (fun p => (p.1, a.eval p.2)) = vs) (h : wpList Try.prog ops Q rest (a.put o.dst (.agg cells)) w) : wpList Try.prog ops Q (o :: rest) a w := by
  refine wpList_plain hgd fun K hK => ?_
  have hv' : (parts.map fun (i, x) => (i, a.eval x)).toList = vs := by rw [Array.toList_map]; exact hv
  refine wp_build t parts ho (by rw [hv', hc]; rfl) ?_
  rw [hv', hc]
  exact hK _ _ h
theorem ty_at {op : Int} (h : tyK op = true) : tyCells[op.toNat * 4]? = some (.int .i64 (tyN op)) ∧ tyCells[op.toNat * 4 + 1]? = some (.int .i64 (tyA op)) ∧ tyCells[op.toNat * 4 + 2]? = some (.int .i64 (tyR op)) ∧ tyCells[op.toNat * 4 + 3]? = some (.bool true) := by
  rcases tyop_cases h with h | h | h | h | h | h | h | h | h | h | h | h | h <;> subst h <;> exact ⟨rfl, rfl, rfl, rfl⟩

theorem rule_ret {Q : Ending → World → Prop} {a : Act} {w : World} {B : Obj} {x y z : Int} {b : Bool} (hd : a.defers = []) (hp : a.tmps.getD 2 undef = .pointer (some ⟨w.heap.size, 0, none⟩))
    (h : Q (.returned (.agg #[.int .i64 x, .int .i64 y, .int .i64 z, .bool b])) ((w.alloc (.cells #[.int .i64 x, .int .i64 y, .int .i64 z, .bool b] 89)).alloc B)) :
    bodyPost Try.prog Try.f49 Q Exit.ret a ((w.alloc (.cells #[.int .i64 x, .int .i64 y, .int .i64 z, .bool b] 89)).alloc B) := by
  refine bodyPost_ret (results_cell_row (P := Try.prog) (p := 2) (ty := 89) rfl a.tmps _ w.heap.size 89 #[.int .i64 x, .int .i64 y, .int .i64 z, .bool b] (0, 0) _ hp ?_ Try.underlying89 rfl (by kernel_rfl)) hd h
  exact (Below.heap_alloc (w.alloc _) B w.heap.size (by simp)).trans (by show (w.heap.push _)[w.heap.size]? = _; simp)

set_option maxHeartbeats 4000000 in
theorem rules_any (op : Int) (w : World) (h8 : R8 op) : Calls Try.prog 49 #[.int .i8 op] w fun e w' => e = .returned (ruleV op) ∧ Below w.heap.size w w' := by
  obtain ⟨r0, r1⟩ := h8
  go_enter Try.func49, Try.ntmps49
  go_upto_region 2 with (first | refine wpList_buildK ty_built rfl rfl rfl ?_ | refine wpList_store_last rfl rfl (.tmp 3) (.tmp 17) rfl (w.heap.size + 1) (by simp) rfl rfl ty_size rfl ty_one ?_)
  cases hk : tyK op with
  | false =>
    have hR : Hid (ruleV op = .agg #[.int .i64 0, .int .i64 0, .int .i64 0, .bool false]) := by unfold Hid ruleV; rw [hk]; rfl
    unfold tyK at hk
    simp at hk
    by_cases h0 : op < 0
    · have d0 : decide (op < 0) = true := decide_eq_true h0
      clear hk
      go_wp2
      exact rule_ret rfl rfl ⟨by rw [hR.out], ((Below.refl _ _).alloc (Nat.le_refl _) _).alloc (by simp) _⟩
    · have d0 : decide (op < 0) = false := decide_eq_false h0
      have d1 : decide (13 ≤ op) = true := decide_eq_true (by omega)
      clear hk
      go_wp2
      exact rule_ret rfl rfl ⟨by rw [hR.out], ((Below.refl _ _).alloc (Nat.le_refl _) _).alloc (by simp) _⟩
  | true =>
    obtain ⟨t0, t1, t2, t3⟩ := ty_at hk
    have hR : Hid (ruleV op = .agg #[.int .i64 (tyN op), .int .i64 (tyA op), .int .i64 (tyR op), .bool true]) := by unfold Hid ruleV; rw [hk]; rfl
    unfold tyK at hk
    simp at hk
    obtain ⟨k0, k1⟩ := hk
    have d0 : decide (op < 0) = false := decide_eq_false (by omega)
    have d1 : decide (13 ≤ op) = false := decide_eq_false (by omega)
    go_wp2
    exact rule_ret rfl rfl ⟨by rw [hR.out], ((Below.refl _ _).alloc (Nat.le_refl _) _).alloc (by simp) _⟩

set_option maxHeartbeats 1000000 in
theorem alike_any (v : Value) (m : Nat) (f : Nat → Int) (w : World) (hv : IntsAt w v m f) :
    Calls Try.prog 50 #[v] w fun e w' => e = .returned (.bool (alikeB m f)) ∧ w' = w := by
  obtain ⟨U, cu, rfl, hm, hR, hcu⟩ := hv
  have hcu' := Lib.hid hcu
  clear hcu hR
  go_enter Try.func50, Try.ntmps50
  go_wp2
  go_loopw [7] (fun i wr => ∃ j : Nat, j ≤ m ∧ i = .int .i64 j ∧ wr = w ∧ Hid (∀ k, k < j → f k = f 0)) (fun i _ => m - (intOf i).toNat)
  case atStart => exact ⟨0, Nat.zero_le _, rfl, rfl, fun k hk => absurd hk (Nat.not_lt_zero _)⟩
  case round =>
    obtain ⟨j, hj, rfl, rfl, hall⟩ := hrel
    by_cases hlt : j < m
    · have i1 : decide ((j : Int) < (m : Int)) = true := decide_eq_true (by omega)
      obtain ⟨b, o, rfl, hb, hc⟩ := hcu'.out (by omega)
      have rj := hc j hlt
      have r0 := hc 0 (by omega)
      rw [Nat.add_zero] at r0
      clear hc
      by_cases he : f j = f 0
      · have d1 : (f j != f 0) = false := by simpa using he
        have he' := Lib.hid he
        clear he
        go_wp2
        go_roundw
        case rel => exact ⟨j + 1, by omega, by go_num, trivial, fun k hk => by
          by_cases e : k = j
          · subst e; exact he'.out
          · exact hall.out k (by omega)⟩
        case measure => simp [intOf]; omega
      · have d1 : (f j != f 0) = true := by simpa using he
        have hno := Lib.hid (alike_no hlt he)
        clear he
        go_wp2
        go_ret
        exact ⟨by rw [hno.out]; rfl, rfl⟩
    · have i1 : decide ((j : Int) < (m : Int)) = false := decide_eq_false (by omega)
      have hyes := Lib.hid (alike_yes (m := m) (f := f) fun i hi => hall.out i (by omega))
      go_wp2
      go_ret
      exact ⟨by rw [hyes.out]; rfl, rfl⟩
end Go.Proofs.Ythkbekfdjfmmbaa
