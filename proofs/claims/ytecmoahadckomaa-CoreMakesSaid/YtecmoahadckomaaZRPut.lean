/- gantryref05.Find, gantryref05.Put. -/
import Derived.Test.YtecmoahadckomaaZTermETermFNewY
import Derived.Test.YtecmoahadckomaaZTermCTermDaRCheck
import Derived.Test.YtecmoahadckomaaZIntsToNumW
import Derived.BigQuiet
import Derived.Deep.Cut
import Derived.Deep.QuietTactic
namespace Go.Proofs.Ytecmoahadckomaa
open Go.RowKit
set_option maxRecDepth 100000

theorem NdsAt.sl {w : World} {v : Value} {n : Nat} {N : Nat → Nd} (h : NdsAt w v n N) : SlAt w 8 v n (fun i => ndC (N i)) := by
  obtain ⟨A, c, rfl, _, _, hc⟩ := h
  refine ⟨A, c, rfl, fun _ => rfl, fun h0 => ?_⟩
  obtain ⟨b, o, rfl, hb, hc⟩ := hc h0
  refine ⟨b, o, rfl, hb, fun i hi r u hu => ?_⟩
  have h8 : r < 8 := (List.getElem?_eq_some_iff.1 hu).1
  obtain ⟨h0, h1, h2, h3, h4, h5, h6, h7⟩ := hc i hi
  rw [← Nat.add_assoc]
  have : r = 0 ∨ r = 1 ∨ r = 2 ∨ r = 3 ∨ r = 4 ∨ r = 5 ∨ r = 6 ∨ r = 7 := by omega
  rcases this with rfl | rfl | rfl | rfl | rfl | rfl | rfl | rfl <;> (simp [ndC] at hu; subst hu)
  · exact h0
  · exact h1
  · exact h2
  · exact h3
  · exact h4
  · exact h5
  · exact h6
  · exact h7
theorem OwnN.below {w w' : World} {base n B : Nat} {v : Value} {N : Nat → Nd} (h : OwnN w base v n N) (hb : Below B w w') (hB : w.heap.size ≤ B) : OwnN w' base v n N := OwnG.below h hb hB
def catN (n : Nat) (N M : Nat → Nd) (i : Nat) : Nd := if i < n then N i else M (i - n)
theorem wp_appN {o : Oper} {a : Act} {K : Act → World → Prop} {Q : Exit → Act → World → Prop} {w : World} (p q : Operand)
    (ho : o.op = .call { callee := .builtin .append, args := #[p, q], argTypes := #[22, 22] }) (base : Nat) (v : Value) (n : Nat) (N : Nat → Nd) (hp : a.eval p = v) (hown : OwnN w base v n N)
    (x : Value) (m : Nat) (M : Nat → Nd) (hq : a.eval q = x) (hx : NdsAt w x m M) (hn : n + m ≤ 1000001) (hb : base ≤ w.heap.size)
    (h : ∀ v' w', OwnN w' base v' (n + m) (catN n N M) → Below base w w' → K (a.put o.dst v') w') : o.wp Try.prog a w K Q := by
  obtain ⟨i0, hi, hz0, hz1, hz2⟩ := info_parts info_node
  refine wp_append_src p q 22 ho i0 _ 56 Try.underlying22 hi hz0 hz1 hz2 rfl (by decide) hp hown x hq hx.sl (fun i _ => ndC_one _) (by unfold maxLen; omega) (by omega) hb fun v' w' h1 h2 => ?_
  exact h v' w' (OwnG.congr h1 fun i _ => by unfold catN; split <;> rfl) ((Below.refl base w).grown h2 hb (fun k hk => (OwnG.lt hown k hk).1))
theorem wpList_appN {ops : Array Oper} {rest : List Oper} {o : Oper} {a : Act} {Q : Exit → Act → World → Prop} {w : World} (hw : Region.wanted o (yielded ops a.tmps) = true) (p q : Operand)
    (ho : o.op = .call { callee := .builtin .append, args := #[p, q], argTypes := #[22, 22] }) (base : Nat) (v : Value) (n : Nat) (N : Nat → Nd) (hp : a.eval p = v) (hown : OwnN w base v n N)
    (x : Value) (m : Nat) (M : Nat → Nd) (hq : a.eval q = x) (hx : NdsAt w x m M) (hn : n + m ≤ 1000001) (hb : base ≤ w.heap.size)
    (h : ∀ v' w', OwnN w' base v' (n + m) (catN n N M) → Below base w w' → wpList Try.prog ops Q rest (a.put o.dst v') w') : wpList Try.prog ops Q (o :: rest) a w :=
  BigFrame.wpList_want hw fun _ hK => wp_appN p q ho base v n N hp hown x m M hq hx hn hb fun v' w' h1 h2 => hK _ _ (h v' w' h1 h2)
theorem step_appO {ops : Array Oper} {o : Oper} {a : Act} {w : World} {K : Act → World → Prop} {Q : Exit → Act → World → Prop} {E : Prop} (hg : o.guard = none) (p q : Operand)
    (ho : o.op = .call { callee := .builtin .append, args := #[p, q], argTypes := #[22, 22] }) (base : Nat) (v : Value) (n : Nat) (N : Nat → Nd) (hp : a.eval p = v) (hown : OwnN w base v n N)
    (x : Value) (e : Nd) (hq : a.eval q = x) (hx : NdsAt w x 1 (fun _ => e)) (hn : n ≤ 1000000) (hb : base ≤ w.heap.size) (hr : ∀ i, i < n → NdR (N i)) (he : NdR e)
    (h : ∀ g' cap w', base ≤ g' → NdsAt w' (.slice (some ⟨g', 0, none⟩) (n + 1) cap) (n + 1) (extN N n e) → Below base w w' → K (a.put o.dst (.slice (some ⟨g', 0, none⟩) (n + 1) cap)) w') :
    if Region.wanted o (yielded ops a.tmps) = true then Oper.wp Try.prog o a w K Q else E := by
  rw [if_pos (by simp [Region.wanted, hg])]
  refine wp_appN p q ho base v n N hp hown x 1 (fun _ => e) hq hx (by omega) hb fun v' w' h1 h2 => ?_
  obtain ⟨g', cap, rfl, hge, _⟩ := World.ownsRow.form h1 (by omega)
  refine h g' cap w' hge ?_ h2
  have hr' : ∀ i, i < n + 1 → NdR (catN n N (fun _ => e) i) := fun i hi => by
    unfold catN
    by_cases h' : i < n
    · rw [if_pos h']; exact hr i h'
    · rw [if_neg h']; exact he
  exact (OwnN.at_ h1 hr').congr fun i _ => rfl
theorem nds_one (w : World) (e : Nd) (he : NdR e) : NdsAt (w.alloc (.cells #[.int .i8 e.op, .int .i8 e.len, .int .i64 e.a0, .int .i64 e.a1, .int .i64 e.a2, .int .i64 e.sort, .int .i64 e.fn, .int .i64 e.num] 39)) (.slice (some ⟨w.heap.size, 0, none⟩) 1 1) 1 (fun _ => e) := by
  refine ⟨_, _, rfl, by omega, fun _ _ => he, fun _ => ⟨_, _, rfl, by simp, fun i hi => ?_⟩⟩
  obtain rfl : i = 0 := by omega
  exact ⟨by simp, by simp, by simp, by simp, by simp, by simp, by simp, by simp⟩

def nfK (w : World) (v : Value) (e : Nd) : List (Nat × Nat × Value) :=
  (w.heap.size, 0, v) :: rowK (w.heap.size + 1) [.int .i8 e.op, .int .i8 e.len, .int .i64 e.a0, .int .i64 e.a1, .int .i64 e.a2, .int .i64 e.sort, .int .i64 e.fn, .int .i64 e.num] 0
theorem nfK_bx (w : World) (v : Value) (e : Nd) : Bx w (nfK w v e) ((w.alloc (.cells #[v] 24)).alloc (.cells #[.int .i8 e.op, .int .i8 e.len, .int .i64 e.a0, .int .i64 e.a1, .int .i64 e.a2, .int .i64 e.sort, .int .i64 e.fn, .int .i64 e.num] 39)) := by
  have h := (((Bx.nil w).row #[v] 24)).row #[.int .i8 e.op, .int .i8 e.len, .int .i64 e.a0, .int .i64 e.a1, .int .i64 e.a2, .int .i64 e.sort, .int .i64 e.fn, .int .i64 e.num] 39
  simp only [World.size_alloc] at h
  obtain ⟨hc, hb⟩ := h
  exact ⟨⟨hc.app.2.1, hc.app.1⟩, hb⟩
set_option maxHeartbeats 4000000 in
theorem RFind_any (v : Value) (n : Nat) (N : Nat → Nd) (e : Nd) (w : World) (hv : NdsAt w v n N) (hn : n ≤ 1000000) :
    Calls Try.prog 87 #[.agg #[v], ndV e] w fun z w' => ((∃ i : Nat, i < n ∧ N i = e ∧ z = .returned (.tuple #[.int .i64 i, .bool true])) ∨ ((∀ i, i < n → N i ≠ e) ∧ z = .returned (.tuple #[.int .i64 0, .bool false]))) ∧ Below w.heap.size w w' := by
  have hv' := Lib.hid hv
  obtain ⟨A, c, rfl, hcap, _, hcs⟩ := hv
  have hcs' := Lib.hid hcs
  have hen := run_eqNd
  have hx := Lib.hid (nfK_bx w (.slice A n c) e)
  have heq : Hid (∀ i, ndEq (N i).op (N i).len (N i).a0 (N i).a1 (N i).a2 (N i).sort (N i).fn (N i).num e.op e.len e.a0 e.a1 e.a2 e.sort e.fn e.num = decide (N i = e)) := fun i => ndEq_eq (N i) e
  clear hcs
  unfold ndV
  go_enter Try.func87, Try.ntmps87
  go_wp2_with fail
  go_loopw [6] (fun i wr => ∃ j : Nat, j ≤ n ∧ i = .int .i64 j ∧ Hid (∀ k, k < j → N k ≠ e) ∧ Hid (Bx w (nfK w (.slice A n c) e) wr)) (fun i _ => n - (intOf i).toNat)
  case atStart => exact ⟨0, Nat.zero_le _, rfl, fun k hk => absurd hk (Nat.not_lt_zero _), hx.out⟩
  case round =>
    clear hx
    obtain ⟨j, hj, rfl, hall, hx⟩ := hrel
    obtain ⟨⟨k0, _⟩, ⟨e0, _⟩, ⟨e1, _⟩, ⟨e2, _⟩, ⟨e3, _⟩, ⟨e4, _⟩, ⟨e5, _⟩, ⟨e6, _⟩, ⟨e7, _⟩, _⟩ := hx.out.cells
    simp only [Nat.zero_add] at e1 e2 e3 e4 e5 e6 e7
    by_cases hlt : j < n
    · have i1 : decide ((j : Int) < (n : Int)) = true := decide_eq_true (by omega)
      obtain ⟨b, o, rfl, hbl, hcs⟩ := hcs'.out (by omega)
      obtain ⟨c0, c1, c2, c3, c4, c5, c6, c7⟩ := (hcs j hlt).below hx.out.bel hbl
      have hb : b < wr.heap.size := Nat.lt_of_lt_of_le hbl hx.out.bel.size
      clear hcs
      by_cases he : N j = e
      · have hq := (heq.out j).trans (decide_eq_true he)
        have he' := Lib.hid he
        clear he
        go_wp2_with fail
        go_quiet (fail)
        go_wp2_with fail
        refine bodyPost_ret (results_tmp2 rfl _ _ _) rfl ⟨.inl ⟨j, hlt, he'.out, rfl⟩, (hx.out.drewN _).bel⟩
      · have hq := (heq.out j).trans (decide_eq_false he)
        have he' := Lib.hid he
        clear he
        go_wp2_with fail
        go_quiet (fail)
        go_wp2_with fail
        go_roundw
        case rel => exact ⟨j + 1, by omega, by go_num, fun k hk => by
          by_cases e : k = j
          · subst e; exact he'.out
          · exact hall.out k (by omega), hx.out.drewN _⟩
        case measure => simp [intOf]; omega
    · have i1 : decide ((j : Int) < (n : Int)) = false := decide_eq_false (by omega)
      go_wp2_with fail
      refine bodyPost_ret (results_tmp2 rfl _ _ _) rfl ⟨.inr ⟨fun i hi => hall.out i (by omega), rfl⟩, hx.out.bel⟩

theorem PutBox.own {B n c C : Nat} {A : Option Addr} {e : Nd} {w x y : World} (h : PutBox B A n c e w x) (hb : Below C x y) (hC : B + 2 < C) : PutBox B A n c e w y := by
  obtain ⟨h0, ⟨e0, e1, e2, e3, e4, e5, e6, e7⟩, h2, h3, h4, h5⟩ := h
  have k : ∀ b o, b < C → y.cell? ⟨b, o, none⟩ = x.cell? ⟨b, o, none⟩ := fun b o hb' => hb.cell (p := ⟨b, o, none⟩) hb'
  exact ⟨(k _ _ (by omega)).trans h0, ⟨(k _ _ (by omega)).trans e0, (k _ _ (by omega)).trans e1, (k _ _ (by omega)).trans e2, (k _ _ (by omega)).trans e3, (k _ _ (by omega)).trans e4, (k _ _ (by omega)).trans e5, (k _ _ (by omega)).trans e6, (k _ _ (by omega)).trans e7⟩, (k _ _ (by omega)).trans h2, Nat.lt_of_lt_of_le h3 hb.size, h4.trans (hb.mono (by omega)), (hb.frozen (p := ⟨B + 2, 0, none⟩) hC).trans h5⟩
set_option maxHeartbeats 4000000 in
theorem RPut_any (v : Value) (n : Nat) (N : Nat → Nd) (e : Nd) (most : Int) (w : World) (hv : NdsAt w v n N) (hn : n ≤ 1000000) (he : NdR e) (hm : R64 most) :
    Calls Try.prog 78 #[.agg #[v], ndV e, .int .i64 most] w (PutPost n N e most w) := by
  have hv' := Lib.hid hv
  have hn' := Lib.hid hn
  have he' := Lib.hid he
  have hr := Lib.hid hv.ranges
  obtain ⟨A, c, rfl, hc, _, _⟩ := hv
  obtain ⟨hc0, hc1⟩ := hc
  obtain ⟨hm0, hm1⟩ := hm
  have hbx := Lib.hid (putBox w A n c e 24 39 24)
  have hv0 := Lib.hid (hv'.out.below hbx.out.2.2.2.2.1)
  have hCh := Lib.hid (RCheck_any _ n N _ hv0.out hn)
  have hF := Lib.hid fun W (h : Below w.heap.size w W) => RFind_any _ n N e W (hv'.out.below h) hn
  have hcc := Lib.hid (@check_not n N)
  have hcy := Lib.hid (@check_yes n N)
  unfold ndV at hF
  unfold ndV
  go_enter Try.func78, Try.ntmps78
  go_wp2_with fail
  refine hCh.out.mono ?_
  rintro x w2 ⟨rfl, hb2⟩
  have hp2 := Lib.hid (hbx.out.step hb2)
  clear hb2 hCh
  rcases Classical.em (CheckP n N) with hch | hch
  · rw [hcy.out hch]
    have h2 := hch.two
    have hch' := Lib.hid hch
    clear hch
    have hS := Lib.hid (RStands_any e n w2 he'.out (by unfold R64; omega))
    unfold ndV at hS
    obtain ⟨q0, q1, q2, q3, q4, q5, q6, q7, q8, q9, q10⟩ := putS hp2.out
    clear hbx
    go_wp2_with fail
    refine hS.out.mono ?_
    rintro x w3 ⟨rfl, hb3⟩
    have hp3 := Lib.hid (hp2.out.step hb3)
    clear hb3 hS hp2 q0 q1 q2 q3 q4 q5 q6 q7 q8 q9 q10
    rcases Classical.em (StandsP e n) with hst | hst
    · rw [stands_yes hst]
      have hst' := Lib.hid hst
      clear hst
      obtain ⟨q0, q1, q2, q3, q4, q5, q6, q7, q8, q9, q10⟩ := putS hp3.out
      go_wp2_with fail
      refine (hF.out w3 hp3.out.2.2.2.2.1).mono ?_
      rintro x w4 ⟨⟨i, hi, hie, rfl⟩ | ⟨hne, rfl⟩, hb4⟩
      · have hp4 := Lib.hid (hp3.out.step hb4)
        have hR := Lib.hid (PutR.there (most := most) hch'.out hst'.out i hi hie)
        clear hb4 hp3 q0 q1 q2 q3 q4 q5 q6 q7 q8 q9 q10 hie
        obtain ⟨q0, q1, q2, q3, q4, q5, q6, q7, q8, q9, q10⟩ := putS hp4.out
        have q11 : w4.cell? ⟨w.heap.size + 2, 0, none⟩ = some (.slice none 0 0) := hp4.out.2.2.1
        have q12 : w4.frozen? ⟨w.heap.size + 2, 0, none⟩ = false := hp4.out.2.2.2.2.2
        go_wp2_with fail
        exact bodyPost_ret (results_tab2 rfl _ _ (w.heap.size + 2) (.slice A n c) rfl (PutBox.res hp4.out _)) rfl ⟨_, n, N, i, 0, rfl, hR.out, hv'.out.below (PutBox.bel hp4.out _), PutBox.bel hp4.out _⟩
      · have hp4 := Lib.hid (hp3.out.step hb4)
        have hne' := Lib.hid hne
        clear hb4 hp3 q0 q1 q2 q3 q4 q5 q6 q7 q8 q9 q10 hne
        obtain ⟨q0, q1, q2, q3, q4, q5, q6, q7, q8, q9, q10⟩ := putS hp4.out
        by_cases hmn : most ≤ n
        · have d1 : decide (most ≤ (n : Int)) = true := decide_eq_true hmn
          have hR := Lib.hid (PutR.many hch'.out hst'.out hne'.out hmn N)
          clear hmn
          have q11 : w4.cell? ⟨w.heap.size + 2, 0, none⟩ = some (.slice none 0 0) := hp4.out.2.2.1
          have q12 : w4.frozen? ⟨w.heap.size + 2, 0, none⟩ = false := hp4.out.2.2.2.2.2
          go_wp2_with fail
          exact bodyPost_ret (results_tab2 rfl _ _ (w.heap.size + 2) (.slice none 0 0) rfl (PutBox.res hp4.out _)) rfl ⟨_, 0, N, 0, 40, rfl, hR.out, NdsAt.nil _ _, PutBox.bel hp4.out _⟩
        · have d1 : decide (most ≤ (n : Int)) = false := decide_eq_false hmn
          have hR := Lib.hid (PutR.put hch'.out hst'.out hne'.out (by omega : (n : Int) < most))
          clear hmn
          have hown0 := Lib.hid (OwnG.nil w4 w4.heap.size 39 8 (fun i => ndC (N i)))
          have hz4 := hp4.out.2.2.2.1
          have hsrc := Lib.hid (hv'.out.below hp4.out.2.2.2.2.1)
          go_wp2_with (at_builtin; refine wpList_appN rfl _ _ rfl w4.heap.size _ 0 N rfl hown0.out _ n N rfl hsrc.out (by omega) (Nat.le_refl _) ?_)
          intro v5 w5 hown5 hb5
          have hown5' : Hid (OwnN w5 w4.heap.size v5 n N) := OwnG.congr hown5 fun i _ => rfl
          have hp5 := Lib.hid (hp4.out.step hb5)
          obtain ⟨g5, c5, rfl, hg5, _⟩ := World.ownsRow.form hown5'.out (by omega : 0 < n)
          clear hown0 hsrc hown5 q0 q1 q2 q3 q4 q5 q6 q7 q8 q9 q10 hb5 hz4
          obtain ⟨q0, q1, q2, q3, q4, q5, q6, q7, q8, q9, q10⟩ := putS hp5.out
          go_upto_region 10 with fail
          have pb6 : PutBox w.heap.size A n c e w (w5.alloc (.cells #[.int .i8 e.op, .int .i8 e.len, .int .i64 e.a0, .int .i64 e.a1, .int .i64 e.a2, .int .i64 e.sort, .int .i64 e.fn, .int .i64 e.num] 39)).drew := (hp5.out.alloc _).drew
          have pb5 : PutBox w.heap.size A n c e w w5.drew := hp5.out.drew
          have hownA := Lib.hid (hown5'.out.below (((Below.refl w5.heap.size w5).alloc (Nat.le_refl _) (.cells #[.int .i8 e.op, .int .i8 e.len, .int .i64 e.a0, .int .i64 e.a1, .int .i64 e.a2, .int .i64 e.sort, .int .i64 e.fn, .int .i64 e.num] 39)).drew) (Nat.le_refl _))
          have hnew := Lib.hid ((nds_one w5 e he'.out).below ((Below.refl _ _).drew))
          have hbase : Hid (w4.heap.size ≤ (w5.alloc (.cells #[.int .i8 e.op, .int .i8 e.len, .int .i64 e.a0, .int .i64 e.a1, .int .i64 e.a2, .int .i64 e.sort, .int .i64 e.fn, .int .i64 e.num] 39)).drew.heap.size) := by
            show w4.heap.size ≤ (w5.alloc _).heap.size
            have : g5 < w5.heap.size := (World.ownsRow.lt hown5'.out g5 rfl).2
            simp; omega
          have hp4b := Lib.hid hp4.out.2.2.2.1
          go_region_held3 (fun x => x.cell? ⟨w.heap.size, 0, none⟩ = some (.slice A n c) ∧ x.cell? ⟨w.heap.size + 1, 0, none⟩ = some (.int .i8 e.op) ∧ x.cell? ⟨w.heap.size + 1, 1, none⟩ = some (.int .i8 e.len) ∧ x.cell? ⟨w.heap.size + 1, 2, none⟩ = some (.int .i64 e.a0) ∧ x.cell? ⟨w.heap.size + 1, 3, none⟩ = some (.int .i64 e.a1) ∧ x.cell? ⟨w.heap.size + 1, 4, none⟩ = some (.int .i64 e.a2)
              ∧ x.cell? ⟨w.heap.size + 1, 5, none⟩ = some (.int .i64 e.sort) ∧ x.cell? ⟨w.heap.size + 1, 6, none⟩ = some (.int .i64 e.fn) ∧ x.cell? ⟨w.heap.size + 1, 7, none⟩ = some (.int .i64 e.num) ∧ w.heap.size + 2 < x.heap.size ∧ Below w.heap.size w x)
            (first | exact putS pb5 | exact putS pb6 | exact putS pb7 | exact hs8 | fail)
            (first | (refine step_appO rfl (.tmp 43) (.tmp 45) rfl w4.heap.size _ n N rfl hownA.out _ e rfl hnew.out hn hbase.out hr.out he'.out ?_; intro g6 c6 w6 hg6 hN6 hb6; have pb7 := pb6.own hb6 hp4b.out; have hs8 := putS_set pb7 (.slice (some ⟨g6, 0, none⟩) (n + 1) c6); have q11 := pb7.2.2.1; have q12 := pb7.2.2.2.2.2) | fail)
          go_wp2_with fail
          have hg : w.heap.size + 2 ≠ g6 := by have := hp4b.out; omega
          exact bodyPost_ret (results_tab2 rfl _ _ (w.heap.size + 2) (.slice (some ⟨g6, 0, none⟩) (n + 1) c6) rfl (PutBox.res pb7 _)) rfl ⟨_, n + 1, extN N n e, n, 0, rfl, hR.out, hN6.setOther hg _, PutBox.bel pb7 _⟩
    · rw [stands_no hst]
      have hR := Lib.hid (PutR.arg (n := n) (N := N) (e := e) (most := most) (fun h => hst h.2) N)
      clear hst
      obtain ⟨q0, q1, q2, q3, q4, q5, q6, q7, q8, q9, q10⟩ := putS hp3.out
      have q11 : w3.cell? ⟨w.heap.size + 2, 0, none⟩ = some (.slice none 0 0) := hp3.out.2.2.1
      have q12 : w3.frozen? ⟨w.heap.size + 2, 0, none⟩ = false := hp3.out.2.2.2.2.2
      go_wp2_with fail
      exact bodyPost_ret (results_tab2 rfl _ _ (w.heap.size + 2) (.slice none 0 0) rfl (PutBox.res hp3.out _)) rfl ⟨_, 0, N, 0, 2, rfl, hR.out, NdsAt.nil _ _, PutBox.bel hp3.out _⟩
  · rw [hcc.out hch]
    have hR := Lib.hid (PutR.arg (n := n) (N := N) (e := e) (most := most) (fun h => hch h.1) N)
    clear hch
    obtain ⟨q0, q1, q2, q3, q4, q5, q6, q7, q8, q9, q10⟩ := putS hp2.out
    have q11 : w2.cell? ⟨w.heap.size + 2, 0, none⟩ = some (.slice none 0 0) := hp2.out.2.2.1
    have q12 : w2.frozen? ⟨w.heap.size + 2, 0, none⟩ = false := hp2.out.2.2.2.2.2
    go_wp2_with fail
    exact bodyPost_ret (results_tab2 rfl _ _ (w.heap.size + 2) (.slice none 0 0) rfl (PutBox.res hp2.out _)) rfl ⟨_, 0, N, 0, 2, rfl, hR.out, NdsAt.nil _ _, PutBox.bel hp2.out _⟩
end Go.Proofs.Ytecmoahadckomaa
