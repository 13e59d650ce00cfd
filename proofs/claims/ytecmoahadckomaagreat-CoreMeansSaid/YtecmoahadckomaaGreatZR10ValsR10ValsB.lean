/- gantryref10.Values. -/
import Derived.Test.YtecmoahadckomaaGreatZR10Val
import Derived.Test.YtecmoahadckomaaGreatZEvWToEvB
import Derived.Test.YtecmoahadckomaaGreatZR6TabB
namespace Go.Proofs.YtecmoahadckomaaGreat
open Go.RowKit
set_option maxRecDepth 100000

theorem info_bool10 : (Tryz.prog.info? 4).map (fun i => (i.zero, i.size, i.bytes)) = some (some (.bool false), 1, 1) := by kernel_rfl
def blC (O : Nat → Bool) (i : Nat) : List Value := [.bool (O i)]
theorem OwnG.bls {w : World} {base n : Nat} {v : Value} {O : Nat → Bool} (h : OwnG w base 4 1 v n (blC O)) : BlsAt w v n O := by
  obtain ⟨A, c, rfl, _, hc⟩ := h.at_ (fun _ => rfl)
  refine ⟨A, c, rfl, fun h0 => ?_⟩
  obtain ⟨b, o, rfl, hb, hcell⟩ := hc h0
  exact ⟨b, o, rfl, hb, fun i hi => by
    have := hcell i hi 0 _ rfl
    simpa using this⟩
/-- append of one element, whose cells a row of one holds. -/
theorem wpList_appRow {P : Program} {ops : Array Oper} {rest : List Oper} {o : Oper} {a : Act} {w : World} {Q : Exit → Act → World → Prop} (hgd : o.guard = none) (p q : Operand) (t e : TypeId)
    (ho : o.op = .call { callee := .builtin .append, args := #[p, q], argTypes := #[t, t] }) (i : TypeInfo) (z : Value) (bytes s : Nat) (ht : P.underlying t = some (.slice e)) (hi : P.info? e = some i) (hz : i.zero = some z)
    (hsize : i.size = s) (hby : i.bytes = bytes) (hzs : z.cells.size = s) (hsz : 0 < s) (base : Nat) (v : Value) (n : Nat) (g : Nat → List Value) (hp : a.eval p = v) (hown : OwnG w base e s v n g)
    (b c : Nat) (hq : a.eval q = .slice (some ⟨b, 0, none⟩) 1 c) (hb : b < w.heap.size) (hs : ∀ i, (g i).length = s) (hc : ∀ r u, (g n)[r]? = some u → w.cell? ⟨b, r, none⟩ = some u) (h1 : ∀ u ∈ g n, u.oneCell' = true)
    (hn : n ≤ 1000000) (hbb : bytes ≤ 1000) (hbase : base ≤ w.heap.size)
    (h : ∀ v' w', OwnG w' base e s v' (n + 1) g → Below base w w' → w.grownBy w' v.ownBlock → wpList P ops Q rest (a.put o.dst v') w') : wpList P ops Q (o :: rest) a w := by
  have hby2 : (n + 1) * bytes ≤ 140737488355328 := Nat.le_trans (Nat.mul_le_mul (by omega : n + 1 ≤ 1000001) hbb) (by decide)
  refine wpList_append_src (by simp [Region.wanted, hgd]) p q t ho i z bytes ht hi hz hsize hby hzs hsz hp hown _ hq (m := 1) (g' := fun _ => g n) ⟨_, _, rfl, fun _ => hs n, fun _ => ⟨b, 0, rfl, hb, fun i hi r u hu => ?_⟩⟩ (fun i _ u hu => h1 u hu) (by unfold maxLen; omega) hby2 hbase fun v' w' h2 h3 h4 => h v' w' (h2.congr fun i hi => ?_) h3 h4
  · obtain rfl : i = 0 := by omega
    have := hc r u hu
    simpa using this
  · by_cases hin : i < n
    · rw [if_pos hin]
    · obtain rfl : i = n := by omega
      rw [if_neg hin]
theorem wpList_app1i {P : Program} (hP : P = Tryz.prog) {ops : Array Oper} {rest : List Oper} {o : Oper} {a : Act} {w : World} {Q : Exit → Act → World → Prop} (hgd : o.guard = none) (p q : Operand)
    (ho : o.op = .call { callee := .builtin .append, args := #[p, q], argTypes := #[27, 27] }) (base : Nat) (v : Value) (n : Nat) (S : Nat → Int) (hp : a.eval p = v) (hown : OwnG w base 3 1 v n (intC S))
    (b c : Nat) (x : Int) (hx : S n = x) (hq : a.eval q = .slice (some ⟨b, 0, none⟩) 1 c) (hb : b < w.heap.size) (hc : w.cell? ⟨b, 0, none⟩ = some (.int .i64 x)) (hn : n ≤ 1000000) (hbase : base ≤ w.heap.size)
    (h : ∀ v' w', OwnG w' base 3 1 v' (n + 1) (intC S) → Below base w w' → w.grownBy w' v.ownBlock → wpList P ops Q rest (a.put o.dst v') w') : wpList P ops Q (o :: rest) a w := by
  subst hP hx
  obtain ⟨i0, hi, hz0, hz1, hz2⟩ := info_parts info_int
  refine wpList_appRow hgd p q 27 3 ho i0 _ 8 1 Tryz.underlying27 hi hz0 hz1 hz2 rfl (by decide) base v n (intC S) hp hown b c hq hb (fun _ => rfl) (fun r u hu => ?_) (fun u hu => ?_) hn (by decide) hbase h
  · cases r with
    | zero => simp [intC] at hu; subst hu; exact hc
    | succ r => simp [intC] at hu
  · simp [intC] at hu; subst hu; rfl
theorem wpList_app1b {P : Program} (hP : P = Tryz.prog) {ops : Array Oper} {rest : List Oper} {o : Oper} {a : Act} {w : World} {Q : Exit → Act → World → Prop} (hgd : o.guard = none) (p q : Operand)
    (ho : o.op = .call { callee := .builtin .append, args := #[p, q], argTypes := #[38, 38] }) (base : Nat) (v : Value) (n : Nat) (S : Nat → Bool) (hp : a.eval p = v) (hown : OwnG w base 4 1 v n (blC S))
    (b c : Nat) (x : Bool) (hx : S n = x) (hq : a.eval q = .slice (some ⟨b, 0, none⟩) 1 c) (hb : b < w.heap.size) (hc : w.cell? ⟨b, 0, none⟩ = some (.bool x)) (hn : n ≤ 1000000) (hbase : base ≤ w.heap.size)
    (h : ∀ v' w', OwnG w' base 4 1 v' (n + 1) (blC S) → Below base w w' → w.grownBy w' v.ownBlock → wpList P ops Q rest (a.put o.dst v') w') : wpList P ops Q (o :: rest) a w := by
  subst hP hx
  obtain ⟨i0, hi, hz0, hz1, hz2⟩ := info_parts info_bool10
  refine wpList_appRow hgd p q 38 4 ho i0 _ 1 1 Tryz.underlying38 hi hz0 hz1 hz2 rfl (by decide) base v n (blC S) hp hown b c hq hb (fun _ => rfl) (fun r u hu => ?_) (fun u hu => ?_) hn (by decide) hbase h
  · cases r with
    | zero => simp [blC] at hu; subst hu; exact hc
    | succ r => simp [blC] at hu
  · simp [blC] at hu; subst hu; rfl

/-! What one round comes to. -/
theorem ev_round {g : Sg} {W : Wd} {N : Nat → Nd} {n j : Nat} (hj : j < n) : evF g W N n j =
    if overE (evF g W N j) (N j) (N j).len.toNat = true then (0, true) else if (wayT g W (N j) (N j).len.toNat (argV (evF g W N j) (N j))).2 = true then ((wayT g W (N j) (N j).len.toNat (argV (evF g W N j) (N j))).1, false) else (0, true) := by
  rw [evF_stay (k := j + 1) (Nat.lt_succ_self j) hj, evF_succ]
  unfold stepE
  rw [if_pos rfl, evF_old (Nat.le_refl j), Bool.false_or]
theorem ev_pre {g : Sg} {W : Wd} {n : Nat} {N : Nat → Nd} (h : EvOk g W n N) {j : Nat} (hj : j < n) : ∀ i : Nat, (i : Int) < (N j).len → isB g.ns W (sortsN N (N j) i) (argV (evF g W N j) (N j) i) = true := fun i hi => by
  have := h.chk.argB hj hi
  exact ev_typed h (Nat.le_of_lt hj) _ (by omega)
theorem ev_sum {g : Sg} {W : Wd} {n : Nat} {N : Nat → Nd} (h : EvOk g W n N) {j : Nat} (hj : j < n) : (N j).op = 11 → mayB (argV (evF g W N j) (N j) 0) = true ∧ mayB (N j).num = true := fun h11 => by
  have hs := h.chk.all j hj
  have ho := okNd_iff (h.srt j hj)
  unfold nodeT at ho
  rw [if_neg (by omega), h11] at ho
  obtain ⟨hm, _, ha⟩ := opT_ok ho (by decide)
  have hm : ((N j).len.toNat : Int) = 1 := hm
  have hl0 := hs.len0
  have ha := ha (by decide) 0 (by omega)
  have h0 := ev_pre h hj 0 (by omega)
  rw [ha, show tyA 11 = 1 by decide, isB_int (mayW_nz h.may)] at h0
  exact ⟨h0, hs.num (.inr (.inl h11))⟩
theorem ev_args {g : Sg} {W : Wd} {n : Nat} {N : Nat → Nd} (h : EvOk g W n N) {j k : Nat} (hj : j < n) (hk : (k : Int) < (N j).len) : ∃ a : Nat, (N j).arg k = a ∧ a < j ∧ evF g W N n a = evF g W N j a := by
  have := h.chk.argB hj hk
  exact ⟨((N j).arg k).toNat, by omega, by omega, evF_stay (by omega) (Nat.le_of_lt hj)⟩
/-- What the values' rows hold. -/
def RVals10 (g : Sg) (W : Wd) (n : Nat) (N : Nat → Nd) (w : World) (z : Ending) (w' : World) : Prop :=
  (∃ vl vo, z = .returned (.tuple #[vl, vo, .int .i64 (valsE g W n N)]) ∧ (valsE g W n N = 0 → IntsAt w' vl n (fun j => (evF g W N n j).1) ∧ BlsAt w' vo n (fun j => (evF g W N n j).2)) ∧ (valsE g W n N ≠ 0 → vl = .slice none 0 0 ∧ vo = .slice none 0 0)) ∧ Below w.heap.size w w'
def q10K (w : World) (sv fv mv zv wv tv : Value) : List (Nat × Nat × Value) := (w.heap.size + 2, 0, tv) :: isK w sv fv mv zv wv
theorem q10K_bx (w : World) (sv fv mv zv wv tv : Value) : Bx w (q10K w sv fv mv zv wv tv) (((w.alloc (.cells #[sv, fv, mv] 26)).alloc (.cells #[zv, wv] 30)).alloc (.cells #[tv] 33)) := by
  have h := (isK_bx w sv fv mv zv wv).row #[tv] 33
  simp only [World.size_alloc] at h
  exact h
theorem q10K_cells {w x : World} {sv fv mv zv wv tv : Value} (h : Bx w (q10K w sv fv mv zv wv tv) x) : x.cell? ⟨w.heap.size + 2, 0, none⟩ = some tv ∧ x.cell? ⟨w.heap.size + 1, 0, none⟩ = some zv ∧ x.cell? ⟨w.heap.size + 1, 1, none⟩ = some wv ∧ x.cell? ⟨w.heap.size, 0, none⟩ = some sv ∧ x.cell? ⟨w.heap.size, 1, none⟩ = some fv ∧ x.cell? ⟨w.heap.size, 2, none⟩ = some mv := by
  obtain ⟨⟨a, -⟩, ⟨b, -⟩, ⟨c, -⟩, ⟨d, -⟩, ⟨e, -⟩, ⟨f, -⟩, -⟩ := h.cells
  exact ⟨a, b, c, d, e, f⟩
theorem q10K_lt {w : World} {sv fv mv zv wv tv : Value} : ∀ a ∈ q10K w sv fv mv zv wv tv, a.1 < w.heap.size + 3 := by
  intro a ha
  simp only [q10K, isK, List.mem_cons, List.not_mem_nil, or_false] at ha
  rcases ha with rfl | rfl | rfl | rfl | rfl | rfl <;> simp
/-- The rows so far. -/
structure Q10 (w : World) (sv fv mv zv wv tv : Value) (L : Nat → Int) (O : Nat → Bool) (lv ov : Value) (j k : Nat) (x : World) : Prop where
  bx : Bx w (q10K w sv fv mv zv wv tv) x
  l : OwnG x (w.heap.size + 3) 3 1 lv j (intC L)
  o : OwnG x (w.heap.size + 3) 4 1 ov k (blC O)
section
variable {w x y : World} {sv fv mv zv wv tv lv ov : Value} {L : Nat → Int} {O : Nat → Bool} {j k : Nat}
theorem Q10.big (h : Q10 w sv fv mv zv wv tv L O lv ov j k x) : w.heap.size + 3 ≤ x.heap.size := h.bx.cells.1.2
theorem Q10.step (h : Q10 w sv fv mv zv wv tv L O lv ov j k x) (hb : Below x.heap.size x y) : Q10 w sv fv mv zv wv tv L O lv ov j k y := ⟨h.bx.step hb, h.l.below hb (Nat.le_refl _), h.o.below hb (Nat.le_refl _)⟩
theorem Q10.moreL {l' : Value} {j' : Nat} (h : Q10 w sv fv mv zv wv tv L O lv ov j k x) (ho : OwnG y (w.heap.size + 3) 3 1 l' j' (intC L)) (hb : Below (w.heap.size + 3) x y) (hg : x.grownBy y lv.ownBlock) : Q10 w sv fv mv zv wv tv L O l' ov j' k y :=
  ⟨h.bx.under hb q10K_lt (by omega), ho, World.ownsRow.kept h.o hg (h.o.apart h.l (by decide))⟩
theorem Q10.moreO {o' : Value} {k' : Nat} (h : Q10 w sv fv mv zv wv tv L O lv ov j k x) (ho : OwnG y (w.heap.size + 3) 4 1 o' k' (blC O)) (hb : Below (w.heap.size + 3) x y) (hg : x.grownBy y ov.ownBlock) : Q10 w sv fv mv zv wv tv L O lv o' j k' y :=
  ⟨h.bx.under hb q10K_lt (by omega), World.ownsRow.kept h.l hg (h.l.apart h.o (by decide)), ho⟩
end
end Go.Proofs.YtecmoahadckomaaGreat

namespace Go.Proofs.YtecmoahadckomaaGreat
open Go.RowKit
set_option maxRecDepth 1000000

theorem NdIn.new (wr : World) (e : Nd) : NdIn (wr.alloc (.cells #[.int .i8 e.op, .int .i8 e.len, .int .i64 e.a0, .int .i64 e.a1, .int .i64 e.a2, .int .i64 e.sort, .int .i64 e.fn, .int .i64 e.num] 47)) wr.heap.size 0 e :=
  ⟨by simp, by simp, by simp, by simp, by simp, by simp, by simp, by simp⟩
theorem NdIn.argc {x : World} {b : Nat} {e : Nd} (h : NdIn x b 0 e) {k : Nat} (hk : k < 3) : x.cell? ⟨b, 2 + k, none⟩ = some (.int .i64 (e.arg k)) := by
  obtain ⟨_, _, h2, h3, h4, _⟩ := h
  simp only [Nat.zero_add] at h2 h3 h4
  match k, hk with
  | 0, _ => exact h2
  | 1, _ => exact h3
  | 2, _ => exact h4
set_option maxHeartbeats 32000000 in
theorem R10Values_any (sv fv mv zv wv tv : Value) (g : Sg) (W : Wd) (n : Nat) (N : Nat → Nd) (w : World) (hG : SgAt w sv fv mv g) (hW : WdAt w zv wv W) (hw : FewW W) (hv : NdsAt w tv n N) (hn : n ≤ 100000) :
    Calls Tryz.prog 8 #[.agg #[sv, fv, mv], .agg #[zv, wv], .agg #[tv]] w (RVals10 g W n N w) := by
  have hG' := Lib.hid hG
  have hW' := Lib.hid hW
  have hw' := Lib.hid hw
  have hv' := Lib.hid hv
  obtain ⟨A, c, rfl, -, -⟩ := hG.1
  obtain ⟨FA, fc, rfl, -, -⟩ := hG.2.1
  obtain ⟨MA, mc, rfl, -, -⟩ := hG.2.2
  obtain ⟨ZA, zc, rfl, -, -, -⟩ := hW.1
  obtain ⟨WA, wq, rfl, -, -⟩ := hW.2
  obtain ⟨TA, tc, rfl, hcap, hRn, hcs⟩ := hv
  have hcs' := Lib.hid hcs
  have hRn' := Lib.hid hRn
  have hx := Lib.hid (q10K_bx w (.slice A g.ns c) (.slice FA g.nf fc) (.slice MA g.nm mc) (.slice ZA W.nz zc) (.slice WA W.nf wq) (.slice TA n tc))
  have hCt := Lib.hid (RCheck_any _ n N _ (hv'.out.below hx.out.bel) (by omega))
  have hMa := Lib.hid fun (x : World) (hb : Below w.heap.size w x) => R9May_any _ _ _ _ _ g W x (hG'.out.below hb) (hW'.out.below hb) hw'.out
  have hTa := Lib.hid fun (x : World) (hb : Below w.heap.size w x) => R6Table_any _ _ _ _ g n N x (hG'.out.below hb) (hv'.out.below hb) (by omega)
  have hE : Hid (valsE g W n N = if checkT n N ≠ 0 then 2 else if mayW g W = false then 2 else if tabT g n N ≠ 0 then 33 else 0) := rfl
  have hok := Lib.hid (@valsE_ok g W n N)
  clear hG hW hw hcs hRn
  obtain ⟨k0, k1, k2, k3, k4, k5⟩ := q10K_cells hx.out
  go_enter Tryz.func8, Tryz.ntmps8
  go_wp2_with fail
  refine hCt.out.mono ?_
  rintro z w1 ⟨rfl, hb1⟩
  have hx1 := Lib.hid (hx.out.step hb1)
  clear hb1 hCt hx k0 k1 k2 k3 k4 k5
  obtain ⟨k0, k1, k2, k3, k4, k5⟩ := q10K_cells hx1.out
  by_cases h1 : checkT n N = 0
  case neg =>
    have d1 : (checkT n N != 0) = true := by simpa using h1
    have hF : valsE g W n N = 2 := by rw [hE.out, if_pos h1]
    have hF' := Lib.hid hF
    clear h1 hF hok hE
    go_wp2_with fail
    go_ret3
    exact ⟨⟨_, _, by rw [hF'.out]; rfl, fun h => by rw [hF'.out] at h; exact absurd h (by decide), fun _ => ⟨rfl, rfl⟩⟩, hx1.out.bel⟩
  have hE1 : Hid (valsE g W n N = if mayW g W = false then 2 else if tabT g n N ≠ 0 then 33 else 0) := by unfold Hid; rw [hE.out, if_neg (fun h => h h1)]
  rw [h1]
  clear h1 hE
  go_wp2_with fail
  refine (hMa.out _ hx1.out.bel).mono ?_
  rintro z w2 ⟨rfl, hb2⟩
  have hx2 := Lib.hid (hx1.out.step hb2)
  clear hb2 hMa hx1 k0 k1 k2 k3 k4 k5
  obtain ⟨k0, k1, k2, k3, k4, k5⟩ := q10K_cells hx2.out
  cases hm : mayW g W with
  | false =>
    have hF' : Hid (valsE g W n N = 2) := by unfold Hid; rw [hE1.out, if_pos hm]
    clear hm hok hE1
    go_wp2_with fail
    go_ret3
    exact ⟨⟨_, _, by rw [hF'.out]; rfl, fun h => by rw [hF'.out] at h; exact absurd h (by decide), fun _ => ⟨rfl, rfl⟩⟩, hx2.out.bel⟩
  | true =>
  have hE2 : Hid (valsE g W n N = if tabT g n N ≠ 0 then 33 else 0) := by unfold Hid; rw [hE1.out, if_neg (by rw [hm]; simp)]
  clear hm hE1
  go_wp2_with fail
  refine (hTa.out _ hx2.out.bel).mono ?_
  rintro z w3 ⟨rfl, hb3⟩
  have hx3 := Lib.hid (hx2.out.step hb3)
  clear hb3 hTa hx2 k0 k1 k2 k3 k4 k5
  obtain ⟨k0, k1, k2, k3, k4, k5⟩ := q10K_cells hx3.out
  by_cases h3 : tabT g n N = 0
  case neg =>
    have d1 : (tabT g n N != 0) = true := by simpa using h3
    have hF' : Hid (valsE g W n N = 33) := by unfold Hid; rw [hE2.out, if_pos h3]
    clear h3 hok hE2
    go_wp2_with fail
    go_ret3
    exact ⟨⟨_, _, by rw [hF'.out]; rfl, fun h => by rw [hF'.out] at h; exact absurd h (by decide), fun _ => ⟨rfl, rfl⟩⟩, hx3.out.bel⟩
  have hF : Hid (valsE g W n N = 0) := by unfold Hid; rw [hE2.out, if_neg (fun h => h h3)]
  have hEv := Lib.hid (hok.out hF.out)
  rw [h3]
  clear h3 hok hE2
  go_wp2_with fail
  clear k0 k1 k2 k3 k4 k5
  have hQ0 : Hid (Q10 w (.slice A g.ns c) (.slice FA g.nf fc) (.slice MA g.nm mc) (.slice ZA W.nz zc) (.slice WA W.nf wq) (.slice TA n tc) (fun i => (evF g W N n i).1) (fun i => (evF g W N n i).2) (.slice none 0 0) (.slice none 0 0) 0 0 w3) := ⟨hx3.out, OwnG.nil _ _ _ _ _, OwnG.nil _ _ _ _ _⟩
  have hLR := Lib.hid (fun (a : Nat) (ha : a < n) => isB_R hEv.out.may (ev_typed hEv.out (Nat.le_refl n) a ha))
  clear hx3
  go_loopw [9, 10, 11] (fun lv ov i wr => ∃ j : Nat, j ≤ n ∧ i = .int .i64 j ∧ Hid (Q10 w (.slice A g.ns c) (.slice FA g.nf fc) (.slice MA g.nm mc) (.slice ZA W.nz zc) (.slice WA W.nf wq) (.slice TA n tc) (fun i => (evF g W N n i).1) (fun i => (evF g W N n i).2) lv ov j j wr)) (fun _ _ i _ => n - (intOf i).toNat)
  case atStart => exact ⟨0, Nat.zero_le _, rfl, hQ0.out⟩
  case round =>
  clear hQ0
  obtain ⟨j, hj, rfl, hQ⟩ := hrel
  obtain ⟨k0, k1, k2, k3, k4, k5⟩ := q10K_cells hQ.out.bx
  by_cases hlt : j < n
  case neg =>
    have i1 : decide ((j : Int) < (n : Int)) = false := decide_eq_false (by omega)
    obtain rfl : j = n := by omega
    have hvl := Lib.hid (hQ.out.l.ints (by omega) (fun i hi => hLR.out i hi))
    have hvo := Lib.hid hQ.out.o.bls
    have hb := Lib.hid hQ.out.bx.bel
    clear hQ
    go_wp2_with fail
    go_ret3
    exact ⟨⟨_, _, by rw [hF.out]; rfl, fun _ => ⟨hvl.out, hvo.out⟩, fun h => absurd hF.out h⟩, hb.out⟩
  have i1 : decide ((j : Int) < (n : Int)) = true := decide_eq_true (by omega)
  obtain ⟨tb, to_, rfl, htb, hcs⟩ := hcs'.out (by omega)
  obtain ⟨p0, p1, p2, p3, p4, p5, p6, p7⟩ := (hcs j hlt).below hQ.out.bx.bel htb
  have hj0 : (0 : Int) ≤ (j : Int) := by omega
  have hjn : (j : Int) < (n : Int) := by omega
  have hs := Lib.hid (hEv.out.chk.all j hlt)
  have hl0 := hs.out.len0
  have hl3 := hs.out.len3
  obtain ⟨m, hm⟩ : ∃ m : Nat, (N j).len = m := ⟨(N j).len.toNat, by omega⟩
  have hmt : (N j).len.toNat = m := by omega
  have hm3 : m ≤ 3 := by omega
  have hround := Lib.hid (ev_round (g := g) (W := W) (N := N) hlt)
  rw [hmt] at hround
  have hargs := Lib.hid (fun (k : Nat) (hk : k < m) => ev_args hEv.out hlt (k := k) (by rw [hm]; omega))
  have hpre := Lib.hid (way_pre hEv.out hlt (ev_pre hEv.out hlt))
  have hsum := Lib.hid (ev_sum hEv.out hlt)
  have hVR := Lib.hid (fun (k : Nat) (hk : k < m) => hpre.out.R k (by rw [hm]; omega))
  have hNR := Lib.hid (hRn'.out j hlt)
  have hVa := Lib.hid fun (y : World) (hb : Below w.heap.size w y) (uv : Value) (hV : IntsAt y uv m (argV (evF g W N j) (N j))) => RVal_any _ _ _ _ _ uv g W (N j) j (argV (evF g W N j) (N j)) y (hG'.out.below hb) (hW'.out.below hb) hw'.out hNR.out hs.out hpre.out hsum.out (by rw [hmt]; exact hV)
  rw [hmt] at hVa
  have hrf := Lib.hid (refT_ok g W (N j) m (argV (evF g W N j) (N j)) hsum.out)
  obtain ⟨W1, hW1⟩ : ∃ W1, W1 = wr.alloc (.cells #[.int .i8 (N j).op, .int .i8 (N j).len, .int .i64 (N j).a0, .int .i64 (N j).a1, .int .i64 (N j).a2, .int .i64 (N j).sort, .int .i64 (N j).fn, .int .i64 (N j).num] 47) := ⟨_, rfl⟩
  have hQ1 : Hid (Q10 w (.slice A g.ns c) (.slice FA g.nf fc) (.slice MA g.nm mc) (.slice ZA W.nz zc) (.slice WA W.nf wq) (.slice (some ⟨tb, to_, none⟩) n tc) (fun i => (evF g W N n i).1) (fun i => (evF g W N n i).2) u9 u10 j j W1) := by rw [hW1]; exact hQ.out.step ((Below.refl _ _).alloc (Nat.le_refl _) _)
  have hN1 : Hid (NdIn W1 wr.heap.size 0 (N j)) := by rw [hW1]; exact NdIn.new wr (N j)
  have hnb : Hid (wr.heap.size < W1.heap.size) := by rw [hW1]; show _ < _; simp
  have hwl : IntKind.i64.wrap (m : Int) = (m : Int) := by rw [IntKind.wrap_i64]; omega
  have hal : Tryz.prog.arrayLen 45 = 3 := by kernel_rfl
  have hW1' := Lib.hid hW1
  have hlv := Lib.hid (hQ1.out.l.ints (by omega) (fun i hi => hLR.out i (by omega)))
  have hov := Lib.hid hQ1.out.o.bls
  obtain ⟨lA, lc, rfl, -⟩ := id hlv.out
  obtain ⟨oA, oc, rfl, -⟩ := id hov.out
  have hm' := Lib.hid hm
  rw [hm] at p1
  clear hW1 hcs hQ hpre hNR hm hmt
  go_wp2_with fail
  rw [hm'.out] at hW1'
  rw [← hW1'.out]
  clear hW1'
  generalize wr.heap.size = nb at *
  clear p0 p1 p2 p3 p4 p5 p6 p7 k0 k1 k2 k3 k4 k5 i1
  go_loopw [13, 14, 15] (fun v b i y => ∃ k : Nat, k ≤ m ∧ i = .int .i64 k ∧ b = .bool (overE (evF g W N j) (N j) k) ∧ Hid (OwnG y W1.heap.size 3 1 v k (intC (argV (evF g W N j) (N j)))) ∧ Hid (Below W1.heap.size W1 y)) (fun _ _ i _ => m - (intOf i).toNat)
  case atStart => exact ⟨0, Nat.zero_le _, rfl, rfl, OwnG.nil _ _ _ _ _, Below.refl _ _⟩
  case round =>
  obtain ⟨k, hk, rfl, rfl, hown, hby⟩ := hrel
  have hlen := (hN1.out.below hby.out hnb.out).2.1
  rw [hm'.out, Nat.zero_add] at hlen
  by_cases hltk : k < m
  case pos =>
    have i2 : decide ((k : Int) < (m : Int)) = true := decide_eq_true (by omega)
    obtain ⟨a, haj, ha, hfa⟩ := hargs.out k hltk
    obtain ⟨_, _, el, _, _, hlc⟩ := hlv.out
    injection el with el1 _ el3
    subst el1; subst el3
    obtain ⟨lb, lo, rfl, hlb, hlc⟩ := hlc (by omega)
    obtain ⟨_, _, eo, hoc⟩ := hov.out
    injection eo with eo1 _ eo3
    subst eo1; subst eo3
    obtain ⟨ob, oo, rfl, hob, hoc⟩ := hoc (by omega)
    have hC := Lib.hid fun (y : World) (hb : Below W1.heap.size W1 y) => (⟨haj ▸ (hN1.out.below hb hnb.out).argc (by omega : k < 3), (hb.cell (p := ⟨lb, lo + a, none⟩) hlb).trans (hlc a ha), (hb.cell (p := ⟨ob, oo + a, none⟩) hob).trans (hoc a ha)⟩ : y.cell? ⟨nb, 2 + k, none⟩ = some (.int .i64 (a : Int)) ∧ _ ∧ _)
    have hxa : argV (evF g W N j) (N j) k = (evF g W N n a).1 := by unfold argV; rw [haj, hfa]; rfl
    have hov2 : overE (evF g W N j) (N j) (k + 1) = (overE (evF g W N j) (N j) k || (evF g W N n a).2) := by rw [hfa]; show (overE _ _ k || (evF g W N j ((N j).arg k).toNat).2) = _; rw [haj]; rfl
    have hxa' := Lib.hid hxa
    have hov2' := Lib.hid hov2
    have hk0 : (0 : Int) ≤ (k : Int) := by omega
    have hk3 : (k : Int) < 3 := by omega
    have hk3n : k < 3 := by omega
    have ha0 : (0 : Int) ≤ (a : Int) := by omega
    have haj' : (a : Int) < (j : Int) := by omega
    have hk1m : k ≤ 1000000 := by omega
    clear hlc hoc hxa hov2 haj hfa
    obtain ⟨c0, c1, c2⟩ := hC.out _ hby.out
    dsimp only at c1 c2
    have hsz := hby.out.size
    have hbase : Hid (W1.heap.size ≤ (wr.alloc (.cells #[.int .i64 (evF g W N n a).1] 3)).heap.size) := by show _ ≤ _; simp; omega
    have hbA := Lib.hid (hby.out.alloc hsz (.cells #[.int .i64 (evF g W N n a).1] 3))
    have hoA := Lib.hid (hown.out.alloc (.cells #[.int .i64 (evF g W N n a).1] 3))
    have hcA : Hid ((wr.alloc (.cells #[.int .i64 (evF g W N n a).1] 3)).cell? ⟨wr.heap.size, 0, none⟩ = some (.int .i64 (evF g W N n a).1)) := by unfold Hid; simp
    have hlA : Hid (wr.heap.size < (wr.alloc (.cells #[.int .i64 (evF g W N n a).1] 3)).heap.size) := by unfold Hid; simp
    cases hq : overE (evF g W N j) (N j) k with
    | true =>
      rw [hq, Bool.true_or] at hov2'
      clear hq
      go_wp2_with (at_builtin; refine wpList_app1i rfl rfl (.tmp 50) (.tmp 58) rfl W1.heap.size _ k (argV (evF g W N j) (N j)) rfl hoA.out wr.heap.size 1 _ hxa'.out rfl hlA.out hcA.out hk1m hbase.out ?_; intro v' y2 hown2 hb2 _; have ho2 := Lib.hid hown2; have hy2 := Lib.hid (hbA.out.trans hb2); obtain ⟨e0, e1, e2⟩ := hC.out _ hy2.out; dsimp only at e1 e2; clear hown2 hb2)
      go_roundw
      case rel => exact ⟨k + 1, by omega, by go_num, by rw [hov2'.out], ho2.out, hy2.out⟩
      case measure => simp [intOf]; omega
    | false =>
      rw [hq, Bool.false_or] at hov2'
      clear hq
      go_wp2_with (at_builtin; refine wpList_app1i rfl rfl (.tmp 50) (.tmp 58) rfl W1.heap.size _ k (argV (evF g W N j) (N j)) rfl hoA.out wr.heap.size 1 _ hxa'.out rfl hlA.out hcA.out hk1m hbase.out ?_; intro v' y2 hown2 hb2 _; have ho2 := Lib.hid hown2; have hy2 := Lib.hid (hbA.out.trans hb2); obtain ⟨e0, e1, e2⟩ := hC.out _ hy2.out; dsimp only at e1 e2; clear hown2 hb2)
      go_roundw
      case rel => exact ⟨k + 1, by omega, by go_num, by rw [hov2'.out], ho2.out, hy2.out⟩
      case measure => simp [intOf]; omega
  have i2 : decide ((k : Int) < (m : Int)) = false := decide_eq_false (by omega)
  obtain rfl : k = m := by omega
  have hQy := Lib.hid (hQ1.out.step hby.out)
  have hVy := Lib.hid (hown.out.ints (by omega) (fun i hi => hVR.out i hi))
  have hNy := hN1.out.below hby.out hnb.out
  unfold NdIn at hNy
  obtain ⟨p0, p1, p2, p3, p4, p5, p6, p7⟩ := hNy
  simp only [Nat.zero_add] at p1 p2 p3 p4 p5 p6 p7
  obtain ⟨k0, k1, k2, k3, k4, k5⟩ := q10K_cells hQy.out.bx
  have hjm : j ≤ 1000000 := by omega
  have hcall := Lib.hid (hVa.out _ hQy.out.bx.bel _ hVy.out)
  unfold RValP at hcall
  unfold ndV at hcall
  rw [hm'.out] at hcall p1
  generalize overE (evF g W N j) (N j) k = q at *
  cases q with
  | true =>
    have hT : Hid (evF g W N n j = (0, true)) := by unfold Hid; rw [hround.out, if_pos rfl]
    clear hround hcall hVa hrf
    have hX := Lib.hid (show (evF g W N n j).1 = 0 by rw [hT.out])
    have hY := Lib.hid (show (evF g W N n j).2 = true by rw [hT.out])
    have hbl := Lib.hid (show w.heap.size + 3 ≤ (wr.alloc (.cells #[.int .i64 0] 3)).heap.size by have := hQy.out.big; simp; omega)
    have hcl := Lib.hid (show (wr.alloc (.cells #[.int .i64 0] 3)).cell? ⟨wr.heap.size, 0, none⟩ = some (.int .i64 0) by simp)
    have hll := Lib.hid (show wr.heap.size < (wr.alloc (.cells #[.int .i64 0] 3)).heap.size by simp)
    have hQA := Lib.hid (hQy.out.step ((Below.refl _ _).alloc (Nat.le_refl _) (.cells #[.int .i64 0] 3)))
    clear hT
    go_wp2_with (first | (at_builtin; refine wpList_app1i rfl rfl (.tmp 83) (.tmp 85) rfl (w.heap.size + 3) _ j (fun i => (evF g W N n i).1) rfl hQA.out.l wr.heap.size 1 _ hX.out rfl hll.out hcl.out hjm hbl.out ?_; intro l' y3 hl3 hb3 hg3; have hQ3 := Lib.hid (hQA.out.moreL hl3 hb3 hg3); clear hl3 hb3 hg3; have hbl3 := Lib.hid (show w.heap.size + 3 ≤ (y3.alloc (.cells #[.bool true] 4)).heap.size by have := hQ3.out.big; simp; omega); have hcl3 := Lib.hid (show (y3.alloc (.cells #[.bool true] 4)).cell? ⟨y3.heap.size, 0, none⟩ = some (.bool true) by simp); have hll3 := Lib.hid (show y3.heap.size < (y3.alloc (.cells #[.bool true] 4)).heap.size by simp); have hQ4 := Lib.hid (hQ3.out.step ((Below.refl _ _).alloc (Nat.le_refl _) (.cells #[.bool true] 4)))) | (at_builtin; refine wpList_app1b rfl rfl (.tmp 87) (.tmp 89) rfl (w.heap.size + 3) _ j (fun i => (evF g W N n i).2) rfl hQ4.out.o y3.heap.size 1 _ hY.out rfl hll3.out hcl3.out hjm hbl3.out ?_; intro o' y5 ho5 hb5 hg5; have hQ5 := Lib.hid (hQ4.out.moreO ho5 hb5 hg5); clear ho5 hb5 hg5))
    go_roundw
    case rel => exact ⟨j + 1, by omega, by go_num, hQ5.out⟩
    case measure => simp [intOf]; omega
  | false =>
  have hround2 : Hid (evF g W N n j = if (wayT g W (N j) k (argV (evF g W N j) (N j))).2 = true then ((wayT g W (N j) k (argV (evF g W N j) (N j))).1, false) else (0, true)) := by unfold Hid; rw [hround.out, if_neg (by simp)]
  have hrf2 := hrf.out.2
  have hrf1 := hrf.out.1
  generalize refT g W (N j) k (argV (evF g W N j) (N j)) = p at *
  generalize wayT g W (N j) k (argV (evF g W N j) (N j)) = pw at *
  obtain ⟨r1, r2⟩ := p
  obtain ⟨s1, s2⟩ := pw
  dsimp only at hcall hround2 hrf1 hrf2
  subst hrf1
  clear hround hVa hrf
  go_wp2_with fail
  refine hcall.out.mono ?_
  rintro z w5 ⟨rfl, hb5⟩
  have hQ2 := Lib.hid (hQy.out.step hb5)
  clear hb5 hcall hQy k0 k1 k2 k3 k4 k5 p0 p1 p2 p3 p4 p5 p6 p7
  cases r2 with
  | true =>
    have hs1 := hrf2 rfl
    subst hs1
    have hT : Hid (evF g W N n j = (r1, false)) := by unfold Hid; rw [hround2.out, if_pos rfl]
    clear hround2 hrf2
    have hX := Lib.hid (show (evF g W N n j).1 = r1 by rw [hT.out])
    have hY := Lib.hid (show (evF g W N n j).2 = false by rw [hT.out])
    have hbl := Lib.hid (show w.heap.size + 3 ≤ (w5.alloc (.cells #[.int .i64 r1] 3)).heap.size by have := hQ2.out.big; simp; omega)
    have hcl := Lib.hid (show (w5.alloc (.cells #[.int .i64 r1] 3)).cell? ⟨w5.heap.size, 0, none⟩ = some (.int .i64 r1) by simp)
    have hll := Lib.hid (show w5.heap.size < (w5.alloc (.cells #[.int .i64 r1] 3)).heap.size by simp)
    have hQA := Lib.hid (hQ2.out.step ((Below.refl _ _).alloc (Nat.le_refl _) (.cells #[.int .i64 r1] 3)))
    clear hT
    go_wp2_with (first | (at_builtin; refine wpList_app1i rfl rfl (.tmp 83) (.tmp 85) rfl (w.heap.size + 3) _ j (fun i => (evF g W N n i).1) rfl hQA.out.l w5.heap.size 1 _ hX.out rfl hll.out hcl.out hjm hbl.out ?_; intro l' y3 hl3 hb3 hg3; have hQ3 := Lib.hid (hQA.out.moreL hl3 hb3 hg3); clear hl3 hb3 hg3; have hbl3 := Lib.hid (show w.heap.size + 3 ≤ (y3.alloc (.cells #[.bool false] 4)).heap.size by have := hQ3.out.big; simp; omega); have hcl3 := Lib.hid (show (y3.alloc (.cells #[.bool false] 4)).cell? ⟨y3.heap.size, 0, none⟩ = some (.bool false) by simp); have hll3 := Lib.hid (show y3.heap.size < (y3.alloc (.cells #[.bool false] 4)).heap.size by simp); have hQ4 := Lib.hid (hQ3.out.step ((Below.refl _ _).alloc (Nat.le_refl _) (.cells #[.bool false] 4)))) | (at_builtin; refine wpList_app1b rfl rfl (.tmp 87) (.tmp 89) rfl (w.heap.size + 3) _ j (fun i => (evF g W N n i).2) rfl hQ4.out.o y3.heap.size 1 _ hY.out rfl hll3.out hcl3.out hjm hbl3.out ?_; intro o' y5 ho5 hb5 hg5; have hQ5 := Lib.hid (hQ4.out.moreO ho5 hb5 hg5); clear ho5 hb5 hg5))
    go_roundw
    case rel => exact ⟨j + 1, by omega, by go_num, hQ5.out⟩
    case measure => simp [intOf]; omega
  | false =>
    have hT : Hid (evF g W N n j = (0, true)) := by unfold Hid; rw [hround2.out, if_neg (by simp)]
    clear hround2 hrf2
    have hX := Lib.hid (show (evF g W N n j).1 = 0 by rw [hT.out])
    have hY := Lib.hid (show (evF g W N n j).2 = true by rw [hT.out])
    have hbl := Lib.hid (show w.heap.size + 3 ≤ (w5.alloc (.cells #[.int .i64 0] 3)).heap.size by have := hQ2.out.big; simp; omega)
    have hcl := Lib.hid (show (w5.alloc (.cells #[.int .i64 0] 3)).cell? ⟨w5.heap.size, 0, none⟩ = some (.int .i64 0) by simp)
    have hll := Lib.hid (show w5.heap.size < (w5.alloc (.cells #[.int .i64 0] 3)).heap.size by simp)
    have hQA := Lib.hid (hQ2.out.step ((Below.refl _ _).alloc (Nat.le_refl _) (.cells #[.int .i64 0] 3)))
    clear hT
    go_wp2_with (first | (at_builtin; refine wpList_app1i rfl rfl (.tmp 83) (.tmp 85) rfl (w.heap.size + 3) _ j (fun i => (evF g W N n i).1) rfl hQA.out.l w5.heap.size 1 _ hX.out rfl hll.out hcl.out hjm hbl.out ?_; intro l' y3 hl3 hb3 hg3; have hQ3 := Lib.hid (hQA.out.moreL hl3 hb3 hg3); clear hl3 hb3 hg3; have hbl3 := Lib.hid (show w.heap.size + 3 ≤ (y3.alloc (.cells #[.bool true] 4)).heap.size by have := hQ3.out.big; simp; omega); have hcl3 := Lib.hid (show (y3.alloc (.cells #[.bool true] 4)).cell? ⟨y3.heap.size, 0, none⟩ = some (.bool true) by simp); have hll3 := Lib.hid (show y3.heap.size < (y3.alloc (.cells #[.bool true] 4)).heap.size by simp); have hQ4 := Lib.hid (hQ3.out.step ((Below.refl _ _).alloc (Nat.le_refl _) (.cells #[.bool true] 4)))) | (at_builtin; refine wpList_app1b rfl rfl (.tmp 87) (.tmp 89) rfl (w.heap.size + 3) _ j (fun i => (evF g W N n i).2) rfl hQ4.out.o y3.heap.size 1 _ hY.out rfl hll3.out hcl3.out hjm hbl3.out ?_; intro o' y5 ho5 hb5 hg5; have hQ5 := Lib.hid (hQ4.out.moreO ho5 hb5 hg5); clear ho5 hb5 hg5))
    go_roundw
    case rel => exact ⟨j + 1, by omega, by go_num, hQ5.out⟩
    case measure => simp [intOf]; omega
end Go.Proofs.YtecmoahadckomaaGreat
