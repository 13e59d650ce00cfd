/- The edge of a literal; whether it has one. -/
import Derived.Test.YtioceechdombjaaZIdlL
import Derived.Test.YtioceechdombjaaZIntsToNumW
import Derived.Test.YtioceechdombjaaZAtmRHoldR
import Derived.StillTailTactics
import Derived.Test.YtioceechdombjaaZOwn
namespace Go.Proofs.Ytioceechdombjaa
open Go.RowKit Go.Maps
set_option maxRecDepth 100000

def edV (e : Ed) : Value := .agg #[.int .i64 e.src, .int .i64 e.dst, .int .i64 e.wt]
def negL (x : Int) : Int := if x % 2 = 0 then x + 1 else x - 1
theorem run_loadEd (w : World) (g : Nat) (x y z : Int) (h0 : w.cell? ⟨g, 0, none⟩ = some (.int .i64 x)) (h1 : w.cell? ⟨g, 1, none⟩ = some (.int .i64 y)) (h2 : w.cell? ⟨g, 2, none⟩ = some (.int .i64 z)) :
    (loadVar 82 ⟨g, 0, none⟩).run Try.prog w = .ok (.agg #[.int .i64 x, .int .i64 y, .int .i64 z]) w := by
  go_simp
theorem results_ed {fn : Func} {p : Tmp} (h : fn.results = #[.cell p 82]) (tmps : Array Value) (w : World) (g : Nat) (x y z : Int)
    (hp : tmps.getD p undef = .pointer (some ⟨g, 0, none⟩)) (h0 : w.cell? ⟨g, 0, none⟩ = some (.int .i64 x)) (h1 : w.cell? ⟨g, 1, none⟩ = some (.int .i64 y)) (h2 : w.cell? ⟨g, 2, none⟩ = some (.int .i64 z)) :
    (results fn tmps).run Try.prog w = .ok (.agg #[.int .i64 x, .int .i64 y, .int .i64 z]) w := by
  have hp' : tmps[p]?.getD undef = .pointer (some ⟨g, 0, none⟩) := by simpa using hp
  simp [results, h, hp', asAddr, run_loadEd w g x y z h0 h1 h2]

set_option maxHeartbeats 4000000 in
theorem edge_any (B b o n c : Nat) (N : Nat → Nd) (x : Int) (w : World) (hB : w.cell? ⟨B, 0, none⟩ = some (.slice (some ⟨b, o, none⟩) n c)) (hcs : ∀ i, i < n → NdIn w b (o + i * 8) (N i)) (hbl : b < w.heap.size) (hch : CheckP n N)
    (hx : badLit n N x = false) (hxR : R64 x) (hd : isD N x = true) (hBl : B < w.heap.size) :
    Calls Try.prog 61 #[.pointer (some ⟨B, 0, none⟩), .int .i64 x] w fun e w' => e = .returned (edV (edOf N x)) ∧ Below w.heap.size w w' := by
  obtain ⟨h0, h1, g0, g1, g2, g3, g4, g5⟩ := diff_at hch hx hd
  obtain ⟨z0, z1⟩ := hxR
  obtain ⟨e0, e1, e2, e3, e4, e5, e6, e7⟩ := hcs _ h1
  have hed : Hid (edOf N x = if x % 2 = 1 then ⟨(N (x / 2).toNat).a0, (N (x / 2).toNat).a1, -(N (x / 2).toNat).num - 1⟩ else ⟨(N (x / 2).toNat).a1, (N (x / 2).toNat).a0, (N (x / 2).toNat).num⟩) := rfl
  have hb := i64_and_one x
  have hq : (x / 2 : Int) < (n : Int) := by omega
  have hq0 : (0 : Int) ≤ x / 2 := by omega
  clear hcs hch hx hd
  generalize hE : N (x / 2).toNat = E at *
  clear hE
  by_cases hodd : x % 2 = 1
  · rw [hodd] at hb
    go_enter Try.func61, Try.ntmps61
    go_wp2
    obtain ⟨W1, hW1⟩ : ∃ W1, W1 = w.alloc (.cells #[.int .i64 0, .int .i64 0, .int .i64 0] 82) := ⟨_, rfl⟩
    have bb := (Below.refl w.heap.size w).alloc (Nat.le_refl _) (.cells #[.int .i64 0, .int .i64 0, .int .i64 0] 82)
    rw [← hW1] at bb
    have f2 := (bb.cell (p := ⟨b, o + (x / 2).toNat * 8 + 2, none⟩) hbl).trans e2
    have f3 := (bb.cell (p := ⟨b, o + (x / 2).toNat * 8 + 3, none⟩) hbl).trans e3
    have f7 := (bb.cell (p := ⟨b, o + (x / 2).toNat * 8 + 7, none⟩) hbl).trans e7
    rw [← hW1]
    have hW1' := Lib.hid hW1
    clear hW1 bb e0 e1 e2 e3 e4 e5 e6 e7 hB
    go_still_tail 17, (by kernel_rfl)
    change wpList _ _ _ _ _ W1.drew
    rw [hW1'.out]
    go_wp2
    exact bodyPost_ret (results_ed rfl _ _ w.heap.size E.a0 E.a1 (-E.num - 1) rfl (by simp) (by simp) (by simp)) rfl ⟨by rw [hed.out, if_pos hodd]; rfl, ((Below.refl _ _).alloc (Nat.le_refl _) _).drew⟩
  · have heven : x % 2 = 0 := by omega
    rw [heven] at hb
    go_enter Try.func61, Try.ntmps61
    go_wp2
    obtain ⟨W1, hW1⟩ : ∃ W1, W1 = w.alloc (.cells #[.int .i64 0, .int .i64 0, .int .i64 0] 82) := ⟨_, rfl⟩
    have bb := (Below.refl w.heap.size w).alloc (Nat.le_refl _) (.cells #[.int .i64 0, .int .i64 0, .int .i64 0] 82)
    rw [← hW1] at bb
    have f2 := (bb.cell (p := ⟨b, o + (x / 2).toNat * 8 + 2, none⟩) hbl).trans e2
    have f3 := (bb.cell (p := ⟨b, o + (x / 2).toNat * 8 + 3, none⟩) hbl).trans e3
    have f7 := (bb.cell (p := ⟨b, o + (x / 2).toNat * 8 + 7, none⟩) hbl).trans e7
    rw [← hW1]
    have hW1' := Lib.hid hW1
    clear hW1 bb e0 e1 e2 e3 e4 e5 e6 e7 hB
    go_still_tail 15, (by kernel_rfl)
    change wpList _ _ _ _ _ W1.drew
    rw [hW1'.out]
    go_wp2
    exact bodyPost_ret (results_ed rfl _ _ w.heap.size E.a1 E.a0 E.num rfl (by simp) (by simp) (by simp)) rfl ⟨by rw [hed.out, if_neg hodd]; rfl, ((Below.refl _ _).alloc (Nat.le_refl _) _).drew⟩

theorem three_set (w : World) (g : Nat) (x y z : Value) (h0 : w.cell? ⟨g, 0, none⟩ = some (.int .i64 0)) (h1 : w.cell? ⟨g, 1, none⟩ = some (.int .i64 0)) (h2 : w.cell? ⟨g, 2, none⟩ = some (.int .i64 0)) :
    (((w.setCell ⟨g, 0, none⟩ x).setCell ⟨g, 1, none⟩ y).setCell ⟨g, 2, none⟩ z).cell? ⟨g, 0, none⟩ = some x ∧ (((w.setCell ⟨g, 0, none⟩ x).setCell ⟨g, 1, none⟩ y).setCell ⟨g, 2, none⟩ z).cell? ⟨g, 1, none⟩ = some y ∧
    (((w.setCell ⟨g, 0, none⟩ x).setCell ⟨g, 1, none⟩ y).setCell ⟨g, 2, none⟩ z).cell? ⟨g, 2, none⟩ = some z := by
  have n01 : (⟨g, 0, none⟩ : Addr) ≠ ⟨g, 1, none⟩ := fun h => by injection h with _ h; cases h
  have n02 : (⟨g, 0, none⟩ : Addr) ≠ ⟨g, 2, none⟩ := fun h => by injection h with _ h; cases h
  have n12 : (⟨g, 1, none⟩ : Addr) ≠ ⟨g, 2, none⟩ := fun h => by injection h with _ h; cases h
  have a0 := World.cell?_setCell_same' w ⟨g, 0, none⟩ x (by rw [h0]; rfl)
  have a1 : (w.setCell ⟨g, 0, none⟩ x).cell? ⟨g, 1, none⟩ = some (.int .i64 0) := (World.cell?_setCell_other _ _ _ _ n01).trans h1
  have a2 : (w.setCell ⟨g, 0, none⟩ x).cell? ⟨g, 2, none⟩ = some (.int .i64 0) := (World.cell?_setCell_other _ _ _ _ n02).trans h2
  have b0 := (World.cell?_setCell_other (w.setCell ⟨g, 0, none⟩ x) _ _ y n01.symm).trans a0
  have b1 := World.cell?_setCell_same' (w.setCell ⟨g, 0, none⟩ x) ⟨g, 1, none⟩ y (by rw [a1]; rfl)
  have b2 := (World.cell?_setCell_other (w.setCell ⟨g, 0, none⟩ x) _ _ y n12).trans a2
  exact ⟨(World.cell?_setCell_other _ _ _ z n02.symm).trans b0, (World.cell?_setCell_other _ _ _ z n12.symm).trans b1, World.cell?_setCell_same' _ _ _ (by rw [b2]; rfl)⟩
theorem tedge_any (B b o n c : Nat) (N : Nat → Nd) (x : Int) (w : World) (hB : w.cell? ⟨B, 0, none⟩ = some (.slice (some ⟨b, o, none⟩) n c)) (hcs : ∀ i, i < n → NdIn w b (o + i * 8) (N i)) (hbl : b < w.heap.size) (hch : CheckP n N)
    (hx : badLit n N x = false) (hxR : R64 x) (hd : isD N x = true) (hBl : B < w.heap.size) :
    Calls Try.prog 37 #[.agg #[.pointer (some ⟨B, 0, none⟩)], .int .i64 x] w fun e w' => e = .returned (edV (edOf N x)) ∧ Below w.heap.size w w' := by
  have hb0 := ((Below.refl w.heap.size w).alloc (Nat.le_refl _) (.cells #[.pointer (some ⟨B, 0, none⟩)] 86)).alloc (by simp) (.cells #[.int .i64 0, .int .i64 0, .int .i64 0] 82)
  go_enter Try.func37, Try.ntmps37
  go_wp2_with fail
  refine (edge_any B b o n c N x _ ((hb0.cell (p := ⟨B, 0, none⟩) hBl).trans hB) (fun i hi => (hcs i hi).keep fun j => hb0.cell (p := ⟨b, j, none⟩) hbl) (by simp; omega) hch hx hxR hd (by simp; omega)).mono ?_
  rintro e w2 ⟨rfl, hb2⟩
  unfold edV
  have hz := hb2.size
  simp only [World.size_alloc] at hz
  have q0 := (hb2.cell (p := ⟨w.heap.size + 1, 0, none⟩) (by simp)).trans (by simp : _ = some (Value.int .i64 0))
  have q1 := (hb2.cell (p := ⟨w.heap.size + 1, 1, none⟩) (by simp)).trans (by simp : _ = some (Value.int .i64 0))
  have q2 := (hb2.cell (p := ⟨w.heap.size + 1, 2, none⟩) (by simp)).trans (by simp : _ = some (Value.int .i64 0))
  have r0 := (hb2.frozen (p := ⟨w.heap.size + 1, 0, none⟩) (by simp)).trans (by simp : _ = false)
  have r1 := (hb2.frozen (p := ⟨w.heap.size + 1, 1, none⟩) (by simp)).trans (by simp : _ = false)
  have r2 := (hb2.frozen (p := ⟨w.heap.size + 1, 2, none⟩) (by simp)).trans (by simp : _ = false)
  have hbb := hb0.trans (hb2.mono hb0.size)
  clear hb2
  obtain ⟨t0, t1, t2⟩ := three_set w2 (w.heap.size + 1) (.int .i64 (edOf N x).src) (.int .i64 (edOf N x).dst) (.int .i64 (edOf N x).wt) q0 q1 q2
  go_wp2
  exact bodyPost_ret (results_ed rfl _ _ (w.heap.size + 1) (edOf N x).src (edOf N x).dst (edOf N x).wt rfl t0 t1 t2) rfl ⟨rfl, ((hbb.setCell (p := ⟨w.heap.size + 1, 0, none⟩) (Nat.le_succ w.heap.size) _).setCell (p := ⟨w.heap.size + 1, 1, none⟩) (Nat.le_succ w.heap.size) _).setCell (p := ⟨w.heap.size + 1, 2, none⟩) (Nat.le_succ w.heap.size) _⟩
theorem i64_xor_one (x : Int) (h0 : 0 ≤ x) (h1 : x ≤ 9223372036854775807) : bits .xor .i64 x 1 = negL x := by
  show IntKind.i64.wrap ((BitVec.ofInt 64 x ^^^ BitVec.ofInt 64 1).toNat : Int) = _
  obtain ⟨n, rfl⟩ := Int.eq_ofNat_of_zero_le h0
  rw [BitVec.toNat_xor, show (BitVec.ofInt 64 1).toNat = 1 from rfl, BitVec.toNat_ofInt]
  have e : ((n : Int) % ((2 ^ 64 : Nat) : Int)).toNat = n := by omega
  rw [e]
  have hd : (n ^^^ 1) / 2 = n / 2 := by rw [Nat.xor_div_two]; simp
  have hm : (n ^^^ 1) % 2 = (n + 1) % 2 := by
    have h := Nat.testBit_xor n 1 0
    rw [Nat.testBit_zero, Nat.testBit_zero, Nat.testBit_zero] at h
    have h1 := Nat.mod_two_eq_zero_or_one n
    have h2 := Nat.mod_two_eq_zero_or_one (n ^^^ 1)
    rcases h1 with h1 | h1 <;> rcases h2 with h2 | h2 <;> simp [h1, h2] at h <;> omega
  generalize n ^^^ 1 = y at *
  rw [IntKind.wrap_i64]
  unfold negL
  split <;> omega
theorem Neg_any (x : Int) (w : World) (hx : 0 ≤ x) (hxR : x ≤ 9223372036854775807) : Calls Try.prog 25 #[.int .i64 x] w fun e w' => e = .returned (.int .i64 (negL x)) ∧ w' = w := by
  go_enter Try.func25, Try.ntmps25
  go_wp2
  go_ret
  exact ⟨ret_int (i64_xor_one x hx hxR), rfl⟩
end Go.Proofs.Ytioceechdombjaa

namespace Go.Proofs.Ytioceechdombjaa
open Go.RowKit Go.Maps
set_option maxRecDepth 100000

theorem ints_1 (w : World) (x : Int) (hx : R64 x) : IntsAt (w.alloc (.cells #[.int .i64 x] 3)) (.slice (some ⟨w.heap.size, 0, none⟩) 1 1) 1 (fun _ => x) := by
  refine ⟨_, _, rfl, by omega, fun i hi => hx, fun _ => ⟨w.heap.size, 0, rfl, by simp, fun i hi => ?_⟩⟩
  have : i = 0 := by omega
  subst this
  simp
theorem may_1 {n : Nat} {N : Nat → Nd} (hch : CheckP n N) {x : Int} (hx : badLit n N x = false) : mayT n N 1 (fun _ => x) = true := by
  rw [mayT_chk hch, Bool.not_eq_true', anyBadL_iff]
  exact fun _ _ => hx

set_option maxHeartbeats 4000000 in
theorem diff_any (B b o n c : Nat) (N : Nat → Nd) (x : Int) (w : World) (hB : w.cell? ⟨B, 0, none⟩ = some (.slice (some ⟨b, o, none⟩) n c)) (hv : NdsAt w (.slice (some ⟨b, o, none⟩) n c) n N) (hch : CheckP n N)
    (hx : badLit n N x = false) (hxR : R64 x) (hn : n ≤ 1000000) (hBl : B < w.heap.size) :
    Calls Try.prog 36 #[.agg #[.pointer (some ⟨B, 0, none⟩)], .int .i64 x] w fun e w' => e = .returned (.bool (isD N x)) ∧ Below w.heap.size w w' := by
  have hb0 := ((Below.refl w.heap.size w).alloc (Nat.le_refl _) (.cells #[.pointer (some ⟨B, 0, none⟩)] 86)).alloc (by simp) (.cells #[.int .i64 x] 3)
  have hx0 := ((Bx.nil w).one (.pointer (some ⟨B, 0, none⟩)) 86).skip (.cells #[.int .i64 x] 3)
  have hi := ints_1 (w.alloc (.cells #[.pointer (some ⟨B, 0, none⟩)] 86)) x hxR
  rw [World.size_alloc] at hi
  have hi' := Lib.hid hi
  have hm := Lib.hid (may_1 hch hx)
  have hk := Lib.hid (kind_diff hx)
  have hv' := Lib.hid hv
  have hxb := badLit_lt hx
  obtain ⟨z0, z1⟩ := hxR
  have hB' := Lib.hid hB
  clear hi hv hch hx
  go_enter Try.func36, Try.ntmps36
  go_wp2_with fail
  refine (AMay_any _ _ n 1 N (fun _ => x) _ (hv'.out.below hb0) hn hi'.out).mono ?_
  rintro e w2 ⟨rfl, hb2⟩
  rw [hm.out]
  have hx2 := hx0.step hb2
  obtain ⟨⟨q0, _⟩, -⟩ := hx2.cells
  have qB := (hx2.bel.cell (p := ⟨B, 0, none⟩) hBl).trans hB'.out
  go_wp2_with fail
  refine (Kind_any _ n N (x / 2) _ (hv'.out.below hx2.bel) hn ⟨by omega, by omega⟩).mono ?_
  rintro e w3 ⟨rfl, hb3⟩
  go_wp2
  go_ret
  exact ⟨ret_bool hk.out, hx2.bel.trans (hb3.mono hx2.bel.size)⟩

theorem info_ed : (Try.prog.info? 82).map (fun i => (i.zero, i.size, i.bytes)) = some (some (.agg #[.int .i64 0, .int .i64 0, .int .i64 0]), 3, 24) := by kernel_rfl
def edC (e : Ed) : List Value := [.int .i64 e.src, .int .i64 e.dst, .int .i64 e.wt]
/-- A row of edges of the call's own. -/
def OwnE (w : World) (base : Nat) (v : Value) (L : List Ed) : Prop := OwnG w base 82 3 v L.length (fun i => edC (eF L i))
theorem OwnE.eds {w : World} {base : Nat} {v : Value} {L : List Ed} (h : OwnE w base v L) (hl : L.length ≤ 1000000) (hR : ∀ e ∈ L, R64 e.src ∧ R64 e.dst ∧ R64 e.wt) : EdsAt w v L.length (eF L) := by
  obtain ⟨A, c, rfl, _, hc⟩ := h.at_ (fun _ => rfl)
  refine ⟨A, c, rfl, by omega, fun i hi => hR _ (eF_mem hi), fun h0 => ?_⟩
  obtain ⟨b, o, rfl, hb, hc⟩ := hc h0
  refine ⟨b, o, rfl, hb, fun i hi => ⟨hc i hi 0 _ rfl, ?_, ?_⟩⟩
  · have := hc i hi 1 (.int .i64 (eF L i).dst) rfl
    rwa [← Nat.add_assoc] at this
  · have := hc i hi 2 (.int .i64 (eF L i).wt) rfl
    rwa [← Nat.add_assoc] at this
theorem eF_snoc (L : List Ed) (e : Ed) (i : Nat) (hi : i < (L ++ [e]).length) : edC (eF (L ++ [e]) i) = if i < L.length then edC (eF L i) else edC e := by
  rw [List.length_append, List.length_singleton] at hi
  unfold eF
  split
  · rename_i h
    rw [List.getD_eq_getElem?_getD, List.getElem?_append_left h, ← List.getD_eq_getElem?_getD]
  · rename_i h
    rw [List.getD_eq_getElem?_getD, List.getElem?_append_right (by omega), show i - L.length = 0 by omega]
    rfl
theorem wpList_appE {P : Program} (hP : P = Try.prog) {w : World} {ops : Array Oper} {rest : List Oper} {o : Oper} {a : Act} {Q : Exit → Act → World → Prop} (hgd : o.guard = none) (s x : Operand)
    (ho : o.op = .call { callee := .builtin .append, args := #[s, x], argTypes := #[49, 49] })
    (base : Nat) (v : Value) (L : List Ed) (e : Ed) (hs : a.eval s = v) (hown : OwnE w base v L) (g c : Nat) (hx : a.eval x = .slice (some ⟨g, 0, none⟩) 1 c) (hg : g < w.heap.size)
    (hc0 : w.cell? ⟨g, 0, none⟩ = some (.int .i64 e.src)) (hc1 : w.cell? ⟨g, 1, none⟩ = some (.int .i64 e.dst)) (hc2 : w.cell? ⟨g, 2, none⟩ = some (.int .i64 e.wt))
    (hlen : L.length ≤ 1000000) (hb : base ≤ w.heap.size)
    (h : ∀ v' w', OwnE w' base v' (L ++ [e]) → Below base w w' → wpList P ops Q rest (a.put o.dst v') w') : wpList P ops Q (o :: rest) a w := by
  subst hP
  obtain ⟨i0, hi, hz0, hz1, hz2⟩ := info_parts info_ed
  refine wpList_append_src (g := fun i => edC (eF L i)) (g' := fun _ => edC e) (m := 1) (by simp [Region.wanted, hgd]) s x 49 ho i0 (.agg #[.int .i64 0, .int .i64 0, .int .i64 0]) 24 Try.underlying49 hi hz0 hz1 hz2 rfl (by decide) hs hown
    (.slice (some ⟨g, 0, none⟩) 1 c) hx ⟨_, _, rfl, fun _ => rfl, fun _ => ⟨g, 0, rfl, hg, fun i hi r u hu => ?_⟩⟩ (fun i _ u hu => ?_) ?_ ?_ hb ?_
  · have : i = 0 := by omega
    subst this
    have hr : r < 3 := (List.getElem?_eq_some_iff.1 hu).1
    have hr3 : r = 0 ∨ r = 1 ∨ r = 2 := by omega
    rcases hr3 with rfl | rfl | rfl
    · have : u = .int .i64 e.src := by simpa [edC] using hu.symm
      rw [this]; exact hc0
    · have : u = .int .i64 e.dst := by simpa [edC] using hu.symm
      rw [this]; exact hc1
    · have : u = .int .i64 e.wt := by simpa [edC] using hu.symm
      rw [this]; exact hc2
  · simp [edC] at hu
    rcases hu with rfl | rfl | rfl <;> rfl
  · unfold maxLen; omega
  · omega
  · intro v' w' h1 h2 _
    refine h v' w' ?_ h2
    unfold OwnE
    rw [List.length_append, List.length_singleton]
    exact h1.congr fun i hi => (eF_snoc L e i (by rw [List.length_append, List.length_singleton]; exact hi)).symm
end Go.Proofs.Ytioceechdombjaa
