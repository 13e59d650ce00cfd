/- idl.Edges. -/
import Derived.Test.YtioceechdombjaaIdlA
import Derived.Test.YtioceechdombjaaOwn
namespace Go.Proofs.Ytioceechdombjaa
open Go.RowKit Go.Maps
set_option maxRecDepth 100000

theorem ints_1 (w : World) (x : Int) (hx : R64 x) : IntsAt (w.alloc (.cells #[.int .i64 x] 3)) (.slice (some ⟨w.heap.size, 0, none⟩) 1 1) 1 (fun _ => x) := by
  refine ⟨_, _, rfl, by omega, fun i hi => hx, fun _ => ⟨w.heap.size, 0, rfl, by simp, fun i hi => ?_⟩⟩
  have : i = 0 := by omega
  subst this
  simp
theorem may_1 {n : Nat} {N : Nat → Nd} (hch : CheckP n N) {x : Int} (hx : badLit n N x = false) : mayT n N 1 (fun _ => x) = true := by
  rw [mayT_chk hch, Bool.not_eq_true', anyBadL_iff]
  exact fun _ _ => hx

set_option maxHeartbeats 4000000 in
theorem diff_any (B b o n c : Nat) (N : Nat → Nd) (x : Int) (w : World) (hB : w.cell? ⟨B, 0, none⟩ = some (.slice (some ⟨b, o, none⟩) n c)) (hv : NdsAt w (.slice (some ⟨b, o, none⟩) n c) n N) (hch : CheckP n N)
    (hx : badLit n N x = false) (hxR : R64 x) (hn : n ≤ 1000000) (hBl : B < w.heap.size) :
    Calls Try.prog 36 #[.agg #[.pointer (some ⟨B, 0, none⟩)], .int .i64 x] w fun e w' => e = .returned (.bool (isD N x)) ∧ Below w.heap.size w w' := by
  have hb0 := ((Below.refl w.heap.size w).alloc (Nat.le_refl _) (.cells #[.pointer (some ⟨B, 0, none⟩)] 86)).alloc (by simp) (.cells #[.int .i64 x] 3)
  have hx0 := ((Bx.nil w).one (.pointer (some ⟨B, 0, none⟩)) 86).skip (.cells #[.int .i64 x] 3)
  have hi := ints_1 (w.alloc (.cells #[.pointer (some ⟨B, 0, none⟩)] 86)) x hxR
  rw [World.size_alloc] at hi
  have hi' := Lib.hid hi
  have hm := Lib.hid (may_1 hch hx)
  have hk := Lib.hid (kind_diff hx)
  have hv' := Lib.hid hv
  have hxb := badLit_lt hx
  obtain ⟨z0, z1⟩ := hxR
  have hB' := Lib.hid hB
  clear hi hv hch hx
  go_enter Try.func36, Try.ntmps36
  go_wp2_with fail
  refine (AMay_any _ _ n 1 N (fun _ => x) _ (hv'.out.below hb0) hn hi'.out).mono ?_
  rintro e w2 ⟨rfl, hb2⟩
  rw [hm.out]
  have hx2 := hx0.step hb2
  obtain ⟨⟨q0, _⟩, -⟩ := hx2.cells
  have qB := (hx2.bel.cell (p := ⟨B, 0, none⟩) hBl).trans hB'.out
  go_wp2_with fail
  refine (Kind_any _ n N (x / 2) _ (hv'.out.below hx2.bel) hn ⟨by omega, by omega⟩).mono ?_
  rintro e w3 ⟨rfl, hb3⟩
  go_wp2
  go_ret
  exact ⟨ret_bool hk.out, hx2.bel.trans (hb3.mono hx2.bel.size)⟩

theorem info_ed : (Try.prog.info? 82).map (fun i => (i.zero, i.size, i.bytes)) = some (some (.agg #[.int .i64 0, .int .i64 0, .int .i64 0]), 3, 24) := by kernel_rfl
def edC (e : Ed) : List Value := [.int .i64 e.src, .int .i64 e.dst, .int .i64 e.wt]
/-- A row of edges of the call's own. -/
def OwnE (w : World) (base : Nat) (v : Value) (L : List Ed) : Prop := OwnG w base 82 3 v L.length (fun i => edC (eF L i))
theorem OwnE.eds {w : World} {base : Nat} {v : Value} {L : List Ed} (h : OwnE w base v L) (hl : L.length ≤ 1000000) (hR : ∀ e ∈ L, R64 e.src ∧ R64 e.dst ∧ R64 e.wt) : EdsAt w v L.length (eF L) := by
  obtain ⟨A, c, rfl, _, hc⟩ := h.at_ (fun _ => rfl)
  refine ⟨A, c, rfl, by omega, fun i hi => hR _ (eF_mem hi), fun h0 => ?_⟩
  obtain ⟨b, o, rfl, hb, hc⟩ := hc h0
  refine ⟨b, o, rfl, hb, fun i hi => ⟨hc i hi 0 _ rfl, ?_, ?_⟩⟩
  · have := hc i hi 1 (.int .i64 (eF L i).dst) rfl
    rwa [← Nat.add_assoc] at this
  · have := hc i hi 2 (.int .i64 (eF L i).wt) rfl
    rwa [← Nat.add_assoc] at this
theorem eF_snoc (L : List Ed) (e : Ed) (i : Nat) (hi : i < (L ++ [e]).length) : edC (eF (L ++ [e]) i) = if i < L.length then edC (eF L i) else edC e := by
  rw [List.length_append, List.length_singleton] at hi
  unfold eF
  split
  · rename_i h
    rw [List.getD_eq_getElem?_getD, List.getElem?_append_left h, ← List.getD_eq_getElem?_getD]
  · rename_i h
    rw [List.getD_eq_getElem?_getD, List.getElem?_append_right (by omega), show i - L.length = 0 by omega]
    rfl
theorem wpList_appE {P : Program} (hP : P = Try.prog) {w : World} {ops : Array Oper} {rest : List Oper} {o : Oper} {a : Act} {Q : Exit → Act → World → Prop} (hgd : o.guard = none) (s x : Operand)
    (ho : o.op = .call { callee := .builtin .append, args := #[s, x], argTypes := #[49, 49] })
    (base : Nat) (v : Value) (L : List Ed) (e : Ed) (hs : a.eval s = v) (hown : OwnE w base v L) (g c : Nat) (hx : a.eval x = .slice (some ⟨g, 0, none⟩) 1 c) (hg : g < w.heap.size)
    (hc0 : w.cell? ⟨g, 0, none⟩ = some (.int .i64 e.src)) (hc1 : w.cell? ⟨g, 1, none⟩ = some (.int .i64 e.dst)) (hc2 : w.cell? ⟨g, 2, none⟩ = some (.int .i64 e.wt))
    (hlen : L.length ≤ 1000000) (hb : base ≤ w.heap.size)
    (h : ∀ v' w', OwnE w' base v' (L ++ [e]) → Below base w w' → wpList P ops Q rest (a.put o.dst v') w') : wpList P ops Q (o :: rest) a w := by
  subst hP
  obtain ⟨i0, hi, hz0, hz1, hz2⟩ := info_parts info_ed
  refine wpList_append_src (g := fun i => edC (eF L i)) (g' := fun _ => edC e) (m := 1) (by simp [Region.wanted, hgd]) s x 49 ho i0 (.agg #[.int .i64 0, .int .i64 0, .int .i64 0]) 24 Try.underlying49 hi hz0 hz1 hz2 rfl (by decide) hs hown
    (.slice (some ⟨g, 0, none⟩) 1 c) hx ⟨_, _, rfl, fun _ => rfl, fun _ => ⟨g, 0, rfl, hg, fun i hi r u hu => ?_⟩⟩ (fun i _ u hu => ?_) ?_ ?_ hb ?_
  · have : i = 0 := by omega
    subst this
    have hr : r < 3 := (List.getElem?_eq_some_iff.1 hu).1
    have hr3 : r = 0 ∨ r = 1 ∨ r = 2 := by omega
    rcases hr3 with rfl | rfl | rfl
    · have : u = .int .i64 e.src := by simpa [edC] using hu.symm
      rw [this]; exact hc0
    · have : u = .int .i64 e.dst := by simpa [edC] using hu.symm
      rw [this]; exact hc1
    · have : u = .int .i64 e.wt := by simpa [edC] using hu.symm
      rw [this]; exact hc2
  · simp [edC] at hu
    rcases hu with rfl | rfl | rfl <;> rfl
  · unfold maxLen; omega
  · omega
  · intro v' w' h1 h2 _
    refine h v' w' ?_ h2
    unfold OwnE
    rw [List.length_append, List.length_singleton]
    exact h1.congr fun i hi => (eF_snoc L e i (by rw [List.length_append, List.length_singleton]; exact hi)).symm
end Go.Proofs.Ytioceechdombjaa
