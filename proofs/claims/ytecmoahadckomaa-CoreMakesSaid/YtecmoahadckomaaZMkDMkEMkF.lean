/- A maker's equal. -/
import Derived.Test.YtecmoahadckomaaZMkBMkC
import Derived.Test.YtecmoahadckomaaZMkWMkP
namespace Go.Proofs.Ytecmoahadckomaa
open Go.RowKit Go.Maps
set_option maxRecDepth 100000

theorem But.next {S : List Nat} {B : Nat} {a b c : World} (h : But S B a b) (k : But S b.heap.size b c) (hB : B ≤ b.heap.size) : But S B a c := h.trans (k.mono hB fun _ h => h)
theorem But.le {S : List Nat} {a b : World} (h : But S a.heap.size a b) : a.heap.size ≤ b.heap.size := h.size
/-- A place's sort lies in the table. -/
theorem MkrAt.sortAt {w : World} {g : Nat} {most : Int} {s : CSt} (h : MkrAt w g most s) (h0 : 0 < s.n) : ∃ tb to_ c, w.cell? ⟨g, 0, none⟩ = some (.slice (some ⟨tb, to_, none⟩) s.n c) ∧ tb < w.heap.size ∧ ∀ x : Int, 0 ≤ x → x < s.n → w.cell? ⟨tb, to_ + x.toNat * 8 + 5, none⟩ = some (.int .i64 (s.N x.toNat).sort) := by
  obtain ⟨A, c, q0, -, -, -, -, hN⟩ := h.cells
  obtain ⟨_, _, e1, -, -, hnd⟩ := hN
  injection e1 with e1 _ e3
  subst e1; subst e3
  obtain ⟨tb, to_, rfl, htb, hnd⟩ := hnd h0
  exact ⟨tb, to_, c, q0, htb, fun x x0 x1 => (hnd x.toNat (by omega)).2.2.2.2.2.1⟩
theorem grow_R {k : Nat} {s s' : CSt} {x : Int} (h : GrowsR k s s' x) (hn : s.n + k ≤ 1000000) : R64 x := by
  have := h.x0; have := h.x1; have := h.st.size
  unfold R64; omega
set_option maxHeartbeats 8000000 in
theorem MkEqual_any (g : Nat) (most : Int) (s : CSt) (a b : Int) (w : World) (hM : MkrAt w g most s) (hc : CheckP s.n s.N) (hn : s.n ≤ 800000) (ha : R64 a) (hb : R64 b) (hm : R64 most) (hin : s.e = 0 → (0 ≤ a ∧ a < s.n) ∧ (0 ≤ b ∧ b < s.n)) :
    Calls Try.prog 61 #[.pointer (some ⟨g, 0, none⟩), .int .i64 a, .int .i64 b] w (MkrPost g most (EqualMR most s a b) w) := by
  have hM' := Lib.hid hM
  obtain ⟨A, cc, -, q1, q2, f0, f2, -⟩ := hM.cells
  have h2 := hc.two
  obtain ⟨tb, to_, tc, q0, htb, hso⟩ := hM.sortAt (by omega)
  by_cases he : s.e = 0
  case neg =>
    have d : (s.e != 0) = true := by simpa using he
    have hr := Lib.hid (EqualMR.err (most := most) (a := a) (b := b) he)
    clear he hM hso hin
    go_enter Try.func61, Try.ntmps61
    go_wp2_with fail
    go_ret
    exact ⟨s, 0, rfl, hr.out, hM'.out, But.refl _ _ _⟩
  have d : (s.e != 0) = false := by rw [he]; rfl
  have he' := Lib.hid he
  have hin' := Lib.hid (hin he)
  obtain ⟨⟨a0, a1⟩, b0, b1⟩ := hin he
  have na := hso a a0 a1
  have nb := hso b b0 b1
  clear hin he hso hM
  by_cases hs : (s.N a.toNat).sort = (s.N b.toNat).sort
  case neg =>
    have d1 : ((s.N a.toNat).sort != (s.N b.toNat).sort) = true := by simpa using hs
    have hr := Lib.hid (EqualMR.sort (most := most) (a := a) (b := b) he'.out hs)
    have hM2 := Lib.hid (hM'.out.setE 33)
    clear hs
    go_enter Try.func61, Try.ntmps61
    go_wp2_with fail
    go_ret
    exact ⟨_, 0, rfl, hr.out, hM2.out, (But.refl _ _ _).setg _ _⟩
  have hs' := Lib.hid hs
  rw [← hs] at nb
  have d1 : ((s.N a.toNat).sort != (s.N a.toNat).sort) = false := by simp
  clear hs
  by_cases h0 : (s.N a.toNat).sort = 0
  · have d2 : ((s.N a.toNat).sort == 0) = true := by rw [h0]; rfl
    have hr := Lib.hid (fun s' x hp => EqualMR.bool (most := most) (a := a) (b := b) he'.out hs'.out h0 s' x hp)
    have hPu := Lib.hid (MkPut_any g most s 6 2 (pk2 a b) _ _ (hM'.out.below ((Below.refl _ _).alloc (Nat.le_refl _) _)) (ints_two w a b ha hb) (by omega) ⟨by decide, by decide⟩ (by omega) hm (fun he i _ => by have := hin'.out; unfold pk2; split <;> omega))
    have hb1' := Lib.hid ((Below.refl w.heap.size w).alloc (Nat.le_refl _) (.cells #[.int .i64 a, .int .i64 b] 3))
    clear h0
    go_enter Try.func61, Try.ntmps61
    go_wp2_with fail
    refine hPu.out.mono ?_
    rintro e w8 ⟨s', x, rfl, hR, hM8, hB8⟩
    have hR' := Lib.hid (hr.out s' x hR)
    have hM8' := Lib.hid hM8
    have hB8' := Lib.hid hB8
    clear hR hM8 hB8
    go_wp2_with fail
    go_ret
    exact ⟨s', x, rfl, hR'.out, hM8'.out, (But.of hb1'.out [g]).trans (hB8'.out.mono hb1'.out.size (fun _ h => h))⟩
  have d2 : ((s.N a.toNat).sort == 0) = false := by simpa using h0
  by_cases h1 : (s.N a.toNat).sort = 1
  case neg =>
    have d3 : ((s.N a.toNat).sort != 1) = true := by simpa using h1
    have hr := Lib.hid (fun s' x hp => EqualMR.own (most := most) (a := a) (b := b) he'.out hs'.out h0 h1 s' x hp)
    have hSa := Lib.hid (MkSame_any g most s a b w hM'.out (by omega) ha hb hm (fun _ => hin'.out))
    clear h0 h1
    go_enter Try.func61, Try.ntmps61
    go_wp2_with fail
    refine hSa.out.mono ?_
    rintro e w8 ⟨s', x, rfl, hR, hM8, hB8⟩
    have hR' := Lib.hid (hr.out s' x hR)
    have hM8' := Lib.hid hM8
    have hB8' := Lib.hid hB8
    clear hR hM8 hB8
    go_wp2_with fail
    go_ret
    exact ⟨s', x, rfl, hR'.out, hM8'.out, hB8'.out⟩
  have d3 : ((s.N a.toNat).sort != 1) = false := by rw [h1]; rfl
  have hr := Lib.hid (fun s1 x hx s2 y hy s' z hp => EqualMR.int (most := most) (a := a) (b := b) he'.out hs'.out h1 s1 x hx s2 y hy s' z hp)
  have hD1 := Lib.hid (MkDiff_any g most s a b 0 w hM'.out (by omega) ha hb R64_0 hm)
  clear h0 h1
  go_enter Try.func61, Try.ntmps61
  go_wp2_with fail
  refine hD1.out.mono ?_
  rintro e w1 ⟨s1, x, rfl, hR1, hM1, hB1⟩
  have g1 := Lib.hid (hR1.grow hc)
  have hR1' := Lib.hid hR1
  have hM1' := Lib.hid hM1
  have hB1' := Lib.hid hB1
  have hn1 : Hid (s1.n ≤ 800001) := by have := g1.out.st.size; unfold Hid; omega
  have hD2 := Lib.hid (MkDiff_any g most s1 b a 0 w1 hM1'.out (by have := hn1.out; omega) hb ha R64_0 hm)
  clear hR1 hM1 hB1 hD1 q0 q1 q2 f0 f2 na nb d d1 d2 d3
  go_wp2_with fail
  refine hD2.out.mono ?_
  rintro e w2 ⟨s2, y, rfl, hR2, hM2, hB2⟩
  have g2 := Lib.hid (hR2.grow g1.out.st.chk)
  have hR2' := Lib.hid hR2
  have hM2' := Lib.hid hM2
  have hB2' := Lib.hid hB2
  have hn2 : Hid (s2.n ≤ 800002) := by have := g2.out.st.size; have := hn1.out; unfold Hid; omega
  have hxR : R64 x := grow_R g1.out (by omega)
  have hyR : R64 y := grow_R g2.out (by have := hn1.out; omega)
  have hPu := Lib.hid (MkPut_any g most s2 2 2 (pk2 x y) _ _ (hM2'.out.below ((Below.refl _ _).alloc (Nat.le_refl _) _)) (ints_two w2 x y hxR hyR) (by omega) ⟨by decide, by decide⟩ (by have := hn2.out; omega) hm (fun he i _ => by
    have := g1.out.x0; have := g1.out.x1; have := g2.out.x0; have := g2.out.x1; have := g2.out.st.more
    unfold pk2; split <;> omega))
  have hb3' := Lib.hid ((Below.refl w2.heap.size w2).alloc (Nat.le_refl _) (.cells #[.int .i64 x, .int .i64 y] 3))
  clear hR2 hM2 hB2 hD2 hxR hyR
  go_wp2_with fail
  refine hPu.out.mono ?_
  rintro e w8 ⟨s', z, rfl, hR, hM8, hB8⟩
  have hR' := Lib.hid (hr.out s1 x hR1'.out s2 y hR2'.out s' z hR)
  have hM8' := Lib.hid hM8
  have hB8' := Lib.hid hB8
  clear hR hM8 hB8
  go_wp2_with fail
  go_ret
  exact ⟨s', z, rfl, hR'.out, hM8'.out, (hB1'.out.next hB2'.out hB1'.out.size).next ((But.of hb3'.out [g]).next hB8'.out hb3'.out.size) (Nat.le_trans hB1'.out.size hB2'.out.size)⟩
end Go.Proofs.Ytecmoahadckomaa

namespace Go.Proofs.Ytecmoahadckomaa
open Go.RowKit Go.Maps
set_option maxRecDepth 100000

/-- What the loop over the two choices has left behind. -/
def IteI (most so : Int) (s1 : CSt) (i b c : Int) : Nat → CSt → Prop
  | 0, s' => s' = s1
  | 1, s' => BehindR most so s1 i b s'
  | _, s' => ∃ s2, BehindR most so s1 i b s2 ∧ BehindR most so s2 i c s'
def bcAt (b c : Int) (j : Nat) : Int := if j = 0 then b else c
theorem IteI.step {most so : Int} {s1 s' s'' : CSt} {i b c : Int} {j : Nat} (hj : j < 2) (h : IteI most so s1 i b c j s') (h' : BehindR most so s' i (bcAt b c j) s'') : IteI most so s1 i b c (j + 1) s'' := by
  have : j = 0 ∨ j = 1 := by omega
  rcases this with rfl | rfl
  · have h : s' = s1 := h
    subst h; exact h'
  · exact ⟨s', h, h'⟩
theorem IteI.grow {most so : Int} {s1 s' : CSt} {i b c : Int} (hc : CheckP s1.n s1.N) {j : Nat} (hj : j ≤ 2) (h : IteI most so s1 i b c j s') : StG (2 * j) s1 s' := by
  have : j = 0 ∨ j = 1 ∨ j = 2 := by omega
  rcases this with rfl | rfl | rfl
  · have h : s' = s1 := h
    subst h; exact StG.refl hc
  · exact BehindR.grow hc h
  · obtain ⟨s2, h1, h2⟩ := h
    have g1 := h1.grow hc
    exact g1.trans (h2.grow g1.chk)
theorem sorts_three (s : CSt) (a b c : Int) : sortsA s (pk3' a b c) = pk3' (s.N a.toNat).sort (s.N b.toNat).sort (s.N c.toNat).sort := by
  funext i
  unfold sortsA pk3'
  split
  · rfl
  · split <;> rfl
theorem run_bc (b c : Int) (j : Nat) (hj : j < 2) (X : World) : (Instr.index 101 (.agg #[.int .i64 b, .int .i64 c]) (.int .i64 j)).run Try.prog X = .ok (.int .i64 (bcAt b c j)) X := by
  have h : j = 0 ∨ j = 1 := by omega
  rcases h with rfl | rfl
  · show (Instr.index 101 (.agg #[.int .i64 b, .int .i64 c]) (.int .i64 0)).run Try.prog X = .ok (.int .i64 b) X
    kernel_rfl
  · show (Instr.index 101 (.agg #[.int .i64 b, .int .i64 c]) (.int .i64 1)).run Try.prog X = .ok (.int .i64 c) X
    kernel_rfl
set_option maxHeartbeats 8000000 in
theorem MkIte_any (g : Nat) (most : Int) (s : CSt) (a b c : Int) (w : World) (hM : MkrAt w g most s) (hc : CheckP s.n s.N) (hn : s.n ≤ 800000) (ha : R64 a) (hb : R64 b) (hcR : R64 c) (hm : R64 most) (hin : s.e = 0 → (0 ≤ a ∧ a < s.n) ∧ (0 ≤ b ∧ b < s.n) ∧ (0 ≤ c ∧ c < s.n)) :
    Calls Try.prog 62 #[.pointer (some ⟨g, 0, none⟩), .int .i64 a, .int .i64 b, .int .i64 c] w (MkrPost g most (IteMR most s a b c) w) := by
  have hM' := Lib.hid hM
  obtain ⟨A, cc, -, q1, q2, f0, f2, hN⟩ := hM.cells
  have h2 := hc.two
  have hNR := Lib.hid hN.ranges
  obtain ⟨tb, to_, tc, q0, htb, hso⟩ := hM.sortAt (by omega)
  have hl := hM.lt
  by_cases he : s.e = 0
  case neg =>
    have d : (s.e != 0) = true := by simpa using he
    have hr := Lib.hid (IteMR.err (most := most) (a := a) (b := b) (c := c) he)
    clear he hM hso hin hN
    go_enter Try.func62, Try.ntmps62
    go_wp2_with fail
    go_ret
    exact ⟨s, 0, rfl, hr.out, hM'.out, But.refl _ _ _⟩
  have d : (s.e != 0) = false := by rw [he]; rfl
  have he' := Lib.hid he
  have hin' := Lib.hid (hin he)
  obtain ⟨⟨a0, a1⟩, ⟨b0, b1⟩, c0, c1⟩ := hin he
  have na := hso a a0 a1
  have nb := hso b b0 b1
  have nc := hso c c0 c1
  have hsaR := (hNR.out a.toNat (by omega)).sort
  have hsbR := (hNR.out b.toNat (by omega)).sort
  have hscR := (hNR.out c.toNat (by omega)).sort
  obtain ⟨p, hp⟩ : ∃ p, p = opT 7 3 (sortsA s (pk3' a b c)) := ⟨_, rfl⟩
  have hp' := Lib.hid hp
  obtain ⟨sa, hsa⟩ : ∃ x, x = (s.N a.toNat).sort := ⟨_, rfl⟩
  obtain ⟨sb, hsb⟩ : ∃ x, x = (s.N b.toNat).sort := ⟨_, rfl⟩
  obtain ⟨sc, hsc⟩ : ∃ x, x = (s.N c.toNat).sort := ⟨_, rfl⟩
  rw [sorts_three, ← hsa, ← hsb, ← hsc] at hp
  rw [← hsa] at na hsaR
  rw [← hsb] at nb hsbR
  rw [← hsc] at nc hscR
  have hsb' := Lib.hid hsb
  have hbd : Below w.heap.size w w.drew := (Below.refl _ _).drew
  have hbA : Below w.heap.size w (w.alloc (.cells #[.int .i64 sa, .int .i64 sb, .int .i64 sc] 3)).drew := ((Below.refl _ _).alloc (Nat.le_refl _) _).drew
  have hTO := Lib.hid (TOp_any 7 _ 3 (pk3' sa sb sc) _ ⟨by decide, by decide⟩ ((ints_three w sa sb sc hsaR hsbR hscR).below (Below.refl _ _).drew) (fun A n c e => by injection e with _ e2 e3; omega))
  rw [← hp] at hTO
  unfold opV at hTO
  have hKp : ∀ {x : World}, Below w.heap.size w x → (x.cell? ⟨tb, to_ + a.toNat * 8 + 5, none⟩ = some (.int .i64 sa) ∧ x.cell? ⟨tb, to_ + b.toNat * 8 + 5, none⟩ = some (.int .i64 sb) ∧ x.cell? ⟨tb, to_ + c.toNat * 8 + 5, none⟩ = some (.int .i64 sc)) := fun {x} hb =>
    ⟨(hb.cell (p := ⟨tb, to_ + a.toNat * 8 + 5, none⟩) htb).trans na, (hb.cell (p := ⟨tb, to_ + b.toNat * 8 + 5, none⟩) htb).trans nb, (hb.cell (p := ⟨tb, to_ + c.toNat * 8 + 5, none⟩) htb).trans nc⟩
  clear hin he hso hM hN hsa hsb hsc hp hsaR hsbR hscR
  go_enter Try.func62, Try.ntmps62
  go_upto_region 4 with fail
  clear q0 q1 q2 f0 f2
  go_region_held3 (fun x => x.cell? ⟨tb, to_ + a.toNat * 8 + 5, none⟩ = some (.int .i64 sa) ∧ x.cell? ⟨tb, to_ + b.toNat * 8 + 5, none⟩ = some (.int .i64 sb) ∧ x.cell? ⟨tb, to_ + c.toNat * 8 + 5, none⟩ = some (.int .i64 sc))
    (first | exact hKp hbd | exact hKp hbA | exact hKp hb5 | fail)
    (first | (go_at_call 34; (with_reducible refine hTO.out.mono ?_); rintro e w5 ⟨rfl, hb5⟩; replace hb5 := hbA.trans (hb5.mono hbA.size)) | fail)
  have hM5 := Lib.hid (hM'.out.below hb5)
  obtain ⟨_, _, -, z1, z2, y0, y2, -⟩ := hM5.out.cells
  obtain ⟨-, nb5, -⟩ := hKp hb5
  have hB5 := Lib.hid (But.of hb5 [g])
  clear hbd hbA hKp hTO na nb nc
  by_cases h0 : p.2 = 0
  case neg =>
    have d2 : (p.2 != 0) = true := by simpa using h0
    have hr := Lib.hid (IteMR.sort (most := most) (a := a) (b := b) (c := c) he'.out (by rw [← hp'.out]; exact h0))
    have hM6 := Lib.hid (hM5.out.setE 33)
    clear h0
    go_wp2_with fail
    go_ret
    exact ⟨_, 0, rfl, hr.out, hM6.out, hB5.out.setg _ _⟩
  have d2 : (p.2 != 0) = false := by rw [h0]; rfl
  have h0' : Hid ((opT 7 3 (sortsA s (pk3' a b c))).2 = 0) := by unfold Hid; rw [← hp'.out]; exact h0
  clear h0
  by_cases hbc : b = c
  · have d3 : (b == c) = true := by rw [hbc]; simp
    have hr := Lib.hid (IteMR.one (most := most) (a := a) he'.out h0'.out hbc)
    clear hbc
    go_wp2_with fail
    go_ret
    exact ⟨s, b, rfl, hr.out, hM5.out, hB5.out⟩
  have d3 : (b == c) = false := by simpa using hbc
  have hr := Lib.hid (fun s1 i hi s2 h2 s3 h3 => IteMR.put (most := most) (a := a) he'.out h0'.out hbc s1 i hi s2 h2 s3 h3)
  rw [← hsb'.out] at hr
  have hPu := Lib.hid (MkPut_any g most s 7 3 (pk3' a b c) _ _ (hM5.out.below ((Below.refl _ _).alloc (Nat.le_refl _) _)) (ints_three w5 a b c ha hb hcR) (by omega) ⟨by decide, by decide⟩ (by omega) hm (fun he i _ => by
    have := hin'.out
    unfold pk3'
    split
    · exact this.1
    · split
      · exact this.2.1
      · exact this.2.2))
  have hb6 := Lib.hid ((Below.refl w5.heap.size w5).alloc (Nat.le_refl _) (.cells #[.int .i64 a, .int .i64 b, .int .i64 c] 3))
  have hsz5 := Lib.hid hb5.size
  clear hbc hb5
  go_wp2_with fail
  refine hPu.out.mono ?_
  rintro e w7 ⟨s1, i, rfl, hR1, hM7, hB7⟩
  have g1 := Lib.hid (hR1.grow hc)
  have hR1' := Lib.hid hR1
  have hM7' := Lib.hid hM7
  have hB7' := Lib.hid (hB5.out.next ((But.of hb6.out [g]).next hB7 hb6.out.size) hsz5.out)
  have hiR : R64 i := grow_R g1.out (by omega)
  have hn1 : Hid (s1.n ≤ 800001) := by have := g1.out.st.size; unfold Hid; omega
  have hin1 : Hid ((0 ≤ i ∧ i < s1.n) ∧ (0 ≤ b ∧ b < s1.n) ∧ (0 ≤ c ∧ c < s1.n)) := by
    have := hin'.out; have := g1.out.x0; have := g1.out.x1; have := g1.out.st.more
    unfold Hid; omega
  clear hR1 hM7 hB7 hPu hM5 z1 z2 y0 y2 nb5 d d2 d3
  go_wp2_with fail
  go_loopw [69] (fun i' wr => ∃ j : Nat, j ≤ 2 ∧ i' = .int .i64 j ∧ ∃ s', Hid (IteI most sb s1 i b c j s') ∧ Hid (MkrAt wr g most s') ∧ Hid (But [g] w.heap.size w wr)) (fun i' _ => 2 - (intOf i').toNat)
  case atStart => exact ⟨0, Nat.zero_le _, rfl, s1, rfl, hM7'.out, hB7'.out⟩
  case round =>
  clear hM7' hB7'
  obtain ⟨j, hj, rfl, s', hI, hMr, hBr⟩ := hrel
  have gI := Lib.hid (hI.out.grow g1.out.st.chk hj)
  by_cases hlt : j < 2
  · have i1 : decide ((j : Int) < 2) = true := decide_eq_true (by omega)
    have hns : Hid (s'.n ≤ 800010) := by have := gI.out.size; have := hn1.out; unfold Hid; omega
    have hbcR : R64 (bcAt b c j) := by unfold bcAt; split; exact hb; exact hcR
    have hbcI : Hid (0 ≤ bcAt b c j ∧ bcAt b c j < s'.n) := by
      have := hin1.out; have := gI.out.more
      unfold Hid bcAt; split <;> omega
    have hnext := Lib.hid (fun s'' h' => IteI.step hlt hI.out (s'' := s'') h')
    have hmore := Lib.hid gI.out.more
    have hchk := Lib.hid gI.out.chk
    have hwz := Lib.hid hBr.out.size
    have hix := run_bc b c j hlt
    generalize bcAt b c j = x at *
    by_cases s0 : sb = 0
    · have e0 : (sb == 0) = true := by rw [s0]; rfl
      have hB := Lib.hid (hnext.out _ (.bool s0))
      clear s0
      go_wp2_with fail
      go_roundw
      case rel => exact ⟨j + 1, by omega, by go_num, s', hB.out, hMr.out, hBr.out⟩
      case measure => simp [intOf]; omega
    have e0 : (sb == 0) = false := by simpa using s0
    by_cases s1' : sb = 1
    · have e1 : (sb == 1) = true := by rw [s1']; rfl
      have hB := Lib.hid (fun s1 y hy s2 z hz => hnext.out _ (.int s1' s1 y hy s2 z hz))
      have hD1 := Lib.hid (MkDiff_any g most s' i x 0 wr hMr.out (by have := hns.out; omega) hiR hbcR R64_0 hm)
      clear s0 s1'
      go_wp2_with fail
      refine hD1.out.mono ?_
      rintro e w8 ⟨s8, y, rfl, hR8, hM8, hB8⟩
      have g8 := Lib.hid (hR8.grow hchk.out)
      have hR8' := Lib.hid hR8
      have hM8' := Lib.hid hM8
      have hB8' := Lib.hid hB8
      have hD2 := Lib.hid (MkDiff_any g most s8 x i 0 w8 hM8'.out (by have := hns.out; have := g8.out.st.size; omega) hbcR hiR R64_0 hm)
      clear hR8 hM8 hB8 hD1
      go_wp2_with fail
      refine hD2.out.mono ?_
      rintro e w9 ⟨s9, z, rfl, hR9, hM9, hB9⟩
      have hI9 := Lib.hid (hB.out s8 y hR8'.out s9 z hR9)
      have hM9' := Lib.hid hM9
      have hB9' := Lib.hid (hBr.out.next (hB8'.out.next hB9 hB8'.out.size) hBr.out.size)
      clear hR9 hM9 hB9 hD2
      go_wp2_with fail
      go_roundw
      case rel => exact ⟨j + 1, by omega, by go_num, s9, hI9.out, hM9'.out, hB9'.out⟩
      case measure => simp [intOf]; omega
    have e1 : (sb == 1) = false := by simpa using s1'
    have hB := Lib.hid (fun s1 y hy => hnext.out _ (.own s0 s1' s1 y hy))
    have hSa := Lib.hid (MkSame_any g most s' i x wr hMr.out (by have := hns.out; omega) hiR hbcR hm (fun _ => by
      have := hbcI.out; have := hin1.out; have := hmore.out; have := gI.out.more; omega))
    clear s0 s1'
    go_wp2_with fail
    refine hSa.out.mono ?_
    rintro e w8 ⟨s8, y, rfl, hR8, hM8, hB8⟩
    have hI8 := Lib.hid (hB.out s8 y hR8)
    have hM8' := Lib.hid hM8
    have hB8' := Lib.hid (hBr.out.next hB8 hBr.out.size)
    clear hR8 hM8 hB8 hSa
    go_wp2_with fail
    go_roundw
    case rel => exact ⟨j + 1, by omega, by go_num, s8, hI8.out, hM8'.out, hB8'.out⟩
    case measure => simp [intOf]; omega
  · have i1 : decide ((j : Int) < 2) = false := decide_eq_false (by omega)
    obtain rfl : j = 2 := by omega
    have hfin : Hid (IteMR most s a b c s' i) := by
      obtain ⟨s2, h1, h2⟩ := hI.out
      exact hr.out s1 i hR1'.out s2 h1 s' h2
    go_wp2_with fail
    go_ret
    exact ⟨s', i, rfl, hfin.out, hMr.out, hBr.out⟩
end Go.Proofs.Ytecmoahadckomaa

namespace Go.Proofs.Ytecmoahadckomaa
open Go.RowKit Go.Maps
set_option maxRecDepth 100000

/-- What a way is handed. -/
structure WayH (w : World) (g : Nat) (most : Int) (s : CSt) (nd : Nd) (vv : Value) (V : Nat → Int) : Prop where
  mkr : MkrAt w g most s
  ok : s.e = 0
  chk : CheckP s.n s.N
  few : s.n ≤ 800000
  most : R64 most
  nR : NdR nd
  v : IntsAt w vv nd.len.toNat V
  ins : ∀ i, i < nd.len.toNat → 0 ≤ V i ∧ V i < s.n
  len : 0 ≤ nd.len ∧ nd.len ≤ 3
  aty : nd.op ≠ 13 → nd.len = ar nd.op
  sep : ∀ b o n c, vv = .slice (some ⟨b, o, none⟩) n c → b ≠ g
theorem WayH.R {w : World} {g : Nat} {most : Int} {s : CSt} {nd : Nd} {vv : Value} {V : Nat → Int} (h : WayH w g most s nd vv V) {i : Nat} (hi : i < nd.len.toNat) : R64 (V i) := by
  have := h.ins i hi; have := h.few; unfold R64; omega
theorem WayH.alen {w : World} {g : Nat} {most : Int} {s : CSt} {nd : Nd} {vv : Value} {V : Nat → Int} (h : WayH w g most s nd vv V) {op : Int} {k : Nat} (ho : nd.op = op) (h13 : op ≠ 13) (hk : ar op = k) : nd.len.toNat = k := by
  have := h.aty (by rw [ho]; exact h13)
  rw [this, ho, hk]; simp
theorem ints_open {w : World} {v : Value} {k : Nat} {f : Nat → Int} (h : IntsAt w v k f) (hk : 0 < k) : ∃ b o c, v = .slice (some ⟨b, o, none⟩) k c ∧ b < w.heap.size ∧ ∀ i, i < k → w.cell? ⟨b, o + i, none⟩ = some (.int .i64 (f i)) := by
  obtain ⟨A, c, rfl, _, _, hc⟩ := h
  obtain ⟨b, o, rfl, hb, hc⟩ := hc hk
  exact ⟨b, o, c, rfl, hb, hc⟩
section
variable {w : World} {g : Nat} {most : Int} {s : CSt} {nd : Nd} {vv : Value} {V : Nat → Int}

set_option maxHeartbeats 4000000 in
theorem Way_truth (h : WayH w g most s nd vv V) (ho : nd.op = 0) : Calls Try.prog 35 #[.pointer (some ⟨g, 0, none⟩), ndV nd, vv] w (MkrPost g most (WayR most s nd V) w) := by
  have hx0 := Lib.hid (ndRow w nd)
  have hM1 := Lib.hid (h.mkr.below hx0.out.bel)
  have hr := Lib.hid (WayR.tru (most := most) (s := s) (V := V) ho)
  clear h ho
  unfold ndV
  go_enter Try.func35, Try.ntmps35
  go_wp2_with fail
  go_ret
  exact ⟨s, 0, rfl, hr.out, hM1.out, But.of hx0.out.bel _⟩
set_option maxHeartbeats 4000000 in
theorem Way_not (h : WayH w g most s nd vv V) (ho : nd.op = 1) : Calls Try.prog 36 #[.pointer (some ⟨g, 0, none⟩), ndV nd, vv] w (MkrPost g most (WayR most s nd V) w) := by
  have hk : nd.len.toNat = 1 := h.alen ho (by decide) rfl
  have hv := h.v
  have hins := h.ins
  have hR0 := h.R (i := 0) (by omega)
  rw [hk] at hv hins
  have hx0 := Lib.hid (ndRow w nd)
  have hM1 := Lib.hid (h.mkr.below hx0.out.bel)
  obtain ⟨b, o, c, rfl, hb, hc⟩ := ints_open (hv.below hx0.out.bel) (by omega)
  have v0 := hc 0 (by omega)
  rw [Nat.add_zero] at v0
  have hr := Lib.hid (fun s' x hp => WayR.neg (most := most) (s := s) (V := V) ho s' x hp)
  generalize hw1 : w.alloc (.cells #[.int .i8 nd.op, .int .i8 nd.len, .int .i64 nd.a0, .int .i64 nd.a1, .int .i64 nd.a2, .int .i64 nd.sort, .int .i64 nd.fn, .int .i64 nd.num] 39) = w1 at *
  have hNo := Lib.hid (MkNot_any g most s (V 0) w1 hM1.out (by have := h.few; omega) hR0 h.most (fun _ => hins 0 (by omega)))
  clear h ho hv hc hins
  unfold ndV
  go_enter Try.func36, Try.ntmps36
  go_wp2_with fail
  refine hNo.out.mono ?_
  rintro e w8 ⟨s', x, rfl, hR, hM8, hB8⟩
  have hR' := Lib.hid (hr.out s' x hR)
  have hM8' := Lib.hid hM8
  have hB8' := Lib.hid ((But.of hx0.out.bel [g]).next hB8 hx0.out.bel.size)
  clear hR hM8 hB8 hw1
  go_wp2_with fail
  go_ret
  exact ⟨s', x, rfl, hR'.out, hM8'.out, hB8'.out⟩
set_option maxHeartbeats 4000000 in
theorem Way_kind (h : WayH w g most s nd vv V) (ho : nd.op = 2 ∨ nd.op = 3) : Calls Try.prog 37 #[.pointer (some ⟨g, 0, none⟩), ndV nd, vv] w (MkrPost g most (WayR most s nd V) w) := by
  have hk : nd.len.toNat = 2 := by rcases ho with e | e; exact h.alen e (by decide) rfl; exact h.alen e (by decide) rfl
  have hx0 := Lib.hid (ndRow w nd)
  have hM1 := Lib.hid (h.mkr.below hx0.out.bel)
  have hr := Lib.hid (fun s' x hp => WayR.kind (most := most) (s := s) (V := V) ho s' x hp)
  obtain ⟨⟨c0, -⟩, -⟩ := hx0.out.cells
  generalize hw1 : w.alloc (.cells #[.int .i8 nd.op, .int .i8 nd.len, .int .i64 nd.a0, .int .i64 nd.a1, .int .i64 nd.a2, .int .i64 nd.sort, .int .i64 nd.fn, .int .i64 nd.num] 39) = w1 at *
  have hPu := Lib.hid (MkPut_any g most s nd.op nd.len.toNat V vv w1 hM1.out (h.v.below hx0.out.bel) (by omega) h.nR.op (by have := h.few; omega) h.most (fun _ => h.ins))
  clear h ho
  unfold ndV
  go_enter Try.func37, Try.ntmps37
  go_wp2_with fail
  refine hPu.out.mono ?_
  rintro e w8 ⟨s', x, rfl, hR, hM8, hB8⟩
  have hR' := Lib.hid (hr.out s' x hR)
  have hM8' := Lib.hid hM8
  have hB8' := Lib.hid ((But.of hx0.out.bel [g]).next hB8 hx0.out.bel.size)
  clear hR hM8 hB8 hw1
  go_wp2_with fail
  go_ret
  exact ⟨s', x, rfl, hR'.out, hM8'.out, hB8'.out⟩
set_option maxHeartbeats 4000000 in
theorem Way_xor (h : WayH w g most s nd vv V) (ho : nd.op = 4) : Calls Try.prog 38 #[.pointer (some ⟨g, 0, none⟩), ndV nd, vv] w (MkrPost g most (WayR most s nd V) w) := by
  have hk : nd.len.toNat = 2 := h.alen ho (by decide) rfl
  have hx0 := Lib.hid (ndRow w nd)
  have hM1 := Lib.hid (h.mkr.below hx0.out.bel)
  have hr := Lib.hid (fun s1 y hy s' x hp => WayR.xor (most := most) (s := s) (V := V) ho s1 y hy s' x hp)
  generalize hw1 : w.alloc (.cells #[.int .i8 nd.op, .int .i8 nd.len, .int .i64 nd.a0, .int .i64 nd.a1, .int .i64 nd.a2, .int .i64 nd.sort, .int .i64 nd.fn, .int .i64 nd.num] 39) = w1 at *
  have hPu := Lib.hid (MkPut_any g most s 6 nd.len.toNat V vv w1 hM1.out (h.v.below hx0.out.bel) (by omega) ⟨by decide, by decide⟩ (by have := h.few; omega) h.most (fun _ => h.ins))
  have hc := Lib.hid h.chk
  have hfew := Lib.hid h.few
  have hmost := h.most
  clear h ho
  unfold ndV
  go_enter Try.func38, Try.ntmps38
  go_wp2_with fail
  refine hPu.out.mono ?_
  rintro e w8 ⟨s', x, rfl, hR, hM8, hB8⟩
  have g8 := Lib.hid (hR.grow hc.out)
  have hR' := Lib.hid hR
  have hM8' := Lib.hid hM8
  have hB8' := Lib.hid ((But.of hx0.out.bel [g]).next hB8 hx0.out.bel.size)
  have hNo := Lib.hid (MkNot_any g most s' x w8 hM8'.out (by have := hfew.out; have := g8.out.st.size; omega) (grow_R g8.out (by have := hfew.out; omega)) hmost (fun _ => ⟨g8.out.x0, g8.out.x1⟩))
  clear hR hM8 hB8 hw1 hPu
  go_wp2_with fail
  refine hNo.out.mono ?_
  rintro e w9 ⟨s9, z, rfl, hR9, hM9, hB9⟩
  have hR9' := Lib.hid (hr.out s' x hR'.out s9 z hR9)
  have hM9' := Lib.hid hM9
  have hB9' := Lib.hid (hB8'.out.next hB9 hB8'.out.size)
  clear hR9 hM9 hB9
  go_wp2_with fail
  go_ret
  exact ⟨s9, z, rfl, hR9'.out, hM9'.out, hB9'.out⟩
set_option maxHeartbeats 4000000 in
theorem Way_imp (h : WayH w g most s nd vv V) (ho : nd.op = 5) : Calls Try.prog 39 #[.pointer (some ⟨g, 0, none⟩), ndV nd, vv] w (MkrPost g most (WayR most s nd V) w) := by
  have hk : nd.len.toNat = 2 := h.alen ho (by decide) rfl
  have hv := h.v
  have hins := Lib.hid h.ins
  have hR0 := h.R (i := 0) (by omega)
  have hR1 := h.R (i := 1) (by omega)
  rw [hk] at hv hins
  have hx0 := Lib.hid (ndRow w nd)
  have hM1 := Lib.hid (h.mkr.below hx0.out.bel)
  obtain ⟨b, o, c, rfl, hb, hc⟩ := ints_open (hv.below hx0.out.bel) (by omega)
  have hsep := Lib.hid (h.sep b o 2 c rfl)
  have v0 := hc 0 (by omega)
  have v1 := hc 1 (by omega)
  rw [Nat.add_zero] at v0
  have hr := Lib.hid (fun s1 y hy s' x hp => WayR.imp (most := most) (s := s) (V := V) ho s1 y hy s' x hp)
  generalize hw1 : w.alloc (.cells #[.int .i8 nd.op, .int .i8 nd.len, .int .i64 nd.a0, .int .i64 nd.a1, .int .i64 nd.a2, .int .i64 nd.sort, .int .i64 nd.fn, .int .i64 nd.num] 39) = w1 at *
  have hNo := Lib.hid (MkNot_any g most s (V 0) w1 hM1.out (by have := h.few; omega) hR0 h.most (fun _ => hins.out 0 (by omega)))
  have hch := Lib.hid h.chk
  have hfew := Lib.hid h.few
  have hmost := h.most
  clear h ho hv hc
  unfold ndV
  go_enter Try.func39, Try.ntmps39
  go_wp2_with fail
  refine hNo.out.mono ?_
  rintro e w8 ⟨s', x, rfl, hR, hM8, hB8⟩
  have g8 := Lib.hid (hR.grow hch.out (fun _ => hins.out 0 (by omega)))
  have hR' := Lib.hid hR
  have hM8' := Lib.hid hM8
  have v8 : w8.cell? ⟨b, o + 1, none⟩ = some (.int .i64 (V 1)) := (hB8.cell (p := ⟨b, o + 1, none⟩) hb (by have := hsep.out; simpa using this)).trans v1
  have hB8' := Lib.hid ((But.of hx0.out.bel [g]).next hB8 hx0.out.bel.size)
  have hxR : R64 x := grow_R g8.out (by have := hfew.out; omega)
  have hPu := Lib.hid (MkPut_any g most s' 3 2 (pk2 x (V 1)) _ _ (hM8'.out.below ((Below.refl _ _).alloc (Nat.le_refl _) _)) (ints_two w8 x (V 1) hxR hR1) (by omega) ⟨by decide, by decide⟩ (by have := hfew.out; have := g8.out.st.size; omega) hmost (fun _ i _ => by
    have := hins.out 1 (by omega); have := g8.out.x0; have := g8.out.x1; have := g8.out.st.more
    unfold pk2; split <;> omega))
  have hb9 := Lib.hid ((Below.refl w8.heap.size w8).alloc (Nat.le_refl _) (.cells #[.int .i64 x, .int .i64 (V 1)] 3))
  clear hR hM8 hB8 hw1 hNo v0 v1
  go_wp2_with fail
  refine hPu.out.mono ?_
  rintro e w9 ⟨s9, z, rfl, hR9, hM9, hB9⟩
  have hR9' := Lib.hid (hr.out s' x hR'.out s9 z hR9)
  have hM9' := Lib.hid hM9
  have hB9' := Lib.hid (hB8'.out.next ((But.of hb9.out [g]).next hB9 hb9.out.size) hB8'.out.size)
  clear hR9 hM9 hB9
  go_wp2_with fail
  go_ret
  exact ⟨s9, z, rfl, hR9'.out, hM9'.out, hB9'.out⟩
end
end Go.Proofs.Ytecmoahadckomaa
