/- A maker's ways, but those of numbers and applications. -/
import Derived.Test.YtlhnffmbjejphaaZMkDMkE
namespace Go.Proofs.Ytlhnffmbjejphaa
open Go.RowKit Go.Maps
set_option maxRecDepth 100000

/-- What a way is handed. -/
structure WayH (w : World) (g : Nat) (most : Int) (s : CSt) (nd : Nd) (vv : Value) (V : Nat → Int) : Prop where
  mkr : MkrAt w g most s
  ok : s.e = 0
  chk : CheckP s.n s.N
  few : s.n ≤ 800000
  most : R64 most
  nR : NdR nd
  v : IntsAt w vv nd.len.toNat V
  ins : ∀ i, i < nd.len.toNat → 0 ≤ V i ∧ V i < s.n
  len : 0 ≤ nd.len ∧ nd.len ≤ 3
  aty : nd.op ≠ 13 → nd.len = ar nd.op
  sep : ∀ b o n c, vv = .slice (some ⟨b, o, none⟩) n c → b ≠ g
theorem WayH.R {w : World} {g : Nat} {most : Int} {s : CSt} {nd : Nd} {vv : Value} {V : Nat → Int} (h : WayH w g most s nd vv V) {i : Nat} (hi : i < nd.len.toNat) : R64 (V i) := by
  have := h.ins i hi; have := h.few; unfold R64; omega
theorem WayH.alen {w : World} {g : Nat} {most : Int} {s : CSt} {nd : Nd} {vv : Value} {V : Nat → Int} (h : WayH w g most s nd vv V) {op : Int} {k : Nat} (ho : nd.op = op) (h13 : op ≠ 13) (hk : ar op = k) : nd.len.toNat = k := by
  have := h.aty (by rw [ho]; exact h13)
  rw [this, ho, hk]; simp
theorem ints_open {w : World} {v : Value} {k : Nat} {f : Nat → Int} (h : IntsAt w v k f) (hk : 0 < k) : ∃ b o c, v = .slice (some ⟨b, o, none⟩) k c ∧ b < w.heap.size ∧ ∀ i, i < k → w.cell? ⟨b, o + i, none⟩ = some (.int .i64 (f i)) := by
  obtain ⟨A, c, rfl, _, _, hc⟩ := h
  obtain ⟨b, o, rfl, hb, hc⟩ := hc hk
  exact ⟨b, o, c, rfl, hb, hc⟩
section
variable {w : World} {g : Nat} {most : Int} {s : CSt} {nd : Nd} {vv : Value} {V : Nat → Int}

set_option maxHeartbeats 4000000 in
theorem Way_truth (h : WayH w g most s nd vv V) (ho : nd.op = 0) : Calls Try.prog 86 #[.pointer (some ⟨g, 0, none⟩), ndV nd, vv] w (MkrPost g most (WayR most s nd V) w) := by
  have hx0 := Lib.hid (ndRow w nd)
  have hM1 := Lib.hid (h.mkr.below hx0.out.bel)
  have hr := Lib.hid (WayR.tru (most := most) (s := s) (V := V) ho)
  clear h ho
  unfold ndV
  go_enter Try.func86, Try.ntmps86
  go_wp2_with fail
  go_ret
  exact ⟨s, 0, rfl, hr.out, hM1.out, But.of hx0.out.bel _⟩
set_option maxHeartbeats 4000000 in
theorem Way_not (h : WayH w g most s nd vv V) (ho : nd.op = 1) : Calls Try.prog 87 #[.pointer (some ⟨g, 0, none⟩), ndV nd, vv] w (MkrPost g most (WayR most s nd V) w) := by
  have hk : nd.len.toNat = 1 := h.alen ho (by decide) rfl
  have hv := h.v
  have hins := h.ins
  have hR0 := h.R (i := 0) (by omega)
  rw [hk] at hv hins
  have hx0 := Lib.hid (ndRow w nd)
  have hM1 := Lib.hid (h.mkr.below hx0.out.bel)
  obtain ⟨b, o, c, rfl, hb, hc⟩ := ints_open (hv.below hx0.out.bel) (by omega)
  have v0 := hc 0 (by omega)
  rw [Nat.add_zero] at v0
  have hr := Lib.hid (fun s' x hp => WayR.neg (most := most) (s := s) (V := V) ho s' x hp)
  generalize hw1 : w.alloc (.cells #[.int .i8 nd.op, .int .i8 nd.len, .int .i64 nd.a0, .int .i64 nd.a1, .int .i64 nd.a2, .int .i64 nd.sort, .int .i64 nd.fn, .int .i64 nd.num] 49) = w1 at *
  have hNo := Lib.hid (MkNot_any g most s (V 0) w1 hM1.out (by have := h.few; omega) hR0 h.most (fun _ => hins 0 (by omega)))
  clear h ho hv hc hins
  unfold ndV
  go_enter Try.func87, Try.ntmps87
  go_wp2_with fail
  refine hNo.out.mono ?_
  rintro e w8 ⟨s', x, rfl, hR, hM8, hB8⟩
  have hR' := Lib.hid (hr.out s' x hR)
  have hM8' := Lib.hid hM8
  have hB8' := Lib.hid ((But.of hx0.out.bel [g]).next hB8 hx0.out.bel.size)
  clear hR hM8 hB8 hw1
  go_wp2_with fail
  go_ret
  exact ⟨s', x, rfl, hR'.out, hM8'.out, hB8'.out⟩
set_option maxHeartbeats 4000000 in
theorem Way_kind (h : WayH w g most s nd vv V) (ho : nd.op = 2 ∨ nd.op = 3) : Calls Try.prog 88 #[.pointer (some ⟨g, 0, none⟩), ndV nd, vv] w (MkrPost g most (WayR most s nd V) w) := by
  have hk : nd.len.toNat = 2 := by rcases ho with e | e; exact h.alen e (by decide) rfl; exact h.alen e (by decide) rfl
  have hx0 := Lib.hid (ndRow w nd)
  have hM1 := Lib.hid (h.mkr.below hx0.out.bel)
  have hr := Lib.hid (fun s' x hp => WayR.kind (most := most) (s := s) (V := V) ho s' x hp)
  obtain ⟨⟨c0, -⟩, -⟩ := hx0.out.cells
  generalize hw1 : w.alloc (.cells #[.int .i8 nd.op, .int .i8 nd.len, .int .i64 nd.a0, .int .i64 nd.a1, .int .i64 nd.a2, .int .i64 nd.sort, .int .i64 nd.fn, .int .i64 nd.num] 49) = w1 at *
  have hPu := Lib.hid (MkPut_any g most s nd.op nd.len.toNat V vv w1 hM1.out (h.v.below hx0.out.bel) (by omega) h.nR.op (by have := h.few; omega) h.most (fun _ => h.ins))
  clear h ho
  unfold ndV
  go_enter Try.func88, Try.ntmps88
  go_wp2_with fail
  refine hPu.out.mono ?_
  rintro e w8 ⟨s', x, rfl, hR, hM8, hB8⟩
  have hR' := Lib.hid (hr.out s' x hR)
  have hM8' := Lib.hid hM8
  have hB8' := Lib.hid ((But.of hx0.out.bel [g]).next hB8 hx0.out.bel.size)
  clear hR hM8 hB8 hw1
  go_wp2_with fail
  go_ret
  exact ⟨s', x, rfl, hR'.out, hM8'.out, hB8'.out⟩
set_option maxHeartbeats 4000000 in
theorem Way_xor (h : WayH w g most s nd vv V) (ho : nd.op = 4) : Calls Try.prog 89 #[.pointer (some ⟨g, 0, none⟩), ndV nd, vv] w (MkrPost g most (WayR most s nd V) w) := by
  have hk : nd.len.toNat = 2 := h.alen ho (by decide) rfl
  have hx0 := Lib.hid (ndRow w nd)
  have hM1 := Lib.hid (h.mkr.below hx0.out.bel)
  have hr := Lib.hid (fun s1 y hy s' x hp => WayR.xor (most := most) (s := s) (V := V) ho s1 y hy s' x hp)
  generalize hw1 : w.alloc (.cells #[.int .i8 nd.op, .int .i8 nd.len, .int .i64 nd.a0, .int .i64 nd.a1, .int .i64 nd.a2, .int .i64 nd.sort, .int .i64 nd.fn, .int .i64 nd.num] 49) = w1 at *
  have hPu := Lib.hid (MkPut_any g most s 6 nd.len.toNat V vv w1 hM1.out (h.v.below hx0.out.bel) (by omega) ⟨by decide, by decide⟩ (by have := h.few; omega) h.most (fun _ => h.ins))
  have hc := Lib.hid h.chk
  have hfew := Lib.hid h.few
  have hmost := h.most
  clear h ho
  unfold ndV
  go_enter Try.func89, Try.ntmps89
  go_wp2_with fail
  refine hPu.out.mono ?_
  rintro e w8 ⟨s', x, rfl, hR, hM8, hB8⟩
  have g8 := Lib.hid (hR.grow hc.out)
  have hR' := Lib.hid hR
  have hM8' := Lib.hid hM8
  have hB8' := Lib.hid ((But.of hx0.out.bel [g]).next hB8 hx0.out.bel.size)
  have hNo := Lib.hid (MkNot_any g most s' x w8 hM8'.out (by have := hfew.out; have := g8.out.st.size; omega) (grow_R g8.out (by have := hfew.out; omega)) hmost (fun _ => ⟨g8.out.x0, g8.out.x1⟩))
  clear hR hM8 hB8 hw1 hPu
  go_wp2_with fail
  refine hNo.out.mono ?_
  rintro e w9 ⟨s9, z, rfl, hR9, hM9, hB9⟩
  have hR9' := Lib.hid (hr.out s' x hR'.out s9 z hR9)
  have hM9' := Lib.hid hM9
  have hB9' := Lib.hid (hB8'.out.next hB9 hB8'.out.size)
  clear hR9 hM9 hB9
  go_wp2_with fail
  go_ret
  exact ⟨s9, z, rfl, hR9'.out, hM9'.out, hB9'.out⟩
set_option maxHeartbeats 4000000 in
theorem Way_imp (h : WayH w g most s nd vv V) (ho : nd.op = 5) : Calls Try.prog 90 #[.pointer (some ⟨g, 0, none⟩), ndV nd, vv] w (MkrPost g most (WayR most s nd V) w) := by
  have hk : nd.len.toNat = 2 := h.alen ho (by decide) rfl
  have hv := h.v
  have hins := Lib.hid h.ins
  have hR0 := h.R (i := 0) (by omega)
  have hR1 := h.R (i := 1) (by omega)
  rw [hk] at hv hins
  have hx0 := Lib.hid (ndRow w nd)
  have hM1 := Lib.hid (h.mkr.below hx0.out.bel)
  obtain ⟨b, o, c, rfl, hb, hc⟩ := ints_open (hv.below hx0.out.bel) (by omega)
  have hsep := Lib.hid (h.sep b o 2 c rfl)
  have v0 := hc 0 (by omega)
  have v1 := hc 1 (by omega)
  rw [Nat.add_zero] at v0
  have hr := Lib.hid (fun s1 y hy s' x hp => WayR.imp (most := most) (s := s) (V := V) ho s1 y hy s' x hp)
  generalize hw1 : w.alloc (.cells #[.int .i8 nd.op, .int .i8 nd.len, .int .i64 nd.a0, .int .i64 nd.a1, .int .i64 nd.a2, .int .i64 nd.sort, .int .i64 nd.fn, .int .i64 nd.num] 49) = w1 at *
  have hNo := Lib.hid (MkNot_any g most s (V 0) w1 hM1.out (by have := h.few; omega) hR0 h.most (fun _ => hins.out 0 (by omega)))
  have hch := Lib.hid h.chk
  have hfew := Lib.hid h.few
  have hmost := h.most
  clear h ho hv hc
  unfold ndV
  go_enter Try.func90, Try.ntmps90
  go_wp2_with fail
  refine hNo.out.mono ?_
  rintro e w8 ⟨s', x, rfl, hR, hM8, hB8⟩
  have g8 := Lib.hid (hR.grow hch.out (fun _ => hins.out 0 (by omega)))
  have hR' := Lib.hid hR
  have hM8' := Lib.hid hM8
  have v8 : w8.cell? ⟨b, o + 1, none⟩ = some (.int .i64 (V 1)) := (hB8.cell (p := ⟨b, o + 1, none⟩) hb (by have := hsep.out; simpa using this)).trans v1
  have hB8' := Lib.hid ((But.of hx0.out.bel [g]).next hB8 hx0.out.bel.size)
  have hxR : R64 x := grow_R g8.out (by have := hfew.out; omega)
  have hPu := Lib.hid (MkPut_any g most s' 3 2 (pk2 x (V 1)) _ _ (hM8'.out.below ((Below.refl _ _).alloc (Nat.le_refl _) _)) (ints_two w8 x (V 1) hxR hR1) (by omega) ⟨by decide, by decide⟩ (by have := hfew.out; have := g8.out.st.size; omega) hmost (fun _ i _ => by
    have := hins.out 1 (by omega); have := g8.out.x0; have := g8.out.x1; have := g8.out.st.more
    unfold pk2; split <;> omega))
  have hb9 := Lib.hid ((Below.refl w8.heap.size w8).alloc (Nat.le_refl _) (.cells #[.int .i64 x, .int .i64 (V 1)] 3))
  clear hR hM8 hB8 hw1 hNo v0 v1
  go_wp2_with fail
  refine hPu.out.mono ?_
  rintro e w9 ⟨s9, z, rfl, hR9, hM9, hB9⟩
  have hR9' := Lib.hid (hr.out s' x hR'.out s9 z hR9)
  have hM9' := Lib.hid hM9
  have hB9' := Lib.hid (hB8'.out.next ((But.of hb9.out [g]).next hB9 hb9.out.size) hB8'.out.size)
  clear hR9 hM9 hB9
  go_wp2_with fail
  go_ret
  exact ⟨s9, z, rfl, hR9'.out, hM9'.out, hB9'.out⟩
end
end Go.Proofs.Ytlhnffmbjejphaa
