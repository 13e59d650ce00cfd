/- offset.Of. -/
import Derived.Test.YtecmoahadckomaaZNumAddOffA
import Derived.Test.YtecmoahadckomaaZOffL
import Derived.Test.YtecmoahadckomaaZTermCTermDaRCheck
import Derived.Test.YtecmoahadckomaaZIntsToNumW
import Derived.WalkMore
import Derived.ScopeJumps
namespace Go.Proofs.Ytecmoahadckomaa
open Go.RowKit Go.Maps
set_option maxRecDepth 100000

theorem of_cells {w w2 wr : World} {b o n c G : Nat} {N : Nat → Nd} {j : Nat} (hx2 : Bx w ((w.heap.size, 0, .slice (some ⟨b, o, none⟩) n c) :: []) w2) (hcs : ∀ i, i < n → NdIn w b (o + i * 8) (N i)) (hbl : b < w.heap.size) (hG : G = w2.heap.size) (hb : Below G w2 wr) (hj : j < n) :
    wr.cell? ⟨w.heap.size, 0, none⟩ = some (.slice (some ⟨b, o, none⟩) n c) ∧ NdIn wr b (o + j * 8) (N j) := by
  have hs := hx2.bel.size
  have h1 := hx2.cells.1.2
  refine ⟨(hb.cell (p := ⟨w.heap.size, 0, none⟩) (by show w.heap.size < G; omega)).trans hx2.cells.1.1, ((hcs j hj).below hx2.bel hbl).below hb (by omega)⟩
theorem of_below {w w2 wr w5 : World} {b o n c G : Nat} (hx2 : Bx w ((w.heap.size, 0, .slice (some ⟨b, o, none⟩) n c) :: []) w2) (hG : G = w2.heap.size) (hb : Below G w2 wr) (hb5 : Below G wr w5) : Below w.heap.size w w5 :=
  hx2.bel.trans ((hb.trans hb5).mono (by have := hx2.bel.size; omega))

def OfPost (n : Nat) (N : Nat → Nd) (id : Int) (w : World) (x : Ending) (w' : World) : Prop :=
  ∃ b k er, x = .returned (.tuple #[.int .i64 b, .int .i64 k, .int .i64 er]) ∧ OfT n N id b k er ∧ Below w.heap.size w w'

def OfJ (N : Nat → Nd) (R : Option (Nat × Int)) (j : Nat) (k er : Int) : Prop := (er = 0 ∧ OfR N j k R ∧ R64 k) ∨ (er = 10 ∧ R = none ∧ R64 k)
def OfE (R : Option (Nat × Int)) (b : Nat) (k er : Int) : Prop := (er = 0 ∧ R = some (b, k)) ∨ (er = 10 ∧ R = none)
theorem OfJ.R {N : Nat → Nd} {R : Option (Nat × Int)} {j : Nat} {k er : Int} (h : OfJ N R j k er) : R64 k := by
  rcases h with ⟨_, _, h⟩ | ⟨_, _, h⟩ <;> exact h
theorem addOk_R {a b : Int} (h : addOk a b = true) : R64 (a + b) := by
  unfold addOk at h
  simp only [Bool.and_eq_true] at h
  have := may_lo h.2
  unfold R64; omega
theorem R64_0 : R64 0 := ⟨by decide, by decide⟩
theorem OfJ.add {N : Nat → Nd} {R : Option (Nat × Int)} {j : Nat} {k er : Int} (h : OfJ N R j k er) (hop : (N j).op = 11) :
    OfJ N R (N j).a0.toNat (if er = 0 then (if addOk k (N j).num then k + (N j).num else 0) else k) (if er = 0 then (if addOk k (N j).num then 0 else 10) else er) := by
  rcases h with ⟨rfl, h, hk⟩ | ⟨rfl, h, hk⟩
  · rw [if_pos rfl, if_pos rfl]
    cases h with
    | add h ok t => rw [if_pos ok, if_pos ok]; exact .inl ⟨rfl, t, addOk_R ok⟩
    | addNo h no => rw [if_neg (by rw [no]; decide), if_neg (by rw [no]; decide)]; exact .inr ⟨rfl, rfl, R64_0⟩
    | num h' => omega
    | numNo h' => omega
    | base h1 => exact absurd hop h1
  · rw [if_neg (by decide), if_neg (by decide)]; exact .inr ⟨rfl, h, hk⟩
theorem OfJ.num {N : Nat → Nd} {R : Option (Nat × Int)} {j : Nat} {k er : Int} (h : OfJ N R j k er) (hop : (N j).op = 10) :
    OfE R 1 (if er = 0 then (if addOk k (N j).num then k + (N j).num else 0) else k) (if er = 0 then (if addOk k (N j).num then 0 else 10) else er) := by
  rcases h with ⟨rfl, h, hk⟩ | ⟨rfl, h, hk⟩
  · rw [if_pos rfl, if_pos rfl]
    cases h with
    | num h ok => rw [if_pos ok, if_pos ok]; exact .inl ⟨rfl, rfl⟩
    | numNo h no => rw [if_neg (by rw [no]; decide), if_neg (by rw [no]; decide)]; exact .inr ⟨rfl, rfl⟩
    | add h' => omega
    | addNo h' => omega
    | base _ h2 => exact absurd hop h2
  · rw [if_neg (by decide), if_neg (by decide)]; exact .inr ⟨rfl, h⟩
theorem OfJ.base {N : Nat → Nd} {R : Option (Nat × Int)} {j : Nat} {k er : Int} (h : OfJ N R j k er) (h1 : (N j).op ≠ 11) (h2 : (N j).op ≠ 10) : OfE R j k er := by
  rcases h with ⟨rfl, h, hk⟩ | ⟨rfl, h, hk⟩
  · cases h with
    | num h => exact absurd h h2
    | numNo h => exact absurd h h2
    | add h => exact absurd h h1
    | addNo h => exact absurd h h1
    | base => exact .inl ⟨rfl, rfl⟩
  · exact .inr ⟨rfl, h⟩

set_option maxHeartbeats 4000000 in
theorem Of_arg1 (v : Value) (n : Nat) (N : Nat → Nd) (id : Int) (w : World) (hv : NdsAt w v n N) (hn : n ≤ 1000000) (hid : R64 id) (hch : ¬ CheckP n N) :
    Calls Try.prog 27 #[.agg #[v], .int .i64 id] w (OfPost n N id w) := by
  have hv' := Lib.hid hv
  have hr := Lib.hid hv.ranges
  obtain ⟨A, c, rfl, hc, _, hcs⟩ := hv
  obtain ⟨hc0, hc1⟩ := hc
  obtain ⟨hid0, hid1⟩ := hid
  have hx0 := (Bx.nil w).one (.slice A n c) 24
  have hR := Lib.hid (OfT.arg (n := n) (N := N) (id := id) fun h => hch h.1)
  have hy := Lib.hid (check_not hch)
  clear hch hcs
  go_enter Try.func27, Try.ntmps27
  go_wp2
  refine wp_scope_jumps 0 (fun _ _ => False) (fun _ _ => 0) rfl ?_ (fun _ _ h => h.elim)
  go_wp2_with fail
  refine (Check_any _ n N _ (hv'.out.below hx0.bel) hn).mono ?_
  rintro x w2 ⟨rfl, hb2⟩
  rw [hy.out]
  have hx2 := hx0.step hb2
  obtain ⟨⟨q0, z0⟩, -⟩ := hx2.cells
  go_wp2
  simp only [Exit.jump]
  go_ret3
  exact ⟨0, 0, 2, rfl, hR.out, hx2.bel⟩
set_option maxHeartbeats 4000000 in
theorem Of_lo (v : Value) (n : Nat) (N : Nat → Nd) (id : Int) (w : World) (hv : NdsAt w v n N) (hn : n ≤ 1000000) (hid : R64 id) (hch : CheckP n N) (hlo : id < 0) :
    Calls Try.prog 27 #[.agg #[v], .int .i64 id] w (OfPost n N id w) := by
  have hv' := Lib.hid hv
  have hr := Lib.hid hv.ranges
  obtain ⟨A, c, rfl, hc, _, hcs⟩ := hv
  obtain ⟨hc0, hc1⟩ := hc
  obtain ⟨hid0, hid1⟩ := hid
  have hx0 := (Bx.nil w).one (.slice A n c) 24
  have hR := Lib.hid (OfT.arg (n := n) (N := N) (id := id) fun h => by omega)
  have hy := Lib.hid (check_yes hch)
  have d0 : decide (id < 0) = true := by simpa using hlo
  clear hch hcs
  go_enter Try.func27, Try.ntmps27
  go_wp2
  refine wp_scope_jumps 0 (fun _ _ => False) (fun _ _ => 0) rfl ?_ (fun _ _ h => h.elim)
  go_wp2_with fail
  refine (Check_any _ n N _ (hv'.out.below hx0.bel) hn).mono ?_
  rintro x w2 ⟨rfl, hb2⟩
  rw [hy.out]
  have hx2 := hx0.step hb2
  obtain ⟨⟨q0, z0⟩, -⟩ := hx2.cells
  go_wp2
  simp only [Exit.jump]
  go_ret3
  exact ⟨0, 0, 2, rfl, hR.out, hx2.bel⟩
set_option maxHeartbeats 4000000 in
theorem Of_hi (v : Value) (n : Nat) (N : Nat → Nd) (id : Int) (w : World) (hv : NdsAt w v n N) (hn : n ≤ 1000000) (hid : R64 id) (hch : CheckP n N) (hlo : ¬ id < 0) (hhi : (n : Int) ≤ id) :
    Calls Try.prog 27 #[.agg #[v], .int .i64 id] w (OfPost n N id w) := by
  have hv' := Lib.hid hv
  have hr := Lib.hid hv.ranges
  obtain ⟨A, c, rfl, hc, _, hcs⟩ := hv
  obtain ⟨hc0, hc1⟩ := hc
  obtain ⟨hid0, hid1⟩ := hid
  have hx0 := (Bx.nil w).one (.slice A n c) 24
  have hR := Lib.hid (OfT.arg (n := n) (N := N) (id := id) fun h => by omega)
  have hy := Lib.hid (check_yes hch)
  have d0 : decide (id < 0) = false := by simpa using hlo
  have d1 : decide ((n : Int) ≤ id) = true := by simpa using hhi
  clear hch hcs
  go_enter Try.func27, Try.ntmps27
  go_wp2
  refine wp_scope_jumps 0 (fun _ _ => False) (fun _ _ => 0) rfl ?_ (fun _ _ h => h.elim)
  go_wp2_with fail
  refine (Check_any _ n N _ (hv'.out.below hx0.bel) hn).mono ?_
  rintro x w2 ⟨rfl, hb2⟩
  rw [hy.out]
  have hx2 := hx0.step hb2
  obtain ⟨⟨q0, z0⟩, -⟩ := hx2.cells
  go_wp2
  simp only [Exit.jump]
  go_ret3
  exact ⟨0, 0, 2, rfl, hR.out, hx2.bel⟩
set_option maxHeartbeats 4000000 in
theorem Of_sort (v : Value) (n : Nat) (N : Nat → Nd) (id : Int) (w : World) (hv : NdsAt w v n N) (hn : n ≤ 1000000) (hid : R64 id) (hch : CheckP n N) (hin : id.toNat < n) (h0 : 0 ≤ id) (hso : (N id.toNat).sort ≠ 1) :
    Calls Try.prog 27 #[.agg #[v], .int .i64 id] w (OfPost n N id w) := by
  have hv' := Lib.hid hv
  have hr := Lib.hid hv.ranges
  obtain ⟨A, c, rfl, hc, _, hcs⟩ := hv
  obtain ⟨hc0, hc1⟩ := hc
  obtain ⟨hid0, hid1⟩ := hid
  have hx0 := (Bx.nil w).one (.slice A n c) 24
  have hR := Lib.hid (OfT.sort hch id.toNat hin (Int.toNat_of_nonneg h0).symm hso)
  have hy := Lib.hid (check_yes hch)
  obtain ⟨i, rfl⟩ := Int.eq_ofNat_of_zero_le h0
  rw [Int.toNat_natCast] at hin hso
  have d2 : ((N i).sort != 1) = true := by simpa using hso
  have h2 := hch.two
  obtain ⟨b, o, rfl, hbl, hcs⟩ := hcs (by omega)
  have hcs' := Lib.hid hcs
  clear hcs
  have hin' : (i : Int) < (n : Int) := by omega
  have d0 : decide (n ≤ i) = false := by simp; omega
  have d1 : decide ((i : Int) < 0) = false := by simp
  clear hch hso
  go_enter Try.func27, Try.ntmps27
  go_wp2
  refine wp_scope_jumps 0 (fun _ _ => False) (fun _ _ => 0) rfl ?_ (fun _ _ h => h.elim)
  go_wp2_with fail
  refine (Check_any _ n N _ (hv'.out.below hx0.bel) hn).mono ?_
  rintro x w2 ⟨rfl, hb2⟩
  rw [hy.out]
  have hx2 := hx0.step hb2
  obtain ⟨⟨q0, z0⟩, -⟩ := hx2.cells
  obtain ⟨e0, e1, e2, e3, e4, e5, e6, e7⟩ := (hcs'.out i hin).below hx2.bel hbl
  go_wp2
  simp only [Exit.jump]
  go_ret3
  exact ⟨0, 0, 33, rfl, hR.out, hx2.bel⟩
def OfInv (w : World) (b o n c i : Nat) (N : Nat → Nd) (R : Option (Nat × Int)) (a' : Act) (wr : World) : Prop := ∃ (G : Nat) (w2 : World) (j : Nat) (k er : Int) (u8 u30 u31 u32 u33 u34 u35 u36 u37 u38 u39 u40 u41 u42 u43 u44 u45 u46 u47 u48 u49 u50 u51 u52 u53 u54 u55 u56 u57 u58 u59 u60 u61 u62 u63 u64 u65 u66 u67 u68 u69 u70 u71 u72 : Value), a' = { tmps := #[.agg #[.slice (some ⟨b, o, none⟩) n c], .int .i64 j, .pointer (some ⟨w.heap.size, 0, none⟩), undef, .int .i64 0, .int .i64 0, .int .i64 0, .pointer (some ⟨G, 0, none⟩), u8, .bool false, .agg #[.slice (some ⟨b, o, none⟩) n c], .int .i64 0, .bool false, .int .i64 i, .bool false, .int .i64 i, .pointer (some ⟨w.heap.size, 0, none⟩), .slice (some ⟨b, o, none⟩) n c, .int .i64 n, .bool false, .bool false, .pointer (some ⟨w.heap.size, 0, none⟩), .slice (some ⟨b, o, none⟩) n c, .int .i64 i, .pointer (some ⟨b, o + i * 8, none⟩), .pointer (some ⟨b, o + i * 8 + 5, none⟩), .int .i64 (N i).sort, .bool false, .agg #[.int .i64 0, .int .i64 0], .pointer (some ⟨G, 0, none⟩), u30, u31, u32, u33, u34, u35, u36, u37, u38, u39, u40, u41, u42, u43, u44, u45, u46, u47, u48, u49, u50, u51, u52, u53, u54, u55, u56, u57, u58, u59, u60, u61, u62, u63, u64, u65, u66, u67, u68, u69, u70, u71, u72], defers := [] } ∧ Bx w ((w.heap.size, 0, .slice (some ⟨b, o, none⟩) n c) :: []) w2 ∧ G = w2.heap.size ∧ j < n ∧ OfJ N R j k er ∧ SBox G k er wr ∧ Below G w2 wr
def ofMu (a' : Act) (_ : World) : Nat := (intOf (a'.tmps.getD 1 undef)).toNat

set_option maxHeartbeats 8000000 in
theorem Of_main (v : Value) (n : Nat) (N : Nat → Nd) (id : Int) (w : World) (hv : NdsAt w v n N) (hn : n ≤ 1000000) (hid : R64 id) (hch : CheckP n N) (hin : id.toNat < n) (h0 : 0 ≤ id) (hso : (N id.toNat).sort = 1) :
    Calls Try.prog 27 #[.agg #[v], .int .i64 id] w (OfPost n N id w) := by
  have hv' := Lib.hid hv
  have hr := Lib.hid hv.ranges
  obtain ⟨A, c, rfl, hc, _, hcs⟩ := hv
  obtain ⟨hc0, hc1⟩ := hc
  obtain ⟨hid0, hid1⟩ := hid
  have hx0 := (Bx.nil w).one (.slice A n c) 24
  have hy := Lib.hid (check_yes hch)
  obtain ⟨i, rfl⟩ := Int.eq_ofNat_of_zero_le h0
  rw [Int.toNat_natCast] at hin hso
  have d2 : ((N i).sort != 1) = false := by simp [hso]
  have hso' := Lib.hid hso
  obtain ⟨R, hR⟩ := ofR_total hch i hin 0
  have hR' := Lib.hid hR
  have hch' := Lib.hid hch
  have h2 := hch.two
  obtain ⟨b, o, rfl, hbl, hcs⟩ := hcs (by omega)
  have hcs' := Lib.hid hcs
  have hin' : (i : Int) < (n : Int) := by omega
  have d0 : decide (n ≤ i) = false := by simp; omega
  have d1 : decide ((i : Int) < 0) = false := by simp
  clear hcs hso hR hch
  go_enter Try.func27, Try.ntmps27
  go_wp2
  refine wp_scope_jumps 0 (OfInv w b o n c i N R) ofMu rfl ?_ ?_
  · go_wp2_with fail
    refine (Check_any _ n N _ (hv'.out.below hx0.bel) hn).mono ?_
    rintro x w2 ⟨rfl, hb2⟩
    rw [hy.out]
    have hx2 := hx0.step hb2
    obtain ⟨⟨q0, z0⟩, -⟩ := hx2.cells
    obtain ⟨e0, e1, e2, e3, e4, e5, e6, e7⟩ := (hcs'.out i hin).below hx2.bel hbl
    go_wp2
    go_step3
    clear q0 e0 e1 e2 e3 e4 e5 e6 e7
    have hJ : OfJ N R i 0 0 := .inl ⟨rfl, hR'.out, R64_0⟩
    obtain ⟨G, hG⟩ : ∃ G, G = w2.heap.size := ⟨_, rfl⟩
    have hsb : SBox G 0 0 (w2.alloc (.cells #[.int .i64 0, .int .i64 0] 75)) := by
      rw [hG]; exact ⟨by simp, by simp, by simp, by simp, by simp⟩
    have hbG : Below G w2 (w2.alloc (.cells #[.int .i64 0, .int .i64 0] 75)) := by
      rw [hG]; exact (Below.refl _ _).alloc (Nat.le_refl _) _
    generalize w2.alloc (.cells #[.int .i64 0, .int .i64 0] 75) = wr at *
    rw [← hG]
    clear hx0 hb2
    obtain ⟨q0', e0, e1, e2, e3, e4, e5, e6, e7⟩ := of_cells hx2 hcs'.out hbl hG hbG hin
    have hG' := Lib.hid hG
    clear hG
    have hin'' : (i : Int) < (n : Int) := by omega
    have hR7 := (hr.out i hin).num
    have hJ' := Lib.hid hJ
    have hkR := Lib.hid (show R64 0 from R64_0)
    clear hJ
    by_cases h11 : (N i).op = 11
    · have d11 : ((N i).op == 11) = true := by simpa using h11
      have hadd := Lib.hid (hJ'.out.add h11)
      have ha0 := (hch'.out.add hin h11).2.1
      clear h11
      obtain ⟨m, hm⟩ := Int.eq_ofNat_of_zero_le ha0.1
      rw [hm, Int.toNat_natCast] at hadd
      have hm' := Lib.hid hm
      have hmj : m < i := by omega
      rw [hm] at e2
      clear hm ha0
      go_wp2_with fail
      refine (Sadd_any G 0 0 (N i).num _ hsb hkR.out hR7).mono ?_
      rintro x w5 ⟨⟨v5, rfl⟩, hs5, hb5⟩
      go_wp2
      go_step3
      exact ⟨rfl, ⟨G, w2, m, _, _, _, _, _, _, _, _, _, _, _, _, _, _, _, _, _, _, _, _, _, _, _, _, _, _, _, _, _, _, _, _, _, _, _, _, _, _, _, _, _, _, _, _, _, _, rfl, hx2, hG'.out, by omega, hadd.out, hs5, hbG.trans hb5⟩⟩
    · have d11 : ((N i).op == 11) = false := by simpa using h11
      have d10' : True := trivial
      by_cases h10 : (N i).op = 10
      · have d10 : ((N i).op == 10) = true := by simpa using h10
        have hend := Lib.hid (hJ'.out.num h10)
        clear h10 h11
        go_wp2_with fail
        refine (Sadd_any G 0 0 (N i).num _ hsb hkR.out hR7).mono ?_
        rintro x w5 ⟨⟨v5, rfl⟩, hs5, hb5⟩
        have hbw := Lib.hid (of_below hx2 hG'.out hbG hb5)
        obtain ⟨k', er', hs5, hE⟩ : ∃ k' er', SBox G k' er' w5 ∧ OfE R 1 k' er' := ⟨_, _, hs5, hend.out⟩
        rcases hE with ⟨z1, z2⟩ | ⟨z1, z2⟩
        · subst z1
          obtain ⟨s0, s1, _, _, _⟩ := hs5
          have z2' := Lib.hid z2
          clear z2
          go_wp2
          go_quiet (fail)
          go_wp2
          simp only [Exit.jump]
          go_ret3
          exact ⟨_, _, _, rfl, OfT.ok hch'.out i hin rfl hso'.out 1 _ (by rw [← z2'.out]; exact hR'.out), below_drewN hbw.out _⟩
        · subst z1
          obtain ⟨s0, s1, _, _, _⟩ := hs5
          have z2' := Lib.hid z2
          clear z2
          go_wp2
          go_quiet (fail)
          go_wp2
          simp only [Exit.jump]
          go_ret3
          exact ⟨_, _, _, rfl, OfT.over hch'.out i hin rfl hso'.out (by rw [← z2'.out]; exact hR'.out), below_drewN hbw.out _⟩
      · have d10 : ((N i).op == 10) = false := by simpa using h10
        have hend := Lib.hid (hJ'.out.base h11 h10)
        have hbw := Lib.hid (of_below hx2 hG'.out hbG (Below.refl _ _))
        clear h10 h11
        obtain ⟨k', er', hsb', hE⟩ : ∃ k' er', SBox G k' er' wr ∧ OfE R i k' er' := ⟨_, _, hsb, hend.out⟩
        clear hsb hend
        rcases hE with ⟨z1, z2⟩ | ⟨z1, z2⟩
        · subst z1
          obtain ⟨s0, s1, _, _, _⟩ := hsb'
          have z2' := Lib.hid z2
          clear z2
          go_wp2
          go_quiet (fail)
          go_wp2
          simp only [Exit.jump]
          go_ret3
          exact ⟨_, _, _, rfl, OfT.ok hch'.out i hin rfl hso'.out i _ (by rw [← z2'.out]; exact hR'.out), below_drewN hbw.out _⟩
        · subst z1
          obtain ⟨s0, s1, _, _, _⟩ := hsb'
          have z2' := Lib.hid z2
          clear z2
          go_wp2
          go_quiet (fail)
          go_wp2
          simp only [Exit.jump]
          go_ret3
          exact ⟨_, _, _, rfl, OfT.over hch'.out i hin rfl hso'.out (by rw [← z2'.out]; exact hR'.out), below_drewN hbw.out _⟩
  · rintro a' wr ⟨G, w2, j, k, er, u8, u30, u31, u32, u33, u34, u35, u36, u37, u38, u39, u40, u41, u42, u43, u44, u45, u46, u47, u48, u49, u50, u51, u52, u53, u54, u55, u56, u57, u58, u59, u60, u61, u62, u63, u64, u65, u66, u67, u68, u69, u70, u71, u72, rfl, hx2, hG, hjn, hJ, hsb, hbG⟩
    obtain ⟨q0', e0, e1, e2, e3, e4, e5, e6, e7⟩ := of_cells hx2 hcs'.out hbl hG hbG hjn
    have hG' := Lib.hid hG
    clear hG
    have hjn' : (j : Int) < (n : Int) := by omega
    have hR7 := (hr.out j hjn).num
    have hJ' := Lib.hid hJ
    have hkR := Lib.hid hJ.R
    clear hJ
    by_cases h11 : (N j).op = 11
    · have d11 : ((N j).op == 11) = true := by simpa using h11
      have hadd := Lib.hid (hJ'.out.add h11)
      have ha0 := (hch'.out.add hjn h11).2.1
      clear h11
      obtain ⟨m, hm⟩ := Int.eq_ofNat_of_zero_le ha0.1
      rw [hm, Int.toNat_natCast] at hadd
      have hm' := Lib.hid hm
      have hmj : m < j := by omega
      rw [hm] at e2
      clear hm ha0
      go_wp2_with fail
      refine (Sadd_any G k er (N j).num _ hsb hkR.out hR7).mono ?_
      rintro x w5 ⟨⟨v5, rfl⟩, hs5, hb5⟩
      go_wp2
      go_step3
      exact ⟨rfl, ⟨G, w2, m, _, _, _, _, _, _, _, _, _, _, _, _, _, _, _, _, _, _, _, _, _, _, _, _, _, _, _, _, _, _, _, _, _, _, _, _, _, _, _, _, _, _, _, _, _, _, rfl, hx2, hG'.out, by omega, hadd.out, hs5, hbG.trans hb5⟩, by simp [ofMu, intOf]; omega⟩
    · have d11 : ((N j).op == 11) = false := by simpa using h11
      have d10' : True := trivial
      by_cases h10 : (N j).op = 10
      · have d10 : ((N j).op == 10) = true := by simpa using h10
        have hend := Lib.hid (hJ'.out.num h10)
        clear h10 h11
        go_wp2_with fail
        refine (Sadd_any G k er (N j).num _ hsb hkR.out hR7).mono ?_
        rintro x w5 ⟨⟨v5, rfl⟩, hs5, hb5⟩
        have hbw := Lib.hid (of_below hx2 hG'.out hbG hb5)
        obtain ⟨k', er', hs5, hE⟩ : ∃ k' er', SBox G k' er' w5 ∧ OfE R 1 k' er' := ⟨_, _, hs5, hend.out⟩
        rcases hE with ⟨z1, z2⟩ | ⟨z1, z2⟩
        · subst z1
          obtain ⟨s0, s1, _, _, _⟩ := hs5
          have z2' := Lib.hid z2
          clear z2
          go_wp2
          go_quiet (fail)
          go_wp2
          simp only [Exit.jump]
          go_ret3
          exact ⟨_, _, _, rfl, OfT.ok hch'.out i hin rfl hso'.out 1 _ (by rw [← z2'.out]; exact hR'.out), below_drewN hbw.out _⟩
        · subst z1
          obtain ⟨s0, s1, _, _, _⟩ := hs5
          have z2' := Lib.hid z2
          clear z2
          go_wp2
          go_quiet (fail)
          go_wp2
          simp only [Exit.jump]
          go_ret3
          exact ⟨_, _, _, rfl, OfT.over hch'.out i hin rfl hso'.out (by rw [← z2'.out]; exact hR'.out), below_drewN hbw.out _⟩
      · have d10 : ((N j).op == 10) = false := by simpa using h10
        have hend := Lib.hid (hJ'.out.base h11 h10)
        have hbw := Lib.hid (of_below hx2 hG'.out hbG (Below.refl _ _))
        clear h10 h11
        obtain ⟨k', er', hsb', hE⟩ : ∃ k' er', SBox G k' er' wr ∧ OfE R j k' er' := ⟨_, _, hsb, hend.out⟩
        clear hsb hend
        rcases hE with ⟨z1, z2⟩ | ⟨z1, z2⟩
        · subst z1
          obtain ⟨s0, s1, _, _, _⟩ := hsb'
          have z2' := Lib.hid z2
          clear z2
          go_wp2
          go_quiet (fail)
          go_wp2
          simp only [Exit.jump]
          go_ret3
          exact ⟨_, _, _, rfl, OfT.ok hch'.out i hin rfl hso'.out j _ (by rw [← z2'.out]; exact hR'.out), below_drewN hbw.out _⟩
        · subst z1
          obtain ⟨s0, s1, _, _, _⟩ := hsb'
          have z2' := Lib.hid z2
          clear z2
          go_wp2
          go_quiet (fail)
          go_wp2
          simp only [Exit.jump]
          go_ret3
          exact ⟨_, _, _, rfl, OfT.over hch'.out i hin rfl hso'.out (by rw [← z2'.out]; exact hR'.out), below_drewN hbw.out _⟩

theorem Of_any (v : Value) (n : Nat) (N : Nat → Nd) (id : Int) (w : World) (hv : NdsAt w v n N) (hn : n ≤ 1000000) (hid : R64 id) :
    Calls Try.prog 27 #[.agg #[v], .int .i64 id] w (OfPost n N id w) := by
  rcases Classical.em (CheckP n N) with hch | hch
  · by_cases hlo : id < 0
    · exact Of_lo v n N id w hv hn hid hch hlo
    · by_cases hhi : (n : Int) ≤ id
      · exact Of_hi v n N id w hv hn hid hch hlo hhi
      · by_cases hso : (N id.toNat).sort = 1
        · exact Of_main v n N id w hv hn hid hch (by omega) (by omega) hso
        · exact Of_sort v n N id w hv hn hid hch (by omega) (by omega) hso
  · exact Of_arg1 v n N id w hv hn hid hch
end Go.Proofs.Ytecmoahadckomaa

namespace Go.Proofs.Ytecmoahadckomaa
open Go.RowKit Go.Maps
set_option maxRecDepth 100000

theorem results_tmp4 {fn : Func} {t u v x : Tmp} (h : fn.results = #[.tmp t, .tmp u, .tmp v, .tmp x]) (tmps : Array Value) (P : Program) (w : World) :
    (results fn tmps).run P w = .ok (.tuple #[tmps.getD t undef, tmps.getD u undef, tmps.getD v undef, tmps.getD x undef]) w := by
  simp [results, h]
theorem OfR.lt {n : Nat} {N : Nat → Nd} (hc : CheckP n N) {i : Nat} {k : Int} {r : Option (Nat × Int)} (h : OfR N i k r) (hi : i < n) : ∀ b s, r = some (b, s) → b < n := by
  induction h with
  | add h ok t ih =>
    obtain ⟨_, ha, _⟩ := hc.add hi h
    exact ih (by omega)
  | addNo => intro b s h; cases h
  | num => intro b s e; injection e with e; injection e with e1 _; have := hc.two; omega
  | numNo => intro b s h; cases h
  | base => intro b s e; injection e with e; injection e with e1 _; omega
theorem OfT.R {n : Nat} {N : Nat → Nd} {id b k er : Int} (h : OfT n N id b k er) (hn : n ≤ 1000000) : (0 ≤ b ∧ b ≤ 1000000) ∧ mayB k = true ∧ (er = 0 ∨ er = 2 ∨ er = 33 ∨ er = 10) := by
  cases h with
  | arg => exact ⟨by omega, by decide, by omega⟩
  | sort => exact ⟨by omega, by decide, by omega⟩
  | over => exact ⟨by omega, by decide, by omega⟩
  | ok h i hi e hs b' k ho =>
    have := ho.lt h hi b' _ rfl
    exact ⟨by omega, ho.may mayB_zero _ _ rfl, by omega⟩
theorem may_R {x : Int} (h : mayB x = true) : R64 x := by have := may_lo h; unfold R64; omega
/-- What Diff tells. -/
inductive DiffT (n : Nat) (N : Nat → Nd) (a b c : Int) : Int → Int → Int → Int → Prop
  | e1 (x m er : Int) (h : OfT n N a x m er) (he : er ≠ 0) : DiffT n N a b c 0 0 0 er
  | e2 (x m : Int) (h : OfT n N a x m 0) (y k er : Int) (h' : OfT n N b y k er) (he : er ≠ 0) : DiffT n N a b c 0 0 0 er
  | over (x m : Int) (h : OfT n N a x m 0) (y k : Int) (h' : OfT n N b y k 0) (ho : ¬ (subOk c m = true ∧ addOk (c - m) k = true)) : DiffT n N a b c 0 0 0 10
  | ok (x m : Int) (h : OfT n N a x m 0) (y k : Int) (h' : OfT n N b y k 0) (h1 : subOk c m = true) (h2 : addOk (c - m) k = true) : DiffT n N a b c x y (c - m + k) 0
def DiffPost (n : Nat) (N : Nat → Nd) (a b c : Int) (w : World) (e : Ending) (w' : World) : Prop :=
  ∃ x y d er, e = .returned (.tuple #[.int .i64 x, .int .i64 y, .int .i64 d, .int .i64 er]) ∧ DiffT n N a b c x y d er ∧ Below w.heap.size w w'

set_option maxHeartbeats 4000000 in
theorem Diff_any (v : Value) (n : Nat) (N : Nat → Nd) (a b c : Int) (w : World) (hv : NdsAt w v n N) (hn : n ≤ 1000000) (ha : R64 a) (hb : R64 b) (hc : R64 c) :
    Calls Try.prog 89 #[.agg #[v], .int .i64 a, .int .i64 b, .int .i64 c] w (DiffPost n N a b c w) := by
  have hv' := Lib.hid hv
  obtain ⟨A, cp, rfl, _, _, _⟩ := hv
  have hx0 := (Bx.nil w).one (.slice A n cp) 24
  go_enter Try.func89, Try.ntmps89
  go_wp2_with fail
  refine (Of_any _ n N a _ (hv'.out.below hx0.bel) hn ha).mono ?_
  rintro e w2 ⟨x, m, e2, rfl, hT1, hb2⟩
  have hx2 := hx0.step hb2
  obtain ⟨⟨q0, z0⟩, -⟩ := hx2.cells
  by_cases he2 : e2 = 0
  · subst he2
    go_wp2_with fail
    refine (Of_any _ n N b _ (hv'.out.below hx2.bel) hn hb).mono ?_
    rintro e w3 ⟨y, k, e3, rfl, hT2, hb3⟩
    have hx3 := hx2.step hb3
    clear q0 z0
    by_cases he3 : e3 = 0
    · subst he3
      obtain ⟨_, hm, _⟩ := hT1.R hn
      obtain ⟨_, hk, _⟩ := hT2.R hn
      have hm' := Lib.hid hm
      have hk' := Lib.hid hk
      clear hm hk
      go_wp2_with fail
      have hsb : SBox w3.heap.size c 0 (w3.alloc (.cells #[.int .i64 c, .int .i64 0] 75)) := ⟨by simp, by simp, by simp, by simp, by simp⟩
      refine (Ssub_any w3.heap.size c 0 m _ hsb hc (may_R hm'.out)).mono ?_
      rintro e w4 ⟨⟨v4, rfl⟩, hs4, hb4⟩
      rw [if_pos rfl, if_pos rfl] at hs4
      have hbw4 : Below w3.heap.size w3 w4 := ((Below.refl _ _).alloc (Nat.le_refl _) _).trans hb4
      clear hsb hb4
      cases h1 : subOk c m with
      | true =>
        rw [h1, if_pos rfl, if_pos rfl] at hs4
        have hcm : R64 (c - m) := by
          have := h1; unfold subOk at this; simp only [Bool.and_eq_true] at this; exact may_R this.2
        have h1' := Lib.hid h1
        clear h1
        go_wp2_with fail
        refine (Sadd_any w3.heap.size (c - m) 0 k _ hs4 hcm (may_R hk'.out)).mono ?_
        rintro e w5 ⟨⟨v5, rfl⟩, hs5, hb5⟩
        rw [if_pos rfl, if_pos rfl] at hs5
        have hbw5 := Lib.hid (hx3.bel.trans ((hbw4.trans hb5).mono hx3.bel.size))
        cases h2 : addOk (c - m) k with
        | true =>
          rw [h2, if_pos rfl, if_pos rfl] at hs5
          obtain ⟨s0, s1, _, _, _⟩ := hs5
          have hR := Lib.hid (DiffT.ok x m hT1 y k hT2 h1'.out h2)
          clear h2
          go_wp2
          go_quiet (fail)
          go_wp2
          exact bodyPost_ret (results_tmp4 rfl _ _ _) rfl ⟨_, _, _, _, rfl, hR.out, below_drewN hbw5.out _⟩
        | false =>
          rw [h2, if_neg (by decide), if_neg (by decide)] at hs5
          obtain ⟨s0, s1, _, _, _⟩ := hs5
          have hR := Lib.hid (DiffT.over x m hT1 y k hT2 (fun h => by rw [h2] at h; exact absurd h.2 (by decide)))
          clear h2
          go_wp2
          go_quiet (fail)
          go_wp2
          exact bodyPost_ret (results_tmp4 rfl _ _ _) rfl ⟨_, _, _, _, rfl, hR.out, below_drewN hbw5.out _⟩
      | false =>
        rw [h1, if_neg (by decide), if_neg (by decide)] at hs4
        have hR := Lib.hid (DiffT.over x m hT1 y k hT2 (fun h => by rw [h1] at h; exact absurd h.1 (by decide)))
        clear h1
        go_wp2_with fail
        refine (Sadd_any w3.heap.size 0 10 k _ hs4 R64_0 (may_R hk'.out)).mono ?_
        rintro e w5 ⟨⟨v5, rfl⟩, hs5, hb5⟩
        rw [if_neg (by decide), if_neg (by decide)] at hs5
        have hbw5 := Lib.hid (hx3.bel.trans ((hbw4.trans hb5).mono hx3.bel.size))
        obtain ⟨s0, s1, _, _, _⟩ := hs5
        go_wp2
        go_quiet (fail)
        go_wp2
        exact bodyPost_ret (results_tmp4 rfl _ _ _) rfl ⟨_, _, _, _, rfl, hR.out, below_drewN hbw5.out _⟩
    · have d3 : (e3 != 0) = true := by simpa using he3
      have hR := Lib.hid (DiffT.e2 (c := c) x m hT1 y k e3 hT2 he3)
      clear he3
      go_wp2
      exact bodyPost_ret (results_tmp4 rfl _ _ _) rfl ⟨_, _, _, _, rfl, hR.out, hx3.bel⟩
  · have d2 : (e2 != 0) = true := by simpa using he2
    have hR := Lib.hid (DiffT.e1 (b := b) (c := c) x m e2 hT1 he2)
    clear he2
    go_wp2
    exact bodyPost_ret (results_tmp4 rfl _ _ _) rfl ⟨_, _, _, _, rfl, hR.out, hx2.bel⟩
end Go.Proofs.Ytecmoahadckomaa
