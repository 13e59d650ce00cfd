/- offset.Of. -/
import Derived.Test.YtoppfcfalciibaaOffA
import Derived.Test.YtoppfcfalciibaaOffL
import Derived.Test.YtoppfcfalciibaaTermD
import Derived.Test.YtoppfcfalciibaaBoxes
import Derived.WalkMore
import Derived.ScopeJumps
namespace Go.Proofs.Ytoppfcfalciibaa
open Go.RowKit Go.Maps
set_option maxRecDepth 100000

theorem of_cells {w w2 wr : World} {b o n c G : Nat} {N : Nat → Nd} {j : Nat} (hx2 : Bx w ((w.heap.size, 0, .slice (some ⟨b, o, none⟩) n c) :: []) w2) (hcs : ∀ i, i < n → NdIn w b (o + i * 8) (N i)) (hbl : b < w.heap.size) (hG : G = w2.heap.size) (hb : Below G w2 wr) (hj : j < n) :
    wr.cell? ⟨w.heap.size, 0, none⟩ = some (.slice (some ⟨b, o, none⟩) n c) ∧ NdIn wr b (o + j * 8) (N j) := by
  have hs := hx2.bel.size
  have h1 := hx2.cells.1.2
  refine ⟨(hb.cell (p := ⟨w.heap.size, 0, none⟩) (by show w.heap.size < G; omega)).trans hx2.cells.1.1, ((hcs j hj).below hx2.bel hbl).below hb (by omega)⟩
theorem of_below {w w2 wr w5 : World} {b o n c G : Nat} (hx2 : Bx w ((w.heap.size, 0, .slice (some ⟨b, o, none⟩) n c) :: []) w2) (hG : G = w2.heap.size) (hb : Below G w2 wr) (hb5 : Below G wr w5) : Below w.heap.size w w5 :=
  hx2.bel.trans ((hb.trans hb5).mono (by have := hx2.bel.size; omega))

def OfPost (n : Nat) (N : Nat → Nd) (id : Int) (w : World) (x : Ending) (w' : World) : Prop :=
  ∃ b k er, x = .returned (.tuple #[.int .i64 b, .int .i64 k, .int .i64 er]) ∧ OfT n N id b k er ∧ Below w.heap.size w w'

def OfJ (N : Nat → Nd) (R : Option (Nat × Int)) (j : Nat) (k er : Int) : Prop := (er = 0 ∧ OfR N j k R ∧ R64 k) ∨ (er = 10 ∧ R = none ∧ R64 k)
def OfE (R : Option (Nat × Int)) (b : Nat) (k er : Int) : Prop := (er = 0 ∧ R = some (b, k)) ∨ (er = 10 ∧ R = none)
theorem OfJ.R {N : Nat → Nd} {R : Option (Nat × Int)} {j : Nat} {k er : Int} (h : OfJ N R j k er) : R64 k := by
  rcases h with ⟨_, _, h⟩ | ⟨_, _, h⟩ <;> exact h
theorem addOk_R {a b : Int} (h : addOk a b = true) : R64 (a + b) := by
  unfold addOk at h
  simp only [Bool.and_eq_true] at h
  have := may_lo h.2
  unfold R64; omega
theorem R64_0 : R64 0 := ⟨by decide, by decide⟩
theorem OfJ.add {N : Nat → Nd} {R : Option (Nat × Int)} {j : Nat} {k er : Int} (h : OfJ N R j k er) (hop : (N j).op = 11) :
    OfJ N R (N j).a0.toNat (if er = 0 then (if addOk k (N j).num then k + (N j).num else 0) else k) (if er = 0 then (if addOk k (N j).num then 0 else 10) else er) := by
  rcases h with ⟨rfl, h, hk⟩ | ⟨rfl, h, hk⟩
  · rw [if_pos rfl, if_pos rfl]
    cases h with
    | add h ok t => rw [if_pos ok, if_pos ok]; exact .inl ⟨rfl, t, addOk_R ok⟩
    | addNo h no => rw [if_neg (by rw [no]; decide), if_neg (by rw [no]; decide)]; exact .inr ⟨rfl, rfl, R64_0⟩
    | num h' => omega
    | numNo h' => omega
    | base h1 => exact absurd hop h1
  · rw [if_neg (by decide), if_neg (by decide)]; exact .inr ⟨rfl, h, hk⟩
theorem OfJ.num {N : Nat → Nd} {R : Option (Nat × Int)} {j : Nat} {k er : Int} (h : OfJ N R j k er) (hop : (N j).op = 10) :
    OfE R 1 (if er = 0 then (if addOk k (N j).num then k + (N j).num else 0) else k) (if er = 0 then (if addOk k (N j).num then 0 else 10) else er) := by
  rcases h with ⟨rfl, h, hk⟩ | ⟨rfl, h, hk⟩
  · rw [if_pos rfl, if_pos rfl]
    cases h with
    | num h ok => rw [if_pos ok, if_pos ok]; exact .inl ⟨rfl, rfl⟩
    | numNo h no => rw [if_neg (by rw [no]; decide), if_neg (by rw [no]; decide)]; exact .inr ⟨rfl, rfl⟩
    | add h' => omega
    | addNo h' => omega
    | base _ h2 => exact absurd hop h2
  · rw [if_neg (by decide), if_neg (by decide)]; exact .inr ⟨rfl, h⟩
theorem OfJ.base {N : Nat → Nd} {R : Option (Nat × Int)} {j : Nat} {k er : Int} (h : OfJ N R j k er) (h1 : (N j).op ≠ 11) (h2 : (N j).op ≠ 10) : OfE R j k er := by
  rcases h with ⟨rfl, h, hk⟩ | ⟨rfl, h, hk⟩
  · cases h with
    | num h => exact absurd h h2
    | numNo h => exact absurd h h2
    | add h => exact absurd h h1
    | addNo h => exact absurd h h1
    | base => exact .inl ⟨rfl, rfl⟩
  · exact .inr ⟨rfl, h⟩

set_option maxHeartbeats 4000000 in
theorem Of_arg1 (v : Value) (n : Nat) (N : Nat → Nd) (id : Int) (w : World) (hv : NdsAt w v n N) (hn : n ≤ 1000000) (hid : R64 id) (hch : ¬ CheckP n N) :
    Calls Try.prog 31 #[.agg #[v], .int .i64 id] w (OfPost n N id w) := by
  have hv' := Lib.hid hv
  have hr := Lib.hid hv.ranges
  obtain ⟨A, c, rfl, hc, _, hcs⟩ := hv
  obtain ⟨hc0, hc1⟩ := hc
  obtain ⟨hid0, hid1⟩ := hid
  have hx0 := (Bx.nil w).one (.slice A n c) 24
  have hR := Lib.hid (OfT.arg (n := n) (N := N) (id := id) fun h => hch h.1)
  have hy := Lib.hid (check_not hch)
  clear hch hcs
  go_enter Try.func31, Try.ntmps31
  go_wp2
  refine wp_scope_jumps 0 (fun _ _ => False) (fun _ _ => 0) rfl ?_ (fun _ _ h => h.elim)
  go_wp2_with fail
  refine (Check_any _ n N _ (hv'.out.below hx0.bel) hn).mono ?_
  rintro x w2 ⟨rfl, hb2⟩
  rw [hy.out]
  have hx2 := hx0.step hb2
  obtain ⟨⟨q0, z0⟩, -⟩ := hx2.cells
  go_wp2
  simp only [Exit.jump]
  go_ret3
  exact ⟨0, 0, 2, rfl, hR.out, hx2.bel⟩
set_option maxHeartbeats 4000000 in
theorem Of_lo (v : Value) (n : Nat) (N : Nat → Nd) (id : Int) (w : World) (hv : NdsAt w v n N) (hn : n ≤ 1000000) (hid : R64 id) (hch : CheckP n N) (hlo : id < 0) :
    Calls Try.prog 31 #[.agg #[v], .int .i64 id] w (OfPost n N id w) := by
  have hv' := Lib.hid hv
  have hr := Lib.hid hv.ranges
  obtain ⟨A, c, rfl, hc, _, hcs⟩ := hv
  obtain ⟨hc0, hc1⟩ := hc
  obtain ⟨hid0, hid1⟩ := hid
  have hx0 := (Bx.nil w).one (.slice A n c) 24
  have hR := Lib.hid (OfT.arg (n := n) (N := N) (id := id) fun h => by omega)
  have hy := Lib.hid (check_yes hch)
  have d0 : decide (id < 0) = true := by simpa using hlo
  clear hch hcs
  go_enter Try.func31, Try.ntmps31
  go_wp2
  refine wp_scope_jumps 0 (fun _ _ => False) (fun _ _ => 0) rfl ?_ (fun _ _ h => h.elim)
  go_wp2_with fail
  refine (Check_any _ n N _ (hv'.out.below hx0.bel) hn).mono ?_
  rintro x w2 ⟨rfl, hb2⟩
  rw [hy.out]
  have hx2 := hx0.step hb2
  obtain ⟨⟨q0, z0⟩, -⟩ := hx2.cells
  go_wp2
  simp only [Exit.jump]
  go_ret3
  exact ⟨0, 0, 2, rfl, hR.out, hx2.bel⟩
set_option maxHeartbeats 4000000 in
theorem Of_hi (v : Value) (n : Nat) (N : Nat → Nd) (id : Int) (w : World) (hv : NdsAt w v n N) (hn : n ≤ 1000000) (hid : R64 id) (hch : CheckP n N) (hlo : ¬ id < 0) (hhi : (n : Int) ≤ id) :
    Calls Try.prog 31 #[.agg #[v], .int .i64 id] w (OfPost n N id w) := by
  have hv' := Lib.hid hv
  have hr := Lib.hid hv.ranges
  obtain ⟨A, c, rfl, hc, _, hcs⟩ := hv
  obtain ⟨hc0, hc1⟩ := hc
  obtain ⟨hid0, hid1⟩ := hid
  have hx0 := (Bx.nil w).one (.slice A n c) 24
  have hR := Lib.hid (OfT.arg (n := n) (N := N) (id := id) fun h => by omega)
  have hy := Lib.hid (check_yes hch)
  have d0 : decide (id < 0) = false := by simpa using hlo
  have d1 : decide ((n : Int) ≤ id) = true := by simpa using hhi
  clear hch hcs
  go_enter Try.func31, Try.ntmps31
  go_wp2
  refine wp_scope_jumps 0 (fun _ _ => False) (fun _ _ => 0) rfl ?_ (fun _ _ h => h.elim)
  go_wp2_with fail
  refine (Check_any _ n N _ (hv'.out.below hx0.bel) hn).mono ?_
  rintro x w2 ⟨rfl, hb2⟩
  rw [hy.out]
  have hx2 := hx0.step hb2
  obtain ⟨⟨q0, z0⟩, -⟩ := hx2.cells
  go_wp2
  simp only [Exit.jump]
  go_ret3
  exact ⟨0, 0, 2, rfl, hR.out, hx2.bel⟩
set_option maxHeartbeats 4000000 in
theorem Of_sort (v : Value) (n : Nat) (N : Nat → Nd) (id : Int) (w : World) (hv : NdsAt w v n N) (hn : n ≤ 1000000) (hid : R64 id) (hch : CheckP n N) (hin : id.toNat < n) (h0 : 0 ≤ id) (hso : (N id.toNat).sort ≠ 1) :
    Calls Try.prog 31 #[.agg #[v], .int .i64 id] w (OfPost n N id w) := by
  have hv' := Lib.hid hv
  have hr := Lib.hid hv.ranges
  obtain ⟨A, c, rfl, hc, _, hcs⟩ := hv
  obtain ⟨hc0, hc1⟩ := hc
  obtain ⟨hid0, hid1⟩ := hid
  have hx0 := (Bx.nil w).one (.slice A n c) 24
  have hR := Lib.hid (OfT.sort hch id.toNat hin (Int.toNat_of_nonneg h0).symm hso)
  have hy := Lib.hid (check_yes hch)
  obtain ⟨i, rfl⟩ := Int.eq_ofNat_of_zero_le h0
  rw [Int.toNat_natCast] at hin hso
  have d2 : ((N i).sort != 1) = true := by simpa using hso
  have h2 := hch.two
  obtain ⟨b, o, rfl, hbl, hcs⟩ := hcs (by omega)
  have hcs' := Lib.hid hcs
  clear hcs
  have hin' : (i : Int) < (n : Int) := by omega
  have d0 : decide (n ≤ i) = false := by simp; omega
  have d1 : decide ((i : Int) < 0) = false := by simp
  clear hch hso
  go_enter Try.func31, Try.ntmps31
  go_wp2
  refine wp_scope_jumps 0 (fun _ _ => False) (fun _ _ => 0) rfl ?_ (fun _ _ h => h.elim)
  go_wp2_with fail
  refine (Check_any _ n N _ (hv'.out.below hx0.bel) hn).mono ?_
  rintro x w2 ⟨rfl, hb2⟩
  rw [hy.out]
  have hx2 := hx0.step hb2
  obtain ⟨⟨q0, z0⟩, -⟩ := hx2.cells
  obtain ⟨e0, e1, e2, e3, e4, e5, e6, e7⟩ := (hcs'.out i hin).below hx2.bel hbl
  go_wp2
  simp only [Exit.jump]
  go_ret3
  exact ⟨0, 0, 33, rfl, hR.out, hx2.bel⟩
def OfInv (w : World) (b o n c i : Nat) (N : Nat → Nd) (R : Option (Nat × Int)) (a' : Act) (wr : World) : Prop := ∃ (G : Nat) (w2 : World) (j : Nat) (k er : Int) (u8 u30 u31 u32 u33 u34 u35 u36 u37 u38 u39 u40 u41 u42 u43 u44 u45 u46 u47 u48 u49 u50 u51 u52 u53 u54 u55 u56 u57 u58 u59 u60 u61 u62 u63 u64 u65 u66 u67 u68 u69 u70 u71 u72 : Value), a' = { tmps := #[.agg #[.slice (some ⟨b, o, none⟩) n c], .int .i64 j, .pointer (some ⟨w.heap.size, 0, none⟩), undef, .int .i64 0, .int .i64 0, .int .i64 0, .pointer (some ⟨G, 0, none⟩), u8, .bool false, .agg #[.slice (some ⟨b, o, none⟩) n c], .int .i64 0, .bool false, .int .i64 i, .bool false, .int .i64 i, .pointer (some ⟨w.heap.size, 0, none⟩), .slice (some ⟨b, o, none⟩) n c, .int .i64 n, .bool false, .bool false, .pointer (some ⟨w.heap.size, 0, none⟩), .slice (some ⟨b, o, none⟩) n c, .int .i64 i, .pointer (some ⟨b, o + i * 8, none⟩), .pointer (some ⟨b, o + i * 8 + 5, none⟩), .int .i64 (N i).sort, .bool false, .agg #[.int .i64 0, .int .i64 0], .pointer (some ⟨G, 0, none⟩), u30, u31, u32, u33, u34, u35, u36, u37, u38, u39, u40, u41, u42, u43, u44, u45, u46, u47, u48, u49, u50, u51, u52, u53, u54, u55, u56, u57, u58, u59, u60, u61, u62, u63, u64, u65, u66, u67, u68, u69, u70, u71, u72], defers := [] } ∧ Bx w ((w.heap.size, 0, .slice (some ⟨b, o, none⟩) n c) :: []) w2 ∧ G = w2.heap.size ∧ j < n ∧ OfJ N R j k er ∧ SBox G k er wr ∧ Below G w2 wr
def ofMu (a' : Act) (_ : World) : Nat := (intOf (a'.tmps.getD 1 undef)).toNat

set_option maxHeartbeats 8000000 in
theorem Of_main (v : Value) (n : Nat) (N : Nat → Nd) (id : Int) (w : World) (hv : NdsAt w v n N) (hn : n ≤ 1000000) (hid : R64 id) (hch : CheckP n N) (hin : id.toNat < n) (h0 : 0 ≤ id) (hso : (N id.toNat).sort = 1) :
    Calls Try.prog 31 #[.agg #[v], .int .i64 id] w (OfPost n N id w) := by
  have hv' := Lib.hid hv
  have hr := Lib.hid hv.ranges
  obtain ⟨A, c, rfl, hc, _, hcs⟩ := hv
  obtain ⟨hc0, hc1⟩ := hc
  obtain ⟨hid0, hid1⟩ := hid
  have hx0 := (Bx.nil w).one (.slice A n c) 24
  have hy := Lib.hid (check_yes hch)
  obtain ⟨i, rfl⟩ := Int.eq_ofNat_of_zero_le h0
  rw [Int.toNat_natCast] at hin hso
  have d2 : ((N i).sort != 1) = false := by simp [hso]
  have hso' := Lib.hid hso
  obtain ⟨R, hR⟩ := ofR_total hch i hin 0
  have hR' := Lib.hid hR
  have hch' := Lib.hid hch
  have h2 := hch.two
  obtain ⟨b, o, rfl, hbl, hcs⟩ := hcs (by omega)
  have hcs' := Lib.hid hcs
  have hin' : (i : Int) < (n : Int) := by omega
  have d0 : decide (n ≤ i) = false := by simp; omega
  have d1 : decide ((i : Int) < 0) = false := by simp
  clear hcs hso hR hch
  go_enter Try.func31, Try.ntmps31
  go_wp2
  refine wp_scope_jumps 0 (OfInv w b o n c i N R) ofMu rfl ?_ ?_
  · go_wp2_with fail
    refine (Check_any _ n N _ (hv'.out.below hx0.bel) hn).mono ?_
    rintro x w2 ⟨rfl, hb2⟩
    rw [hy.out]
    have hx2 := hx0.step hb2
    obtain ⟨⟨q0, z0⟩, -⟩ := hx2.cells
    obtain ⟨e0, e1, e2, e3, e4, e5, e6, e7⟩ := (hcs'.out i hin).below hx2.bel hbl
    go_wp2
    go_step3
    clear q0 e0 e1 e2 e3 e4 e5 e6 e7
    have hJ : OfJ N R i 0 0 := .inl ⟨rfl, hR'.out, R64_0⟩
    obtain ⟨G, hG⟩ : ∃ G, G = w2.heap.size := ⟨_, rfl⟩
    have hsb : SBox G 0 0 (w2.alloc (.cells #[.int .i64 0, .int .i64 0] 109)) := by
      rw [hG]; exact ⟨by simp, by simp, by simp, by simp, by simp⟩
    have hbG : Below G w2 (w2.alloc (.cells #[.int .i64 0, .int .i64 0] 109)) := by
      rw [hG]; exact (Below.refl _ _).alloc (Nat.le_refl _) _
    generalize w2.alloc (.cells #[.int .i64 0, .int .i64 0] 109) = wr at *
    rw [← hG]
    clear hx0 hb2
    obtain ⟨q0', e0, e1, e2, e3, e4, e5, e6, e7⟩ := of_cells hx2 hcs'.out hbl hG hbG hin
    have hG' := Lib.hid hG
    clear hG
    have hin'' : (i : Int) < (n : Int) := by omega
    have hR7 := (hr.out i hin).num
    have hJ' := Lib.hid hJ
    have hkR := Lib.hid (show R64 0 from R64_0)
    clear hJ
    by_cases h11 : (N i).op = 11
    · have d11 : ((N i).op == 11) = true := by simpa using h11
      have hadd := Lib.hid (hJ'.out.add h11)
      have ha0 := (hch'.out.add hin h11).2.1
      clear h11
      obtain ⟨m, hm⟩ := Int.eq_ofNat_of_zero_le ha0.1
      rw [hm, Int.toNat_natCast] at hadd
      have hm' := Lib.hid hm
      have hmj : m < i := by omega
      rw [hm] at e2
      clear hm ha0
      go_wp2_with fail
      refine (Sadd_any G 0 0 (N i).num _ hsb hkR.out hR7).mono ?_
      rintro x w5 ⟨⟨v5, rfl⟩, hs5, hb5⟩
      go_wp2
      go_step3
      exact ⟨rfl, ⟨G, w2, m, _, _, _, _, _, _, _, _, _, _, _, _, _, _, _, _, _, _, _, _, _, _, _, _, _, _, _, _, _, _, _, _, _, _, _, _, _, _, _, _, _, _, _, _, _, _, rfl, hx2, hG'.out, by omega, hadd.out, hs5, hbG.trans hb5⟩⟩
    · have d11 : ((N i).op == 11) = false := by simpa using h11
      have d10' : True := trivial
      by_cases h10 : (N i).op = 10
      · have d10 : ((N i).op == 10) = true := by simpa using h10
        have hend := Lib.hid (hJ'.out.num h10)
        clear h10 h11
        go_wp2_with fail
        refine (Sadd_any G 0 0 (N i).num _ hsb hkR.out hR7).mono ?_
        rintro x w5 ⟨⟨v5, rfl⟩, hs5, hb5⟩
        have hbw := Lib.hid (of_below hx2 hG'.out hbG hb5)
        obtain ⟨k', er', hs5, hE⟩ : ∃ k' er', SBox G k' er' w5 ∧ OfE R 1 k' er' := ⟨_, _, hs5, hend.out⟩
        rcases hE with ⟨z1, z2⟩ | ⟨z1, z2⟩
        · subst z1
          obtain ⟨s0, s1, _, _, _⟩ := hs5
          have z2' := Lib.hid z2
          clear z2
          go_wp2
          go_quiet (fail)
          go_wp2
          simp only [Exit.jump]
          go_ret3
          exact ⟨_, _, _, rfl, OfT.ok hch'.out i hin rfl hso'.out 1 _ (by rw [← z2'.out]; exact hR'.out), below_drewN hbw.out _⟩
        · subst z1
          obtain ⟨s0, s1, _, _, _⟩ := hs5
          have z2' := Lib.hid z2
          clear z2
          go_wp2
          go_quiet (fail)
          go_wp2
          simp only [Exit.jump]
          go_ret3
          exact ⟨_, _, _, rfl, OfT.over hch'.out i hin rfl hso'.out (by rw [← z2'.out]; exact hR'.out), below_drewN hbw.out _⟩
      · have d10 : ((N i).op == 10) = false := by simpa using h10
        have hend := Lib.hid (hJ'.out.base h11 h10)
        have hbw := Lib.hid (of_below hx2 hG'.out hbG (Below.refl _ _))
        clear h10 h11
        obtain ⟨k', er', hsb', hE⟩ : ∃ k' er', SBox G k' er' wr ∧ OfE R i k' er' := ⟨_, _, hsb, hend.out⟩
        clear hsb hend
        rcases hE with ⟨z1, z2⟩ | ⟨z1, z2⟩
        · subst z1
          obtain ⟨s0, s1, _, _, _⟩ := hsb'
          have z2' := Lib.hid z2
          clear z2
          go_wp2
          go_quiet (fail)
          go_wp2
          simp only [Exit.jump]
          go_ret3
          exact ⟨_, _, _, rfl, OfT.ok hch'.out i hin rfl hso'.out i _ (by rw [← z2'.out]; exact hR'.out), below_drewN hbw.out _⟩
        · subst z1
          obtain ⟨s0, s1, _, _, _⟩ := hsb'
          have z2' := Lib.hid z2
          clear z2
          go_wp2
          go_quiet (fail)
          go_wp2
          simp only [Exit.jump]
          go_ret3
          exact ⟨_, _, _, rfl, OfT.over hch'.out i hin rfl hso'.out (by rw [← z2'.out]; exact hR'.out), below_drewN hbw.out _⟩
  · rintro a' wr ⟨G, w2, j, k, er, u8, u30, u31, u32, u33, u34, u35, u36, u37, u38, u39, u40, u41, u42, u43, u44, u45, u46, u47, u48, u49, u50, u51, u52, u53, u54, u55, u56, u57, u58, u59, u60, u61, u62, u63, u64, u65, u66, u67, u68, u69, u70, u71, u72, rfl, hx2, hG, hjn, hJ, hsb, hbG⟩
    obtain ⟨q0', e0, e1, e2, e3, e4, e5, e6, e7⟩ := of_cells hx2 hcs'.out hbl hG hbG hjn
    have hG' := Lib.hid hG
    clear hG
    have hjn' : (j : Int) < (n : Int) := by omega
    have hR7 := (hr.out j hjn).num
    have hJ' := Lib.hid hJ
    have hkR := Lib.hid hJ.R
    clear hJ
    by_cases h11 : (N j).op = 11
    · have d11 : ((N j).op == 11) = true := by simpa using h11
      have hadd := Lib.hid (hJ'.out.add h11)
      have ha0 := (hch'.out.add hjn h11).2.1
      clear h11
      obtain ⟨m, hm⟩ := Int.eq_ofNat_of_zero_le ha0.1
      rw [hm, Int.toNat_natCast] at hadd
      have hm' := Lib.hid hm
      have hmj : m < j := by omega
      rw [hm] at e2
      clear hm ha0
      go_wp2_with fail
      refine (Sadd_any G k er (N j).num _ hsb hkR.out hR7).mono ?_
      rintro x w5 ⟨⟨v5, rfl⟩, hs5, hb5⟩
      go_wp2
      go_step3
      exact ⟨rfl, ⟨G, w2, m, _, _, _, _, _, _, _, _, _, _, _, _, _, _, _, _, _, _, _, _, _, _, _, _, _, _, _, _, _, _, _, _, _, _, _, _, _, _, _, _, _, _, _, _, _, _, rfl, hx2, hG'.out, by omega, hadd.out, hs5, hbG.trans hb5⟩, by simp [ofMu, intOf]; omega⟩
    · have d11 : ((N j).op == 11) = false := by simpa using h11
      have d10' : True := trivial
      by_cases h10 : (N j).op = 10
      · have d10 : ((N j).op == 10) = true := by simpa using h10
        have hend := Lib.hid (hJ'.out.num h10)
        clear h10 h11
        go_wp2_with fail
        refine (Sadd_any G k er (N j).num _ hsb hkR.out hR7).mono ?_
        rintro x w5 ⟨⟨v5, rfl⟩, hs5, hb5⟩
        have hbw := Lib.hid (of_below hx2 hG'.out hbG hb5)
        obtain ⟨k', er', hs5, hE⟩ : ∃ k' er', SBox G k' er' w5 ∧ OfE R 1 k' er' := ⟨_, _, hs5, hend.out⟩
        rcases hE with ⟨z1, z2⟩ | ⟨z1, z2⟩
        · subst z1
          obtain ⟨s0, s1, _, _, _⟩ := hs5
          have z2' := Lib.hid z2
          clear z2
          go_wp2
          go_quiet (fail)
          go_wp2
          simp only [Exit.jump]
          go_ret3
          exact ⟨_, _, _, rfl, OfT.ok hch'.out i hin rfl hso'.out 1 _ (by rw [← z2'.out]; exact hR'.out), below_drewN hbw.out _⟩
        · subst z1
          obtain ⟨s0, s1, _, _, _⟩ := hs5
          have z2' := Lib.hid z2
          clear z2
          go_wp2
          go_quiet (fail)
          go_wp2
          simp only [Exit.jump]
          go_ret3
          exact ⟨_, _, _, rfl, OfT.over hch'.out i hin rfl hso'.out (by rw [← z2'.out]; exact hR'.out), below_drewN hbw.out _⟩
      · have d10 : ((N j).op == 10) = false := by simpa using h10
        have hend := Lib.hid (hJ'.out.base h11 h10)
        have hbw := Lib.hid (of_below hx2 hG'.out hbG (Below.refl _ _))
        clear h10 h11
        obtain ⟨k', er', hsb', hE⟩ : ∃ k' er', SBox G k' er' wr ∧ OfE R j k' er' := ⟨_, _, hsb, hend.out⟩
        clear hsb hend
        rcases hE with ⟨z1, z2⟩ | ⟨z1, z2⟩
        · subst z1
          obtain ⟨s0, s1, _, _, _⟩ := hsb'
          have z2' := Lib.hid z2
          clear z2
          go_wp2
          go_quiet (fail)
          go_wp2
          simp only [Exit.jump]
          go_ret3
          exact ⟨_, _, _, rfl, OfT.ok hch'.out i hin rfl hso'.out j _ (by rw [← z2'.out]; exact hR'.out), below_drewN hbw.out _⟩
        · subst z1
          obtain ⟨s0, s1, _, _, _⟩ := hsb'
          have z2' := Lib.hid z2
          clear z2
          go_wp2
          go_quiet (fail)
          go_wp2
          simp only [Exit.jump]
          go_ret3
          exact ⟨_, _, _, rfl, OfT.over hch'.out i hin rfl hso'.out (by rw [← z2'.out]; exact hR'.out), below_drewN hbw.out _⟩

theorem Of_any (v : Value) (n : Nat) (N : Nat → Nd) (id : Int) (w : World) (hv : NdsAt w v n N) (hn : n ≤ 1000000) (hid : R64 id) :
    Calls Try.prog 31 #[.agg #[v], .int .i64 id] w (OfPost n N id w) := by
  rcases Classical.em (CheckP n N) with hch | hch
  · by_cases hlo : id < 0
    · exact Of_lo v n N id w hv hn hid hch hlo
    · by_cases hhi : (n : Int) ≤ id
      · exact Of_hi v n N id w hv hn hid hch hlo hhi
      · by_cases hso : (N id.toNat).sort = 1
        · exact Of_main v n N id w hv hn hid hch (by omega) (by omega) hso
        · exact Of_sort v n N id w hv hn hid hch (by omega) (by omega) hso
  · exact Of_arg1 v n N id w hv hn hid hch
end Go.Proofs.Ytoppfcfalciibaa
