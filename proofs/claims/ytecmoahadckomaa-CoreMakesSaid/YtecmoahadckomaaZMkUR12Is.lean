/- core.Is. -/
import Derived.Test.YtecmoahadckomaaZOffE
import Derived.Test.YtecmoahadckomaaZOffBOffC
import Derived.Test.YtecmoahadckomaaZMkKMkLMkN
import Derived.Test.YtecmoahadckomaaZOffDOffGR11Of
namespace Go.Proofs.Ytecmoahadckomaa
open Go.RowKit Go.Maps
set_option maxRecDepth 100000

theorem OfT.uni {n : Nat} {N : Nat → Nd} {id b k er b' k' er' : Int} (h : OfT n N id b k er) (h' : OfT n N id b' k' er') : b = b' ∧ k = k' ∧ er = er' := by
  cases h with
  | arg h =>
    cases h' with
    | arg => exact ⟨rfl, rfl, rfl⟩
    | sort h1 i hi e => exact absurd ⟨h1, by omega, by omega⟩ h
    | over h1 i hi e => exact absurd ⟨h1, by omega, by omega⟩ h
    | ok h1 i hi e => exact absurd ⟨h1, by omega, by omega⟩ h
  | sort h1 i hi e hs =>
    cases h' with
    | arg h => exact absurd ⟨h1, by omega, by omega⟩ h
    | sort => exact ⟨rfl, rfl, rfl⟩
    | over _ j _ e' hs' => have : i = j := by omega
                           subst this; exact absurd hs' hs
    | ok _ j _ e' hs' => have : i = j := by omega
                         subst this; exact absurd hs' hs
  | over h1 i hi e hs ho =>
    cases h' with
    | arg h => exact absurd ⟨h1, by omega, by omega⟩ h
    | sort _ j _ e' hs' => have : i = j := by omega
                           subst this; exact absurd hs hs'
    | over => exact ⟨rfl, rfl, rfl⟩
    | ok _ j _ e' _ _ _ ho' =>
      have : i = j := by omega
      subst this; have := ofR_det ho ho'; cases this
  | ok h1 i hi e hs b k ho =>
    cases h' with
    | arg h => exact absurd ⟨h1, by omega, by omega⟩ h
    | sort _ j _ e' hs' => have : i = j := by omega
                           subst this; exact absurd hs hs'
    | over _ j _ e' _ ho' =>
      have : i = j := by omega
      subst this; have := ofR_det ho ho'; cases this
    | ok _ j _ e' _ b' k' ho' =>
      have : i = j := by omega
      subst this
      have := ofR_det ho ho'
      injection this with this
      injection this with e1 e2
      exact ⟨by omega, e2, rfl⟩
theorem CheckP.isA {n : Nat} {N : Nat → Nd} (h : CheckP n N) {i : Nat} (hi : i < n) (ho : (N i).op = 1 ∨ (N i).op = 6 ∨ (N i).op = 12) : 0 ≤ (N i).a0 ∧ (N i).a0 < i := by
  have hl : 0 < (N i).len := by
    rcases ho with e | e | e <;> rw [(h.all i hi).len (by rw [e]; decide), e] <;> decide
  have := h.argB hi (k := 0) hl
  exact ⟨this.1, this.2.1⟩
theorem CheckP.isB {n : Nat} {N : Nat → Nd} (h : CheckP n N) {i : Nat} (hi : i < n) (ho : (N i).op = 6 ∨ (N i).op = 12) : 0 ≤ (N i).a1 ∧ (N i).a1 < i := by
  have hl : 1 < (N i).len := by
    rcases ho with e | e <;> rw [(h.all i hi).len (by rw [e]; decide), e] <;> decide
  have := h.argB hi (k := 1) hl
  exact ⟨this.1, this.2.1⟩
def BaseQ (n : Nat) (N : Nat → Nd) (x : Int) : Prop := ∃ k, OfT n N x x k 0
structure KindOk (n : Nat) (N : Nat → Nd) (e : Nd) : Prop where
  kinds : e.op ≠ 4 ∧ e.op ≠ 5 ∧ e.op ≠ 8 ∧ e.op ≠ 9
  neg : e.op = 1 → (N e.a0.toNat).op ≠ 1
  eq : e.op = 6 → (N e.a0.toNat).sort ≠ 1 ∧ ((N e.a0.toNat).sort = 0 ∨ e.a0 ≠ e.a1)
  diff : e.op = 12 → BaseQ n N e.a0 ∧ BaseQ n N e.a1 ∧ e.a0 ≠ e.a1
def IsP (n : Nat) (N : Nat → Nd) : Prop := OrdP n N ∧ ∀ i, i < n → KindOk n N (N i)
noncomputable def isCB (n : Nat) (N : Nat → Nd) : Bool := @decide (IsP n N) (Classical.propDecidable _)
theorem isCB_yes {n : Nat} {N : Nat → Nd} (h : IsP n N) : isCB n N = true := by unfold isCB; exact @decide_eq_true _ (Classical.propDecidable _) h
theorem isCB_no {n : Nat} {N : Nat → Nd} (h : ¬ IsP n N) : isCB n N = false := by unfold isCB; exact @decide_eq_false _ (Classical.propDecidable _) h
def cIs (w : World) (A : Option Addr) (n c : Nat) : List (Nat × Nat × Value) := [(w.heap.size, 0, .slice A n c)]
set_option maxHeartbeats 16000000 in
theorem CIs_any (v : Value) (n : Nat) (N : Nat → Nd) (w : World) (hv : NdsAt w v n N) (hn : n ≤ 1000000) :
    Calls Try.prog 12 #[.agg #[v]] w fun z w' => z = .returned (.bool (isCB n N)) ∧ Below w.heap.size w w' := by
  have hv' := Lib.hid hv
  obtain ⟨A, c, rfl, -, -, hnd⟩ := hv
  have hx0 := Lib.hid ((Bx.nil w).one (.slice A n c) 24)
  have hCk := Lib.hid (Check_any (.slice A n c) n N _ (hv'.out.below hx0.out.bel) hn)
  obtain ⟨⟨q0, qz⟩, -⟩ := hx0.out.cells
  go_enter Try.func12, Try.ntmps12
  go_wp2_with fail
  refine hCk.out.mono ?_
  rintro e w1 ⟨rfl, hb1⟩
  have hx1 := Lib.hid (hx0.out.step hb1)
  clear hb1 hCk q0 qz hx0
  obtain ⟨⟨q0, qz⟩, -⟩ := hx1.out.cells
  rcases Classical.em (CheckP n N) with hch | hch
  case inr =>
    have hck : (checkT n N != 0) = true := by rw [check_not hch]; rfl
    have hF := Lib.hid (isCB_no (n := n) (N := N) (fun h => hch h.1.chk))
    clear hch
    go_wp2_with fail
    go_ret
    exact ⟨by rw [hF.out]; rfl, hx1.out.bel⟩
  have hck : (checkT n N != 0) = false := by rw [check_yes hch]; rfl
  have hch' := Lib.hid hch
  have h2 := hch.two
  have hOr := Lib.hid (Ordered_any (.slice A n c) n N w1 (hv'.out.below hx1.out.bel) hn)
  clear hch
  go_wp2_with fail
  refine hOr.out.mono ?_
  rintro e w2 ⟨rfl, hb2⟩
  have hx2 := Lib.hid (hx1.out.step hb2)
  clear hb2 hOr q0 qz hx1
  obtain ⟨⟨q0, qz⟩, -⟩ := hx2.out.cells
  by_cases hor : ordB n N = true
  case neg =>
    have hF := Lib.hid (isCB_no (n := n) (N := N) (fun h => hor (ordB_iff.2 h.1)))
    have hor : ordB n N = false := by simpa using hor
    rw [hor]
    clear hor
    go_wp2_with fail
    go_ret
    exact ⟨by rw [hF.out]; rfl, hx2.out.bel⟩
  rw [hor]
  have hor' := Lib.hid (ordB_iff.1 hor)
  clear hor
  obtain ⟨tb, to_, rfl, htb, hnd⟩ := hnd (by omega)
  have hnd' := Lib.hid hnd
  have hNR := Lib.hid hv'.out.ranges
  clear hnd
  go_wp2_with fail
  clear q0 qz hck
  go_loopw [25] (fun i wr => ∃ j : Nat, j ≤ n ∧ i = .int .i64 j ∧ Hid (∀ i, i < j → KindOk n N (N i)) ∧ Hid (Bx w [(w.heap.size, 0, .slice (some ⟨tb, to_, none⟩) n c)] wr)) (fun i _ => n - (intOf i).toNat)
  case atStart => exact ⟨0, Nat.zero_le _, rfl, fun i hi => absurd hi (Nat.not_lt_zero i), hx2.out⟩
  case round =>
  clear hx2
  obtain ⟨j, hj, rfl, hall, hx⟩ := hrel
  by_cases hlt : j < n
  case neg =>
    have i1 : decide ((j : Int) < (n : Int)) = false := decide_eq_false (by omega)
    obtain rfl : j = n := by omega
    have hF := Lib.hid (isCB_yes (n := j) (N := N) ⟨hor'.out, hall.out⟩)
    go_wp2_with fail
    go_ret
    exact ⟨by rw [hF.out]; rfl, hx.out.bel⟩
  have i1 : decide ((j : Int) < (n : Int)) = true := decide_eq_true (by omega)
  obtain ⟨n0, n1, n2, n3, n4, n5, n6, n7⟩ := (hnd'.out j hlt).keep (w' := wr) (fun k => hx.out.bel.cell (p := ⟨tb, k, none⟩) htb)
  have hst := Lib.hid (hch'.out.all j hlt)
  have hj0 : (0 : Int) ≤ (j : Int) := by omega
  have hjn : (j : Int) < (n : Int) := by omega
  have hbx := Lib.hid (ndRow wr (N j))
  have hx1 := Lib.hid (hx.out.step hbx.out.bel)
  obtain ⟨⟨b0, -⟩, -, ⟨b2, -⟩, ⟨b3, -⟩, -⟩ := hbx.out.cells
  simp only [Nat.zero_add, Nat.reduceAdd] at b2 b3
  have hmore := Lib.hid (fun (hk : KindOk n N (N j)) => (fun i hi => by
    by_cases e : i = j
    · rw [e]; exact hk
    · exact hall.out i (by omega) : ∀ i, i < j + 1 → KindOk n N (N i)))
  have hless := Lib.hid (fun (hk : ¬ KindOk n N (N j)) => isCB_no (n := n) (N := N) (fun h => hk (h.2 j hlt)))
  generalize hw1 : wr.alloc (.cells #[.int .i8 (N j).op, .int .i8 (N j).len, .int .i64 (N j).a0, .int .i64 (N j).a1, .int .i64 (N j).a2, .int .i64 (N j).sort, .int .i64 (N j).fn, .int .i64 (N j).num] 39) = w3 at *
  have hb2 : Hid (w3.drew.cell? ⟨wr.heap.size, 0, none⟩ = some (.int .i8 (N j).op)) := b0
  go_upto_region 6 with fail
  clear hw1 n0 n1 n2 n3 n4 n5 n6 n7
  go_quiet (fail)
  have hx4 := Lib.hid (hx1.out.drewN nq)
  have hN4 := Lib.hid (hv'.out.below hx4.out.bel)
  replace b0 : (w3.drewN nq).cell? ⟨wr.heap.size, 0, none⟩ = some (.int .i8 (N j).op) := b0
  replace b2 : (w3.drewN nq).cell? ⟨wr.heap.size, 2, none⟩ = some (.int .i64 (N j).a0) := b2
  replace b3 : (w3.drewN nq).cell? ⟨wr.heap.size, 3, none⟩ = some (.int .i64 (N j).a1) := b3
  generalize hw4 : w3.drewN nq = w4 at *
  clear hb2 hbx hx1 hx hw4
  obtain ⟨⟨q0, qz⟩, -⟩ := hx4.out.cells
  by_cases h4 : (N j).op = 4
  · have e4 : ((N j).op == 4) = true := by rw [h4]; rfl
    have hF := Lib.hid (hless.out fun h => h.kinds.1 h4)
    clear h4
    go_wp2_with fail
    go_ret
    exact ⟨by rw [hF.out]; rfl, hx4.out.bel⟩
  have e4 : ((N j).op == 4) = false := by simpa using h4
  by_cases h5 : (N j).op = 5
  · have e5 : ((N j).op == 5) = true := by rw [h5]; rfl
    have hF := Lib.hid (hless.out fun h => h.kinds.2.1 h5)
    clear h5
    go_wp2_with fail
    go_ret
    exact ⟨by rw [hF.out]; rfl, hx4.out.bel⟩
  have e5 : ((N j).op == 5) = false := by simpa using h5
  by_cases h8 : (N j).op = 8
  · have e8 : ((N j).op == 8) = true := by rw [h8]; rfl
    have hF := Lib.hid (hless.out fun h => h.kinds.2.2.1 h8)
    clear h8
    go_wp2_with fail
    go_ret
    exact ⟨by rw [hF.out]; rfl, hx4.out.bel⟩
  have e8 : ((N j).op == 8) = false := by simpa using h8
  by_cases h9 : (N j).op = 9
  · have e9 : ((N j).op == 9) = true := by rw [h9]; rfl
    have hF := Lib.hid (hless.out fun h => h.kinds.2.2.2 h9)
    clear h9
    go_wp2_with fail
    go_ret
    exact ⟨by rw [hF.out]; rfl, hx4.out.bel⟩
  have e9 : ((N j).op == 9) = false := by simpa using h9
  by_cases h1 : (N j).op = 1
  · have e1 : ((N j).op == 1) = true := by rw [h1]; rfl
    obtain ⟨ha0, haj⟩ := hch'.out.isA hlt (.inl h1)
    have hfa := Lib.hid (fun (e : (N (N j).a0.toNat).op = 1) => hless.out fun h => h.neg h1 e)
    have hfb := Lib.hid (fun (e : (N (N j).a0.toNat).op ≠ 1) => hmore.out ⟨⟨h4, h5, h8, h9⟩, fun _ => e, fun h => absurd (h1.symm.trans h) (by decide), fun h => absurd (h1.symm.trans h) (by decide)⟩)
    obtain ⟨a, haa⟩ : ∃ a : Nat, (N j).a0 = a := ⟨(N j).a0.toNat, by omega⟩
    have hav : (N j).a0.toNat = a := by omega
    rw [hav] at hfa hfb
    rw [haa] at ha0 haj b2 ⊢
    obtain ⟨m0, m1, m2, m3, m4, m5, m6, m7⟩ := (hnd'.out a (by omega)).keep (w' := w4) (fun k => hx4.out.bel.cell (p := ⟨tb, k, none⟩) htb)
    have z1 : (a : Int) < (n : Int) := by omega
    have hnn : ¬ (n ≤ a) := by omega
    clear h4 h5 h8 h9 h1 m1 m2 m3 m4 m5 m6 m7 haa hav
    by_cases hp : (N a).op = 1
    · have f1 : ((N a).op == 1) = true := by rw [hp]; rfl
      have hF := Lib.hid (hfa.out hp)
      clear hp
      go_wp2_with fail
      go_ret
      exact ⟨by rw [hF.out]; rfl, hx4.out.bel⟩
    have f1 : ((N a).op == 1) = false := by simpa using hp
    have hk := Lib.hid (hfb.out hp)
    clear hp
    go_wp2_with fail
    go_roundw
    case rel => exact ⟨j + 1, by omega, rfl, hk, hx4.out⟩
    case measure => simp [intOf]; omega
  have e1 : ((N j).op == 1) = false := by simpa using h1
  by_cases h6 : (N j).op = 6
  · have e6 : ((N j).op == 6) = true := by rw [h6]; rfl
    obtain ⟨ha0, haj⟩ := hch'.out.isA hlt (.inr (.inl h6))
    have hfa := Lib.hid (fun (e : ¬ ((N (N j).a0.toNat).sort ≠ 1 ∧ ((N (N j).a0.toNat).sort = 0 ∨ (N j).a0 ≠ (N j).a1))) => hless.out fun h => e (h.eq h6))
    have hfb := Lib.hid (fun (e : (N (N j).a0.toNat).sort ≠ 1 ∧ ((N (N j).a0.toNat).sort = 0 ∨ (N j).a0 ≠ (N j).a1)) => hmore.out ⟨⟨h4, h5, h8, h9⟩, fun h => absurd h h1, fun _ => e, fun h => absurd (h6.symm.trans h) (by decide)⟩)
    obtain ⟨a, haa⟩ : ∃ a : Nat, (N j).a0 = a := ⟨(N j).a0.toNat, by omega⟩
    have hav : (N j).a0.toNat = a := by omega
    rw [hav, haa] at hfa hfb
    rw [haa] at ha0 haj b2 ⊢
    obtain ⟨m0, m1, m2, m3, m4, m5, m6, m7⟩ := (hnd'.out a (by omega)).keep (w' := w4) (fun k => hx4.out.bel.cell (p := ⟨tb, k, none⟩) htb)
    have z1 : (a : Int) < (n : Int) := by omega
    have hnn : ¬ (n ≤ a) := by omega
    clear h4 h5 h8 h9 h1 h6 m0 m1 m2 m3 m4 m6 m7 haa hav
    generalize hcc : (N j).a1 = cc at *
    by_cases hp : (N a).sort = 1
    · have f1 : ((N a).sort == 1) = true := by rw [hp]; rfl
      have hF := Lib.hid (hfa.out fun h => h.1 hp)
      clear hp
      go_wp2_with fail
      go_ret
      exact ⟨by rw [hF.out]; rfl, hx4.out.bel⟩
    have f1 : ((N a).sort == 1) = false := by simpa using hp
    by_cases hq : (N a).sort = 0
    · have f2 : ((N a).sort != 0) = false := by rw [hq]; rfl
      have hk := Lib.hid (hfb.out ⟨hp, .inl hq⟩)
      clear hp hq
      go_wp2_with fail
      go_roundw
      case rel => exact ⟨j + 1, by omega, rfl, hk, hx4.out⟩
      case measure => simp [intOf]; omega
    have f2 : ((N a).sort != 0) = true := by simpa using hq
    by_cases hr : (a : Int) = cc
    · have f3 : ((a : Int) == cc) = true := by rw [hr]; simp
      have hF := Lib.hid (hfa.out fun h => by
        rcases h.2 with h | h
        · exact hq h
        · exact h hr)
      clear hp hq hr
      go_wp2_with fail
      go_ret
      exact ⟨by rw [hF.out]; rfl, hx4.out.bel⟩
    have f3 : ((a : Int) == cc) = false := by simpa using hr
    have hk := Lib.hid (hfb.out ⟨hp, .inr hr⟩)
    clear hp hq hr
    go_wp2_with fail
    go_roundw
    case rel => exact ⟨j + 1, by omega, rfl, hk, hx4.out⟩
    case measure => simp [intOf]; omega
  have e6 : ((N j).op == 6) = false := by simpa using h6
  by_cases h12 : (N j).op = 12
  · have e12 : ((N j).op == 12) = true := by rw [h12]; rfl
    obtain ⟨ha0, haj⟩ := hch'.out.isA hlt (.inr (.inr h12))
    obtain ⟨hb0, hbj⟩ := hch'.out.isB hlt (.inr h12)
    have hfa := Lib.hid (fun (e : ¬ (BaseQ n N (N j).a0 ∧ BaseQ n N (N j).a1 ∧ (N j).a0 ≠ (N j).a1)) => hless.out fun h => e (h.diff h12))
    have hfb := Lib.hid (fun (e : BaseQ n N (N j).a0 ∧ BaseQ n N (N j).a1 ∧ (N j).a0 ≠ (N j).a1) => hmore.out ⟨⟨h4, h5, h8, h9⟩, fun h => absurd h h1, fun h => absurd h h6, fun _ => e⟩)
    have hRa : R64 (N j).a0 := (hNR.out j hlt).a0
    have hRb : R64 (N j).a1 := (hNR.out j hlt).a1
    clear h4 h5 h8 h9 h1 h6 h12
    generalize hca : (N j).a0 = ca at *
    generalize hcb : (N j).a1 = cb at *
    have hOa := Lib.hid (Of_any (.slice (some ⟨tb, to_, none⟩) n c) n N ca w4 hN4.out hn hRa)
    go_wp2_with fail
    refine hOa.out.mono ?_
    rintro e w5 ⟨x, kx, ex, rfl, hOx, hb5⟩
    have hx5 := Lib.hid (hx4.out.step hb5)
    have hOx' := Lib.hid hOx
    have hN5 := hv'.out.below hx5.out.bel
    have hOb := Lib.hid (Of_any (.slice (some ⟨tb, to_, none⟩) n c) n N cb w5 hN5 hn hRb)
    clear hOa hx4 hN4 hN5 hb5 hOx q0 qz b0 b2 b3
    obtain ⟨⟨q0, qz⟩, -⟩ := hx5.out.cells
    go_wp2_with fail
    refine hOb.out.mono ?_
    rintro e w6 ⟨y, ky, ey, rfl, hOy, hb6⟩
    have hx6 := Lib.hid (hx5.out.step hb6)
    have hOy' := Lib.hid hOy
    clear hOb hx5 hb6 hOy q0 qz
    by_cases t1 : ex = 0
    case neg =>
      have u1 : (ex != 0) = true := by simpa using t1
      have hF := Lib.hid (hfa.out fun h => by
        obtain ⟨⟨k, h⟩, -, -⟩ := h
        exact t1 (hOx'.out.uni h).2.2)
      clear t1
      go_wp2_with fail
      go_ret
      exact ⟨by rw [hF.out]; rfl, hx6.out.bel⟩
    have u1 : (ex != 0) = false := by rw [t1]; rfl
    by_cases t2 : ey = 0
    case neg =>
      have u2 : (ey != 0) = true := by simpa using t2
      have hF := Lib.hid (hfa.out fun h => by
        obtain ⟨-, ⟨k, h⟩, -⟩ := h
        exact t2 (hOy'.out.uni h).2.2)
      clear t1 t2
      go_wp2_with fail
      go_ret
      exact ⟨by rw [hF.out]; rfl, hx6.out.bel⟩
    have u2 : (ey != 0) = false := by rw [t2]; rfl
    by_cases t3 : x = ca
    case neg =>
      have u3 : (x != ca) = true := by simpa using t3
      have hF := Lib.hid (hfa.out fun h => by
        obtain ⟨⟨k, h⟩, -, -⟩ := h
        exact t3 (hOx'.out.uni h).1)
      clear t1 t2 t3
      go_wp2_with fail
      go_ret
      exact ⟨by rw [hF.out]; rfl, hx6.out.bel⟩
    have u3 : (x != ca) = false := by rw [t3]; simp
    by_cases t4 : y = cb
    case neg =>
      have u4 : (y != cb) = true := by simpa using t4
      have hF := Lib.hid (hfa.out fun h => by
        obtain ⟨-, ⟨k, h⟩, -⟩ := h
        exact t4 (hOy'.out.uni h).1)
      clear t1 t2 t3 t4
      go_wp2_with fail
      go_ret
      exact ⟨by rw [hF.out]; rfl, hx6.out.bel⟩
    have u4 : (y != cb) = false := by rw [t4]; simp
    by_cases t5 : ca = cb
    · have u5 : (ca == cb) = true := by rw [t5]; simp
      have hF := Lib.hid (hfa.out fun h => h.2.2 t5)
      clear t1 t2 t3 t4 t5
      go_wp2_with fail
      go_ret
      exact ⟨by rw [hF.out]; rfl, hx6.out.bel⟩
    have u5 : (ca == cb) = false := by simpa using t5
    have hk := Lib.hid (hfb.out ⟨⟨kx, by have := hOx'.out; rw [t1, t3] at this; exact this⟩, ⟨ky, by have := hOy'.out; rw [t2, t4] at this; exact this⟩, t5⟩)
    clear t1 t2 t3 t4 t5
    go_wp2_with fail
    go_roundw
    case rel => exact ⟨j + 1, by omega, rfl, hk, hx6.out⟩
    case measure => simp [intOf]; omega
  have e12 : ((N j).op == 12) = false := by simpa using h12
  have hk := Lib.hid (hmore.out ⟨⟨h4, h5, h8, h9⟩, fun h => absurd h h1, fun h => absurd h h6, fun h => absurd h h12⟩)
  clear h4 h5 h8 h9 h1 h6 h12
  go_wp2_with fail
  go_roundw
  case rel => exact ⟨j + 1, by omega, rfl, hk, hx4.out⟩
  case measure => simp [intOf]; omega
end Go.Proofs.Ytecmoahadckomaa

namespace Go.Proofs.Ytecmoahadckomaa
open Go.RowKit Go.Maps
set_option maxRecDepth 100000

noncomputable def kindB (n : Nat) (N : Nat → Nd) (e : Nd) : Bool := @decide (KindOk n N e) (Classical.propDecidable _)
theorem kindB_yes {n : Nat} {N : Nat → Nd} {e : Nd} (h : KindOk n N e) : kindB n N e = true := by unfold kindB; exact @decide_eq_true _ (Classical.propDecidable _) h
theorem kindB_no {n : Nat} {N : Nat → Nd} {e : Nd} (h : ¬ KindOk n N e) : kindB n N e = false := by unfold kindB; exact @decide_eq_false _ (Classical.propDecidable _) h
set_option maxHeartbeats 8000000 in
theorem R12kinds_any (v : Value) (n : Nat) (N : Nat → Nd) (j : Nat) (w : World) (hv : NdsAt w v n N) (hn : n ≤ 1000000) (hc : CheckP n N) (hj : j < n) :
    Calls Try.prog 28 #[.agg #[v], .int .i64 j] w fun z w' => z = .returned (.bool (kindB n N (N j))) ∧ Below w.heap.size w w' := by
  have hv' := Lib.hid hv
  have hch' := Lib.hid hc
  obtain ⟨A, c, rfl, -, -, hnd⟩ := hv
  obtain ⟨tb, to_, rfl, htb, hnd⟩ := hnd (by omega)
  have hnd' := Lib.hid hnd
  have hNR := Lib.hid hv'.out.ranges
  have hx0 := Lib.hid ((Bx.nil w).one (.slice (some ⟨tb, to_, none⟩) n c) 24)
  obtain ⟨⟨q0, qz⟩, -⟩ := hx0.out.cells
  have nd := fun k => hx0.out.bel.cell (p := ⟨tb, k, none⟩) htb
  obtain ⟨n0, n1, n2, n3, n4, n5, n6, n7⟩ := (hnd j hj).keep (w' := w.alloc (.cells #[.slice (some ⟨tb, to_, none⟩) n c] 24)) nd
  have hj0 : (0 : Int) ≤ (j : Int) := by omega
  have hjn : (j : Int) < (n : Int) := by omega
  have hnn : ¬ (n ≤ j) := by omega
  clear hnd nd hc
  have hx3 := Lib.hid ((hx0.out.row #[.int .i8 (N j).op, .int .i8 (N j).len, .int .i64 (N j).a0, .int .i64 (N j).a1, .int .i64 (N j).a2, .int .i64 (N j).sort, .int .i64 (N j).fn, .int .i64 (N j).num] 39).row #[.int .i64 (N j).a0, .int .i64 (N j).a1, .int .i64 (N j).a2] 37)
  simp only [rowK, List.cons_append, List.nil_append, World.size_alloc] at hx3
  obtain ⟨⟨a0, -⟩, ⟨a1, -⟩, ⟨a2, -⟩, -⟩ := hx3.out.cells
  simp only [Nat.zero_add, Nat.reduceAdd] at a1 a2
  have nd3 := fun k => hx3.out.bel.cell (p := ⟨tb, k, none⟩) htb
  generalize hcop : (N j).op = cop at *
  have hEq : kindB n N (N j) = kindB n N (N j) := rfl
  by_cases h4 : cop = 4
  · have e4 : (cop == 4) = true := by rw [h4]; rfl
    have hF := Lib.hid (kindB_no (n := n) (N := N) (e := N j) fun h => h.kinds.1 (hcop.trans h4))
    clear h4 nd3
    go_enter Try.func28, Try.ntmps28
    go_wp2_with fail
    go_ret
    exact ⟨by rw [hF.out]; rfl, hx3.out.bel⟩
  have e4 : (cop == 4) = false := by simpa using h4
  by_cases h5 : cop = 5
  · have e5 : (cop == 5) = true := by rw [h5]; rfl
    have hF := Lib.hid (kindB_no (n := n) (N := N) (e := N j) fun h => h.kinds.2.1 (hcop.trans h5))
    clear h5 nd3
    go_enter Try.func28, Try.ntmps28
    go_wp2_with fail
    go_ret
    exact ⟨by rw [hF.out]; rfl, hx3.out.bel⟩
  have e5 : (cop == 5) = false := by simpa using h5
  by_cases h8 : cop = 8
  · have e8 : (cop == 8) = true := by rw [h8]; rfl
    have hF := Lib.hid (kindB_no (n := n) (N := N) (e := N j) fun h => h.kinds.2.2.1 (hcop.trans h8))
    clear h8 nd3
    go_enter Try.func28, Try.ntmps28
    go_wp2_with fail
    go_ret
    exact ⟨by rw [hF.out]; rfl, hx3.out.bel⟩
  have e8 : (cop == 8) = false := by simpa using h8
  by_cases h9 : cop = 9
  · have e9 : (cop == 9) = true := by rw [h9]; rfl
    have hF := Lib.hid (kindB_no (n := n) (N := N) (e := N j) fun h => h.kinds.2.2.2 (hcop.trans h9))
    clear h9 nd3
    go_enter Try.func28, Try.ntmps28
    go_wp2_with fail
    go_ret
    exact ⟨by rw [hF.out]; rfl, hx3.out.bel⟩
  have e9 : (cop == 9) = false := by simpa using h9
  have hks : (N j).op ≠ 4 ∧ (N j).op ≠ 5 ∧ (N j).op ≠ 8 ∧ (N j).op ≠ 9 := by rw [hcop]; exact ⟨h4, h5, h8, h9⟩
  clear h4 h5 h8 h9
  by_cases h1 : cop = 1
  · have e1 : (cop == 1) = true := by rw [h1]; rfl
    have hop := hcop.trans h1
    obtain ⟨ha0, haj⟩ := hch'.out.isA hj (.inl hop)
    have hfa := Lib.hid (fun (e : (N (N j).a0.toNat).op = 1) => kindB_no (n := n) (N := N) (e := N j) fun h => h.neg hop e)
    have hfb := Lib.hid (fun (e : (N (N j).a0.toNat).op ≠ 1) => kindB_yes (n := n) (N := N) (e := N j) ⟨hks, fun _ => e, fun h => absurd (hop.symm.trans h) (by decide), fun h => absurd (hop.symm.trans h) (by decide)⟩)
    obtain ⟨a, haa⟩ : ∃ a : Nat, (N j).a0 = a := ⟨(N j).a0.toNat, by omega⟩
    have hav : (N j).a0.toNat = a := by omega
    rw [hav] at hfa hfb
    rw [haa] at ha0 haj a0 a1 a2 nd3 n2 hx3
    obtain ⟨m0, m1, m2, m3, m4, m5, m6, m7⟩ := (hnd'.out a (by omega)).keep nd3
    have z1 : (a : Int) < (n : Int) := by omega
    have hna : ¬ (n ≤ a) := by omega
    clear h1 hop m1 m2 m3 m4 m5 m6 m7 hav nd3
    by_cases hp : (N a).op = 1
    · have f1 : ((N a).op != 1) = false := by rw [hp]; rfl
      have hF := Lib.hid (hfa.out hp)
      clear hp
      go_enter Try.func28, Try.ntmps28
      go_wp2_with fail
      go_ret
      exact ⟨by rw [hF.out]; rfl, hx3.out.bel⟩
    have f1 : ((N a).op != 1) = true := by simpa using hp
    have hF := Lib.hid (hfb.out hp)
    clear hp
    go_enter Try.func28, Try.ntmps28
    go_wp2_with fail
    go_ret
    exact ⟨by rw [hF.out]; rfl, hx3.out.bel⟩
  have e1 : (cop == 1) = false := by simpa using h1
  by_cases h6 : cop = 6
  · have e6 : (cop == 6) = true := by rw [h6]; rfl
    have hop := hcop.trans h6
    obtain ⟨ha0, haj⟩ := hch'.out.isA hj (.inr (.inl hop))
    have hfa := Lib.hid (fun (e : ¬ ((N (N j).a0.toNat).sort ≠ 1 ∧ ((N (N j).a0.toNat).sort = 0 ∨ (N j).a0 ≠ (N j).a1))) => kindB_no (n := n) (N := N) (e := N j) fun h => e (h.eq hop))
    have hfb := Lib.hid (fun (e : (N (N j).a0.toNat).sort ≠ 1 ∧ ((N (N j).a0.toNat).sort = 0 ∨ (N j).a0 ≠ (N j).a1)) => kindB_yes (n := n) (N := N) (e := N j) ⟨hks, fun h => absurd (hop.symm.trans h) (by decide), fun _ => e, fun h => absurd (hop.symm.trans h) (by decide)⟩)
    obtain ⟨a, haa⟩ : ∃ a : Nat, (N j).a0 = a := ⟨(N j).a0.toNat, by omega⟩
    have hav : (N j).a0.toNat = a := by omega
    rw [hav, haa] at hfa hfb
    rw [haa] at ha0 haj a0 a1 a2 nd3 n2 hx3
    obtain ⟨m0, m1, m2, m3, m4, m5, m6, m7⟩ := (hnd'.out a (by omega)).keep nd3
    have z1 : (a : Int) < (n : Int) := by omega
    have hna : ¬ (n ≤ a) := by omega
    clear h1 h6 hop m0 m1 m2 m3 m4 m6 m7 hav nd3
    by_cases hp : (N a).sort = 1
    · have f1 : ((N a).sort != 1) = false := by rw [hp]; rfl
      have hF := Lib.hid (hfa.out fun h => h.1 hp)
      clear hp
      go_enter Try.func28, Try.ntmps28
      go_wp2_with fail
      go_ret
      exact ⟨by rw [hF.out]; rfl, hx3.out.bel⟩
    have f1 : ((N a).sort != 1) = true := by simpa using hp
    by_cases hq : (N a).sort = 0
    · have f2 : ((N a).sort == 0) = true := by rw [hq]; rfl
      have hF := Lib.hid (hfb.out ⟨hp, .inl hq⟩)
      clear hp hq
      go_enter Try.func28, Try.ntmps28
      go_wp2_with fail
      go_ret
      exact ⟨by rw [hF.out]; rfl, hx3.out.bel⟩
    have f2 : ((N a).sort == 0) = false := by simpa using hq
    by_cases hr : (a : Int) = (N j).a1
    · have f3 : ((a : Int) != (N j).a1) = false := by rw [← hr]; simp
      have hF := Lib.hid (hfa.out fun h => by
        rcases h.2 with h | h
        · exact hq h
        · exact h hr)
      clear hp hq hr
      go_enter Try.func28, Try.ntmps28
      go_wp2_with fail
      go_ret
      exact ⟨by rw [hF.out]; rfl, hx3.out.bel⟩
    have f3 : ((a : Int) != (N j).a1) = true := by simpa using hr
    have hF := Lib.hid (hfb.out ⟨hp, .inr hr⟩)
    clear hp hq hr
    go_enter Try.func28, Try.ntmps28
    go_wp2_with fail
    go_ret
    exact ⟨by rw [hF.out]; rfl, hx3.out.bel⟩
  have e6 : (cop == 6) = false := by simpa using h6
  by_cases h12 : cop = 12
  case neg =>
    have e12 : (cop == 12) = false := by simpa using h12
    have hF := Lib.hid (kindB_yes (n := n) (N := N) (e := N j) ⟨hks, fun h => absurd (hcop.symm.trans h) h1, fun h => absurd (hcop.symm.trans h) h6, fun h => absurd (hcop.symm.trans h) h12⟩)
    clear h1 h6 h12 nd3
    go_enter Try.func28, Try.ntmps28
    go_wp2_with fail
    go_ret
    exact ⟨by rw [hF.out]; rfl, hx3.out.bel⟩
  have e12 : (cop == 12) = true := by rw [h12]; rfl
  have hop := hcop.trans h12
  have hfa := Lib.hid (fun (e : ¬ (BaseQ n N (N j).a0 ∧ BaseQ n N (N j).a1 ∧ (N j).a0 ≠ (N j).a1)) => kindB_no (n := n) (N := N) (e := N j) fun h => e (h.diff hop))
  have hfb := Lib.hid (fun (e : BaseQ n N (N j).a0 ∧ BaseQ n N (N j).a1 ∧ (N j).a0 ≠ (N j).a1) => kindB_yes (n := n) (N := N) (e := N j) ⟨hks, fun h => absurd (hop.symm.trans h) (by decide), fun h => absurd (hop.symm.trans h) (by decide), fun _ => e⟩)
  have hRa : R64 (N j).a0 := (hNR.out j hj).a0
  have hRb : R64 (N j).a1 := (hNR.out j hj).a1
  clear h1 h6 h12 hop nd3
  have hOa := Lib.hid (R11Of_any (.slice (some ⟨tb, to_, none⟩) n c) n N (N j).a0 _ (hv'.out.below hx3.out.bel) hn hRa)
  go_enter Try.func28, Try.ntmps28
  go_wp2_with fail
  refine hOa.out.mono ?_
  rintro e w5 ⟨x, kx, ex, rfl, hOx, hb5⟩
  have hx5 := Lib.hid (hx3.out.step hb5)
  have hOx' := Lib.hid hOx
  have hN5 := hv'.out.below hx5.out.bel
  have hOb := Lib.hid (R11Of_any (.slice (some ⟨tb, to_, none⟩) n c) n N (N j).a1 w5 hN5 hn hRb)
  clear hOa hN5 hb5 hOx q0 qz a0 a1 a2 n0 n1 n2 n3 n4 n5 n6 n7 hx3 hx0
  obtain ⟨⟨a0, -⟩, ⟨a1, -⟩, ⟨a2, -⟩, -, -, -, -, -, -, -, -, ⟨q0, -⟩, -⟩ := hx5.out.cells
  simp only [Nat.zero_add, Nat.reduceAdd] at a1 a2
  go_wp2_with fail
  refine hOb.out.mono ?_
  rintro e w6 ⟨y, ky, ey, rfl, hOy, hb6⟩
  have hx6 := Lib.hid (hx5.out.step hb6)
  have hOy' := Lib.hid hOy
  clear hOb hb6 hOy a0 a1 a2 q0 hx5
  obtain ⟨⟨a0, -⟩, ⟨a1, -⟩, ⟨a2, -⟩, -⟩ := hx6.out.cells
  simp only [Nat.zero_add, Nat.reduceAdd] at a1 a2
  by_cases t1 : ex = 0
  case neg =>
    have u1 : (ex == 0) = false := by simpa using t1
    have hF := Lib.hid (hfa.out fun h => by
      obtain ⟨⟨k, h⟩, -, -⟩ := h
      exact t1 (hOx'.out.uni h).2.2)
    clear t1
    go_wp2_with fail
    go_ret
    exact ⟨by rw [hF.out]; rfl, hx6.out.bel⟩
  have u1 : (ex == 0) = true := by rw [t1]; rfl
  by_cases t2 : ey = 0
  case neg =>
    have u2 : (ey == 0) = false := by simpa using t2
    have hF := Lib.hid (hfa.out fun h => by
      obtain ⟨-, ⟨k, h⟩, -⟩ := h
      exact t2 (hOy'.out.uni h).2.2)
    clear t1 t2
    go_wp2_with fail
    go_ret
    exact ⟨by rw [hF.out]; rfl, hx6.out.bel⟩
  have u2 : (ey == 0) = true := by rw [t2]; rfl
  by_cases t3 : x = (N j).a0
  case neg =>
    have u3 : (x == (N j).a0) = false := by simpa using t3
    have hF := Lib.hid (hfa.out fun h => by
      obtain ⟨⟨k, h⟩, -, -⟩ := h
      exact t3 (hOx'.out.uni h).1)
    clear t1 t2 t3
    go_wp2_with fail
    go_ret
    exact ⟨by rw [hF.out]; rfl, hx6.out.bel⟩
  have u3 : (x == (N j).a0) = true := by simpa using t3
  by_cases t4 : y = (N j).a1
  case neg =>
    have u4 : (y == (N j).a1) = false := by simpa using t4
    have hF := Lib.hid (hfa.out fun h => by
      obtain ⟨-, ⟨k, h⟩, -⟩ := h
      exact t4 (hOy'.out.uni h).1)
    clear t1 t2 t3 t4
    go_wp2_with fail
    go_ret
    exact ⟨by rw [hF.out]; rfl, hx6.out.bel⟩
  have u4 : (y == (N j).a1) = true := by simpa using t4
  by_cases t5 : x = y
  · have u5 : (x != y) = false := by rw [t5]; simp
    have hF := Lib.hid (hfa.out fun h => h.2.2 (by rw [← t3, ← t4]; exact t5))
    clear t1 t2 t3 t4 t5
    go_wp2_with fail
    go_ret
    exact ⟨by rw [hF.out]; rfl, hx6.out.bel⟩
  have u5 : (x != y) = true := by simpa using t5
  have hF := Lib.hid (hfb.out ⟨⟨kx, by have := hOx'.out; rw [t1, t3] at this; exact this⟩, ⟨ky, by have := hOy'.out; rw [t2, t4] at this; exact this⟩, by rw [← t3, ← t4]; exact t5⟩)
  clear t1 t2 t3 t4 t5
  go_wp2_with fail
  go_ret
  exact ⟨by rw [hF.out]; rfl, hx6.out.bel⟩
set_option maxHeartbeats 8000000 in
theorem R12Is_any (v : Value) (n : Nat) (N : Nat → Nd) (w : World) (hv : NdsAt w v n N) (hn : n ≤ 1000000) :
    Calls Try.prog 13 #[.agg #[v]] w fun z w' => z = .returned (.bool (isCB n N)) ∧ Below w.heap.size w w' := by
  have hv' := Lib.hid hv
  obtain ⟨A, c, rfl, -, -, hnd⟩ := hv
  have hx0 := Lib.hid ((Bx.nil w).one (.slice A n c) 24)
  have hCk := Lib.hid (RCheck_any (.slice A n c) n N _ (hv'.out.below hx0.out.bel) hn)
  obtain ⟨⟨q0, qz⟩, -⟩ := hx0.out.cells
  go_enter Try.func13, Try.ntmps13
  go_wp2_with fail
  refine hCk.out.mono ?_
  rintro e w1 ⟨rfl, hb1⟩
  have hx1 := Lib.hid (hx0.out.step hb1)
  clear hb1 hCk q0 qz hx0
  obtain ⟨⟨q0, qz⟩, -⟩ := hx1.out.cells
  rcases Classical.em (CheckP n N) with hch | hch
  case inr =>
    have hck : (checkT n N != 0) = true := by rw [check_not hch]; rfl
    have hF := Lib.hid (isCB_no (n := n) (N := N) (fun h => hch h.1.chk))
    clear hch
    go_wp2_with fail
    go_ret
    exact ⟨by rw [hF.out]; rfl, hx1.out.bel⟩
  have hck : (checkT n N != 0) = false := by rw [check_yes hch]; rfl
  have hch' := Lib.hid hch
  have h2 := hch.two
  have hOr := Lib.hid (ROrdered_any (.slice A n c) n N w1 (hv'.out.below hx1.out.bel) hn)
  clear hch
  go_wp2_with fail
  refine hOr.out.mono ?_
  rintro e w2 ⟨rfl, hb2⟩
  have hx2 := Lib.hid (hx1.out.step hb2)
  clear hb2 hOr q0 qz hx1
  obtain ⟨⟨q0, qz⟩, -⟩ := hx2.out.cells
  by_cases hor : ordB n N = true
  case neg =>
    have hF := Lib.hid (isCB_no (n := n) (N := N) (fun h => hor (ordB_iff.2 h.1)))
    have hor : ordB n N = false := by simpa using hor
    rw [hor]
    clear hor
    go_wp2_with fail
    go_ret
    exact ⟨by rw [hF.out]; rfl, hx2.out.bel⟩
  rw [hor]
  have hor' := Lib.hid (ordB_iff.1 hor)
  clear hor
  go_wp2_with fail
  clear q0 qz hck
  go_loopw [3] (fun i wr => ∃ j : Nat, j ≤ n ∧ i = .int .i64 j ∧ Hid (∀ i, i < j → KindOk n N (N i)) ∧ Hid (Bx w [(w.heap.size, 0, .slice A n c)] wr)) (fun i _ => n - (intOf i).toNat)
  case atStart => exact ⟨0, Nat.zero_le _, rfl, fun i hi => absurd hi (Nat.not_lt_zero i), hx2.out⟩
  case round =>
  clear hx2
  obtain ⟨j, hj, rfl, hall, hx⟩ := hrel
  obtain ⟨⟨q0, qz⟩, -⟩ := hx.out.cells
  by_cases hlt : j < n
  case neg =>
    have i1 : decide ((j : Int) < (n : Int)) = false := decide_eq_false (by omega)
    have hF := Lib.hid (isCB_yes (n := n) (N := N) ⟨hor'.out, fun i hi => hall.out i (by omega)⟩)
    go_wp2_with fail
    go_ret
    exact ⟨by rw [hF.out]; rfl, hx.out.bel⟩
  have i1 : decide ((j : Int) < (n : Int)) = true := decide_eq_true (by omega)
  have hK := Lib.hid (R12kinds_any (.slice A n c) n N j wr (hv'.out.below hx.out.bel) hn hch'.out hlt)
  go_wp2_with fail
  refine hK.out.mono ?_
  rintro e w5 ⟨rfl, hb5⟩
  have hx5 := Lib.hid (hx.out.step hb5)
  rcases Classical.em (KindOk n N (N j)) with hk | hk
  · rw [kindB_yes hk]
    have hmore : Hid (∀ i, i < j + 1 → KindOk n N (N i)) := fun i hi => by
      by_cases e : i = j
      · rw [e]; exact hk
      · exact hall.out i (by omega)
    clear hk
    go_wp2_with fail
    go_roundw
    case rel => exact ⟨j + 1, by omega, rfl, hmore, hx5.out⟩
    case measure => simp [intOf]; omega
  · rw [kindB_no hk]
    have hF := Lib.hid (isCB_no (n := n) (N := N) (fun h => hk (h.2 j hlt)))
    clear hk
    go_wp2_with fail
    go_ret
    exact ⟨by rw [hF.out]; rfl, hx5.out.bel⟩
end Go.Proofs.Ytecmoahadckomaa
