/- Plain: what the document's implication comes to (gantrylaw12.wakes). No program in sight. -/
import Derived.Test.YtecmoahadckomaaZMkTMkXMoA
import Derived.Test.YtecmoahadckomaaZMkUR12Is
import Derived.Test.YtecmoahadckomaaZMkOMkQ
import Derived.Test.YtecmoahadckomaaZTermETermFNewY
namespace Go.Proofs.Ytecmoahadckomaa
open Go.RowKit
set_option maxRecDepth 100000

def ap0 : Nd := ⟨13, 0, 0, 0, 0, 0, 0, 0⟩
def ap1 : Nd := ⟨13, 0, 0, 0, 0, 0, 1, 0⟩
def im5 : Nd := ⟨5, 2, 2, 3, 0, 0, 0, 0⟩
def nt4 : Nd := ⟨1, 1, 2, 0, 0, 0, 0, 0⟩
def or5 : Nd := ⟨3, 2, 4, 3, 0, 0, 0, 0⟩
def n3 : Nat → Nd := extN newN 2 ap0
def n4 : Nat → Nd := extN n3 3 ap1
def t5 : Nat → Nd := extN n4 4 im5
def c5 : Nat → Nd := extN n4 4 nt4
def c6 : Nat → Nd := extN c5 5 or5
theorem stands_lit {e : Nd} {at_ : Int} (h1 : ar e.op ≠ -2) (h2 : 0 ≤ ar e.op → e.len = ar e.op) (h3 : 0 ≤ e.len ∧ e.len ≤ 3) (h4 : e.sort = 0) (h5 : e.fn = 0 ∨ e.fn = 1) (h6 : e.fn ≠ 0 → e.op = 13) (h7 : e.op ≠ 10 ∧ e.op ≠ 11 ∧ e.op ≠ 12) (h8 : e.num = 0)
    (ha : ∀ i : Nat, i < 3 → ((i : Int) < e.len → 0 ≤ e.arg i ∧ e.arg i < at_) ∧ (e.len ≤ (i : Int) → e.arg i = 0)) : StandsP e at_ :=
  ⟨h1, h2, h3.1, h3.2, by omega, by omega, ⟨(ha 0 (by omega)).1, (ha 0 (by omega)).2⟩, ⟨(ha 1 (by omega)).1, (ha 1 (by omega)).2⟩, ⟨(ha 2 (by omega)).1, (ha 2 (by omega)).2⟩, by omega, by omega, h6, fun h => by omega, fun _ _ _ => h8⟩
theorem lt3 {P : Nat → Prop} (h0 : P 0) (h1 : P 1) (h2 : P 2) : ∀ i, i < 3 → P i := fun i hi => by
  have : i = 0 ∨ i = 1 ∨ i = 2 := by omega
  rcases this with rfl | rfl | rfl
  · exact h0
  · exact h1
  · exact h2
theorem stands_ap0 : StandsP ap0 2 := stands_lit (by decide) (by decide) (by decide) rfl (by decide) (by decide) (by decide) rfl (lt3 (by decide) (by decide) (by decide))
theorem stands_ap1 : StandsP ap1 3 := stands_lit (by decide) (by decide) (by decide) rfl (by decide) (by decide) (by decide) rfl (lt3 (by decide) (by decide) (by decide))
theorem stands_im5 : StandsP im5 4 := stands_lit (by decide) (by decide) (by decide) rfl (by decide) (by decide) (by decide) rfl (lt3 (by decide) (by decide) (by decide))
theorem stands_nt4 : StandsP nt4 4 := stands_lit (by decide) (by decide) (by decide) rfl (by decide) (by decide) (by decide) rfl (lt3 (by decide) (by decide) (by decide))
theorem stands_or5 : StandsP or5 5 := stands_lit (by decide) (by decide) (by decide) rfl (by decide) (by decide) (by decide) rfl (lt3 (by decide) (by decide) (by decide))
theorem ne_ap0 : ∀ i, i < 2 → newN i ≠ ap0 := by decide
theorem ne_ap1 : ∀ i, i < 3 → n3 i ≠ ap1 := by decide
theorem ne_im5 : ∀ i, i < 4 → n4 i ≠ im5 := by decide
theorem ne_nt4 : ∀ i, i < 4 → n4 i ≠ nt4 := by decide
theorem ne_or5 : ∀ i, i < 5 → c5 i ≠ or5 := by decide
theorem check_n3 : CheckP 3 n3 := check_new.ext stands_ap0 ne_ap0
theorem check_n4 : CheckP 4 n4 := check_n3.ext stands_ap1 ne_ap1
theorem check_t5 : CheckP 5 t5 := check_n4.ext stands_im5 ne_im5
theorem check_c5 : CheckP 5 c5 := check_n4.ext stands_nt4 ne_nt4
theorem check_c6 : CheckP 6 c6 := check_c5.ext stands_or5 ne_or5
theorem t5_not : isCB 5 t5 = false := isCB_no fun h => (h.2 4 (by decide)).kinds.2.1 (by decide)
theorem c6_is : isCB 6 c6 = true := by
  refine isCB_yes ⟨⟨check_c6, fun i hi h => ?_⟩, fun i hi => ?_⟩
  · have : ∀ i, i < 6 → (c6 i).op ≠ 11 := by decide
    exact absurd h (this i hi)
  · have k : ∀ i, i < 6 → (c6 i).op ≠ 4 ∧ (c6 i).op ≠ 5 ∧ (c6 i).op ≠ 8 ∧ (c6 i).op ≠ 9 ∧ (c6 i).op ≠ 6 ∧ (c6 i).op ≠ 12 ∧ ((c6 i).op = 1 → (c6 (c6 i).a0.toNat).op ≠ 1) := by decide
    obtain ⟨k1, k2, k3, k4, k5, k6, k7⟩ := k i hi
    exact ⟨⟨k1, k2, k3, k4⟩, k7, fun h => absurd h k5, fun h => absurd h k6⟩
theorem NodeR.new {most : Int} {s : CSt} {nd : Nd} {s' : CSt} {x : Int} (h : NodeR most s nd s' x) (he : s.e = 0) (hc : CheckP s.n s.N) (hs : StandsP nd s.n) (hne : ∀ i, i < s.n → s.N i ≠ nd) (hm : (s.n : Int) < most) :
    s' = ⟨s.n + 1, extN s.N s.n nd, 0⟩ ∧ x = s.n := by
  cases h with
  | err h => exact absurd he h
  | put _ m M x er hp =>
    obtain ⟨rfl, rfl, rfl, rfl⟩ := hp.new hc hs hne hm
    exact ⟨keptS_ok _ _ _, rfl⟩
theorem PutOpR.new {most : Int} {s : CSt} {op : Int} {k : Nat} {A : Nat → Int} {s' : CSt} {x : Int} (h : PutOpR most s op k A s' x) {nd : Nd} (he : s.e = 0) (ht : opT op k (sortsA s A) = (0, 0)) (hnd : opNd op k A 0 = nd) (hc : CheckP s.n s.N) (hs : StandsP nd s.n) (hne : ∀ i, i < s.n → s.N i ≠ nd) (hm : (s.n : Int) < most) :
    s' = ⟨s.n + 1, extN s.N s.n nd, 0⟩ ∧ x = s.n := by
  cases h with
  | err h => exact absurd he h
  | sort _ h => rw [ht] at h; exact absurd rfl h
  | put _ h _ _ hp =>
    rw [ht, hnd] at hp
    exact hp.new he hc hs hne hm
theorem WalkP.app0 {NT : Nat → Nd} {most : Int} {f id : Nat} {s s' : CSt × CK} {x : Int} (h : WalkP NT most (f + 1) s id s' x) (hk : s.2 id = none) (he : s.1.e = 0) (hl : (NT id).len = 0) (hop : (NT id).op = 13) (ha : ∀ V, appNd (NT id) V = NT id) (hc : CheckP s.1.n s.1.N) (hs : StandsP (NT id) s.1.n) (hne : ∀ i, i < s.1.n → s.1.N i ≠ NT id) (hm : (s.1.n : Int) < most) :
    s' = (⟨s.1.n + 1, extN s.1.N s.1.n (NT id), 0⟩, updK s.2 id s.1.n) ∧ x = s.1.n := by
  rcases h with ⟨h, -⟩ | ⟨-, h, -⟩ | ⟨-, -, s1, V, hA, hend⟩
  · rw [hk] at h; cases h
  · exact absurd he h
  · rw [hl] at hA
    have hA : s1 = s := hA
    subst hA
    rcases hend with ⟨h, -⟩ | ⟨-, m', hW, rfl⟩
    · exact absurd he h
    · cases hW with
      | app _ _ _ hp =>
        rw [ha] at hp
        obtain ⟨rfl, rfl⟩ := hp.new he hc hs hne hm
        exact ⟨rfl, rfl⟩
      | tru h => rw [hop] at h; exact absurd h (by decide)
      | neg h => rw [hop] at h; exact absurd h (by decide)
      | kind h => rw [hop] at h; exact absurd h (by decide)
      | xor h => rw [hop] at h; exact absurd h (by decide)
      | imp h => rw [hop] at h; exact absurd h (by decide)
      | eq h => rw [hop] at h; exact absurd h (by decide)
      | ite h => rw [hop] at h; exact absurd h (by decide)
      | le h => rw [hop] at h; exact absurd h (by decide)
      | lt h => rw [hop] at h; exact absurd h (by decide)
      | num h => rw [hop] at h; exact absurd h (by decide)
      | add h => rw [hop] at h; exact absurd h (by decide)
      | diff h => rw [hop] at h; exact absurd h (by decide)
def s3 : CSt × CK := (⟨3, n3, 0⟩, updK (fun _ => none) 2 2)
def s4 : CSt × CK := (⟨4, n4, 0⟩, updK s3.2 3 3)
def s6 : CSt × CK := (⟨6, c6, 0⟩, updK s4.2 4 5)
theorem walk_im {s' : CSt × CK} {x : Int} (h : WalkP t5 20 5 s012 4 s' x) : s' = s6 ∧ x = 5 := by
  rcases h with ⟨h, -⟩ | ⟨-, h, -⟩ | ⟨-, -, s1, V, hA, hend⟩
  · cases h
  · exact absurd rfl h
  · have hA : ∃ u, (∃ t, t = s012 ∧ WalkP t5 20 4 t 2 u (V 0)) ∧ WalkP t5 20 4 u 3 s1 (V 1) := hA
    obtain ⟨u, ⟨t, rfl, h2⟩, h3⟩ := hA
    obtain ⟨rfl, v0⟩ := h2.app0 (s := s012) rfl rfl rfl rfl (fun V => rfl) check_new stands_ap0 ne_ap0 (by decide)
    have h3 : WalkP t5 20 4 s3 3 s1 (V 1) := h3
    obtain ⟨rfl, v1⟩ := h3.app0 (s := s3) rfl rfl rfl rfl (fun V => rfl) check_n3 stands_ap1 ne_ap1 (by decide)
    have hend : (s4.1.e ≠ 0 ∧ s' = s4 ∧ x = 0) ∨ (s4.1.e = 0 ∧ ∃ m', WayR 20 s4.1 im5 V m' x ∧ s' = (m', updK s4.2 4 x)) := hend
    rcases hend with ⟨h, -⟩ | ⟨-, m', hW, rfl⟩
    · exact absurd rfl h
    · cases hW with
      | imp _ s5 y hy _ _ hp =>
        rw [v0] at hy
        cases hy with
        | back _ h => exact absurd h (by decide)
        | put _ _ _ hq =>
          obtain ⟨rfl, rfl⟩ := hq.new (nd := nt4) rfl (by decide) (by decide) check_n4 stands_nt4 ne_nt4 (by decide)
          rw [v1] at hp
          obtain ⟨rfl, rfl⟩ := hp.new (nd := or5) rfl (by decide) (by decide) check_c5 stands_or5 ne_or5 (by decide)
          exact ⟨rfl, rfl⟩
      | tru h => exact absurd h (by decide)
      | neg h => exact absurd h (by decide)
      | kind h => exact absurd h (by decide)
      | xor h => exact absurd h (by decide)
      | app h => exact absurd h (by decide)
      | eq h => exact absurd h (by decide)
      | ite h => exact absurd h (by decide)
      | le h => exact absurd h (by decide)
      | lt h => exact absurd h (by decide)
      | num h => exact absurd h (by decide)
      | add h => exact absurd h (by decide)
      | diff h => exact absurd h (by decide)
theorem t5_fits : fitsB 5 t5 = true := by decide
theorem Of12.wake {R : Nat → Int} (hR : R 0 = 4) {m k : Nat} {M : Nat → Nd} {X : Nat → Int} {er : Int} (h : Of12 5 t5 1 R 20 m M k X er) : er = 0 ∧ k = 1 ∧ m = 6 ∧ M = c6 ∧ X 0 = 5 := by
  have hr : ∀ i, i < 1 → 0 ≤ R i ∧ R i < (5 : Nat) := fun i hi => by
    have : i = 0 := by omega
    subst this; rw [hR]; decide
  have key : ∀ s Y, RootsP (WalkP t5 20 5) R 1 s012 s Y → s = s6 ∧ Y 0 = 5 := by
    rintro s Y ⟨u, hu, hw⟩
    have hu : u = s012 := hu
    subst hu
    rw [hR] at hw
    exact walk_im hw
  cases h with
  | arg h => exact absurd ⟨check_t5, hr⟩ h
  | sort _ _ hf => rw [t5_fits] at hf; cases hf
  | no _ _ _ s Y hw he =>
    obtain ⟨rfl, -⟩ := key s Y hw
    exact absurd rfl he
  | ok _ _ _ s X hw he =>
    obtain ⟨rfl, h5⟩ := key s X hw
    exact ⟨rfl, rfl, rfl, rfl, h5⟩
end Go.Proofs.Ytecmoahadckomaa

namespace Go.Proofs.Ytecmoahadckomaa
open Go.RowKit Go.Maps
set_option maxRecDepth 100000

theorem ints_four (w : World) : IntsAt (w.alloc (.cells #[.int .i64 4] 3)) (.slice (some ⟨w.heap.size, 0, none⟩) 1 1) 1 (fun _ => 4) :=
  IntsAt.of_row (World.rowIs_alloc w #[.int .i64 4] 3 _ (fun i hi => by
    obtain rfl : i = 0 := by simp at hi; omega
    rfl)) (by simp) (by omega) (fun _ _ => ⟨by decide, by decide⟩) (fun _ _ => rfl) 1
theorem ap0_R : NdR ap0 := ⟨⟨by decide, by decide⟩, ⟨by decide, by decide⟩, R64_0, R64_0, R64_0, ⟨by decide, by decide⟩, R64_0, R64_0⟩
theorem ap1_R : NdR ap1 := ⟨⟨by decide, by decide⟩, ⟨by decide, by decide⟩, R64_0, R64_0, R64_0, ⟨by decide, by decide⟩, ⟨by decide, by decide⟩, R64_0⟩
theorem im5_R : NdR im5 := ⟨⟨by decide, by decide⟩, ⟨by decide, by decide⟩, ⟨by decide, by decide⟩, ⟨by decide, by decide⟩, R64_0, ⟨by decide, by decide⟩, R64_0, R64_0⟩
set_option maxHeartbeats 4000000 in
theorem wakes12_any (w : World) : Calls Try.prog 7 #[] w fun e w' => e = .returned (.bool true) ∧ Below w.heap.size w w' := by
  have htf := fun (x : World) (A : Option Addr) (n c : Nat) => run_tabField x A n c
  go_enter Try.func7, Try.ntmps7
  go_wp2_with fail
  refine (RNewY_any _).mono ?_
  rintro e w2 ⟨b2, rfl, hN2, hb2, hbb⟩
  have hN2' := Lib.hid hN2
  have hx2 := Lib.hid (((Bx.nil w).step hbb).one (.slice (some ⟨b2, 0, none⟩) 2 2) 24)
  have hb12 := Lib.hid hbb
  have hs2 : Hid (w.heap.size ≤ w2.heap.size) := hbb.size
  clear hN2 hb2 hbb
  obtain ⟨⟨q0, -⟩, -⟩ := hx2.out.cells
  have f0 : (w2.alloc (.cells #[.slice (some ⟨b2, 0, none⟩) 2 2] 24)).frozen? ⟨w2.heap.size, 0, none⟩ = false := by simp
  have q0' := Lib.hid q0
  have f0' := Lib.hid f0
  go_wp2_with (at_builtin; refine wpList_app3n rfl _ _ rfl _ 2 newN rfl (by omega) ((hN2'.out.alloc _).alloc _) (by omega) (w2.heap.size + 1) 3 ap0 ap1 im5 rfl ?c1 ap0_R ap1_R im5_R ?_)
  case c1 =>
    intro j u hu
    have := cells_new (w2.alloc (.cells #[.slice (some ⟨b2, 0, none⟩) 2 2] 24)) #[.int .i8 13, .int .i8 0, .int .i64 0, .int .i64 0, .int .i64 0, .int .i64 0, .int .i64 0, .int .i64 0, .int .i8 13, .int .i8 0, .int .i64 0, .int .i64 0, .int .i64 0, .int .i64 0, .int .i64 1, .int .i64 0, .int .i8 5, .int .i8 2, .int .i64 2, .int .i64 3, .int .i64 0, .int .i64 0, .int .i64 0, .int .i64 0] 39 j u (by rw [List.getElem?_toArray]; exact hu)
    simp only [World.size_alloc] at this
    exact this
  intro g' cap w5 hN5 hb5 hg5
  have hN5' : Hid (NdsAt w5 (.slice (some ⟨g', 0, none⟩) 5 cap) 5 t5) := hN5
  have hx5 := Lib.hid ((hx2.out.skip (.cells #[.int .i8 13, .int .i8 0, .int .i64 0, .int .i64 0, .int .i64 0, .int .i64 0, .int .i64 0, .int .i64 0, .int .i8 13, .int .i8 0, .int .i64 0, .int .i64 0, .int .i64 0, .int .i64 0, .int .i64 1, .int .i64 0, .int .i8 5, .int .i8 2, .int .i64 2, .int .i64 3, .int .i64 0, .int .i64 0, .int .i64 0, .int .i64 0] 39)).step (by simp only [World.size_alloc]; exact hb5))
  have q5 := hx5.out.cells.1.1
  have f5 : w5.frozen? ⟨w2.heap.size, 0, none⟩ = false := (hb5.frozen (p := ⟨w2.heap.size, 0, none⟩) (by dsimp only; omega)).trans ((World.frozen?_alloc_old _ _ _ (by simp)).trans f0'.out)
  clear q0 f0 hN5 hb5 hx2
  have hx6 := Lib.hid (hx5.out.set (.slice (some ⟨g', 0, none⟩) 5 cap) (fun _ h => by cases h) (by have := hs2.out; omega))
  have hN6 := Lib.hid (hN5'.out.setBox q5 (fun _ _ h => by cases h) (.slice (some ⟨g', 0, none⟩) 5 cap))
  clear hx5 hN5'
  obtain ⟨⟨q6, -⟩, -⟩ := hx6.out.cells
  have hx7 := Lib.hid (hx6.out.skip (.cells #[.int .i64 4] 3))
  have hI7 := Lib.hid (ints_four (w5.setCell ⟨w2.heap.size, 0, none⟩ (.slice (some ⟨g', 0, none⟩) 5 cap)))
  have hOf := Lib.hid (Of12_any (.slice (some ⟨g', 0, none⟩) 5 cap) _ 5 1 t5 (fun _ => 4) 20 _ (hN6.out.alloc (.cells #[.int .i64 4] 3)) hI7.out (by omega) (by omega) ⟨by decide, by decide⟩)
  rw [World.size_setCell] at hOf
  have hN7 := Lib.hid (hN6.out.alloc (.cells #[.int .i64 4] 3))
  clear hx6 hN6 hI7
  go_wp2_with fail
  refine hOf.out.mono ?_
  rintro e w8 ⟨v8, vl, m8, M8, k8, X8, er, rfl, hO8, hN8, hI8, hb8⟩
  obtain ⟨rfl, rfl, rfl, rfl, hX0⟩ := hO8.wake rfl
  have hx8 := Lib.hid (hx7.out.step hb8)
  have hN8t := Lib.hid (hN7.out.below hb8)
  clear hO8 hb8 hOf hN7 hx7 q6 q5 f5
  obtain ⟨⟨q8, -⟩, -⟩ := hx8.out.cells
  have hN8' := Lib.hid hN8
  obtain ⟨A8, c8, rfl, -, -, hc8⟩ := hN8
  obtain ⟨b8, o8, rfl, hlt8, hc8⟩ := hc8 (by omega)
  obtain ⟨U8, cu8, rfl, -, -, hu8⟩ := hI8
  obtain ⟨l8, p8, rfl, hl8, hu8⟩ := hu8 (by omega)
  have hu0 := hu8 0 (by omega)
  rw [hX0] at hu0
  have hlg : w8.heap.size < (w8.alloc (.cells #[.slice (some ⟨b8, o8, none⟩) 6 c8] 24)).heap.size := by simp
  have hx9 := Lib.hid (hx8.out.one (.slice (some ⟨b8, o8, none⟩) 6 c8) 24)
  obtain ⟨⟨k9, z9⟩, -⟩ := hx9.out.cells
  have hnd := (hc8 5 (by omega)).keep (w' := w8.alloc (.cells #[.slice (some ⟨b8, o8, none⟩) 6 c8] 24)) (fun k => ((Below.refl w8.heap.size w8).alloc (Nat.le_refl _) _).cell (p := ⟨b8, k, none⟩) hlt8)
  have hnd4 := Lib.hid ((hc8 4 (by omega)).keep (w' := w8.alloc (.cells #[.slice (some ⟨b8, o8, none⟩) 6 c8] 24)) (fun k => ((Below.refl w8.heap.size w8).alloc (Nat.le_refl _) _).cell (p := ⟨b8, k, none⟩) hlt8))
  have hu9 := (((Below.refl w8.heap.size w8).alloc (Nat.le_refl _) (.cells #[.slice (some ⟨b8, o8, none⟩) 6 c8] 24)).cell (p := ⟨l8, p8 + 0, none⟩) hl8).trans hu0
  clear hc8 hu8 hu0
  go_upto_region 6 with fail
  generalize hw9 : w8.alloc (.cells #[.slice (some ⟨b8, o8, none⟩) 6 c8] 24) = w9 at *
  have hlt9 : b8 < w9.heap.size := by omega
  have hl9 : l8 < w9.heap.size := by omega
  have hKp : ∀ {x : World}, Below w9.heap.size w9 x → (x.cell? ⟨w8.heap.size, 0, none⟩ = some (.slice (some ⟨b8, o8, none⟩) 6 c8) ∧ x.cell? ⟨l8, p8, none⟩ = some (.int .i64 5) ∧ x.cell? ⟨b8, o8 + 40, none⟩ = some (.int .i8 3) ∧ x.cell? ⟨b8, o8 + 41, none⟩ = some (.int .i8 2) ∧ x.cell? ⟨b8, o8 + 42, none⟩ = some (.int .i64 4) ∧ x.cell? ⟨b8, o8 + 43, none⟩ = some (.int .i64 3) ∧ x.cell? ⟨b8, o8 + 44, none⟩ = some (.int .i64 0) ∧ x.cell? ⟨b8, o8 + 45, none⟩ = some (.int .i64 0) ∧ x.cell? ⟨b8, o8 + 46, none⟩ = some (.int .i64 0) ∧ x.cell? ⟨b8, o8 + 47, none⟩ = some (.int .i64 0)) := fun hb => by
    obtain ⟨n0, n1, n2, n3, n4, n5, n6, n7⟩ := hnd.keep (fun k => hb.cell (p := ⟨b8, k, none⟩) hlt9)
    exact ⟨(hb.cell (p := ⟨w8.heap.size, 0, none⟩) z9).trans k9, (hb.cell (p := ⟨l8, p8, none⟩) hl9).trans hu9, n0, n1, n2, n3, n4, n5, n6, n7⟩
  go_region_held3 (fun x => x.cell? ⟨w8.heap.size, 0, none⟩ = some (.slice (some ⟨b8, o8, none⟩) 6 c8) ∧ x.cell? ⟨l8, p8, none⟩ = some (.int .i64 5) ∧ x.cell? ⟨b8, o8 + 40, none⟩ = some (.int .i8 3) ∧ x.cell? ⟨b8, o8 + 41, none⟩ = some (.int .i8 2) ∧ x.cell? ⟨b8, o8 + 42, none⟩ = some (.int .i64 4) ∧ x.cell? ⟨b8, o8 + 43, none⟩ = some (.int .i64 3) ∧ x.cell? ⟨b8, o8 + 44, none⟩ = some (.int .i64 0) ∧ x.cell? ⟨b8, o8 + 45, none⟩ = some (.int .i64 0) ∧ x.cell? ⟨b8, o8 + 46, none⟩ = some (.int .i64 0) ∧ x.cell? ⟨b8, o8 + 47, none⟩ = some (.int .i64 0)) (first | exact hKp (Below.refl _ _).drew | exact hKp ((Below.refl _ _).alloc (Nat.le_refl _) _).drew | fail) (fail)
  have hx10 := Lib.hid ((hx9.out.row #[.int .i8 3, .int .i8 2, .int .i64 4, .int .i64 3, .int .i64 0, .int .i64 0, .int .i64 0, .int .i64 0] 39).drew)
  have hb10 : Below w9.heap.size w9 (w9.alloc (.cells #[.int .i8 3, .int .i8 2, .int .i64 4, .int .i64 3, .int .i64 0, .int .i64 0, .int .i64 0, .int .i64 0] 39)).drew := ((Below.refl _ _).alloc (Nat.le_refl _) _).drew
  have hb9 : Below w8.heap.size w8 w9 := by rw [← hw9]; exact (Below.refl _ _).alloc (Nat.le_refl _) _
  have hN10 := Lib.hid ((hN8'.out.below hb9).below hb10)
  have hT10 := Lib.hid ((hN8t.out.below hb9).below hb10)
  obtain ⟨m0, m1, m2, m3, m4, m5, m6, m7⟩ := hnd4.out.keep (fun k => hb10.cell (p := ⟨b8, k, none⟩) hlt9)
  clear hKp hnd hnd4 hu9 k9 z9 hx9 hw9 hb9 hb10 m1 m2 m3 m4 m5 m6 m7
  simp only [rowK, List.cons_append, List.nil_append] at hx10
  obtain ⟨⟨b0, -⟩, -, ⟨b2', -⟩, -, -, -, -, -, ⟨q0, -⟩, ⟨q1, -⟩, -⟩ := hx10.out.cells
  generalize (w9.alloc (.cells #[.int .i8 3, .int .i8 2, .int .i64 4, .int .i64 3, .int .i64 0, .int .i64 0, .int .i64 0, .int .i64 0] 39)).drew = w10 at *
  have m0 : w10.cell? ⟨b8, o8 + 32, none⟩ = some (.int .i8 1) := m0
  have hIs1 := Lib.hid (CIs_any _ 6 c6 w10 hN10.out (by omega))
  rw [c6_is] at hIs1
  go_wp2_with fail
  refine hIs1.out.mono ?_
  rintro e w11 ⟨rfl, hb11⟩
  have hx11 := Lib.hid (hx10.out.step hb11)
  have hIs2 := Lib.hid (CIs_any _ 5 t5 w11 (hT10.out.below hb11) (by omega))
  rw [t5_not] at hIs2
  clear b0 b2' q0 q1 m0 hb11 hIs1
  obtain ⟨⟨b0, -⟩, -, ⟨b2', -⟩, -, -, -, -, -, ⟨q0, -⟩, ⟨q1, -⟩, -⟩ := hx11.out.cells
  go_wp2_with fail
  refine hIs2.out.mono ?_
  rintro e w12 ⟨rfl, hb12⟩
  go_wp2_with fail
  go_ret
  exact ⟨rfl, (hx11.out.step hb12).bel⟩
end Go.Proofs.Ytecmoahadckomaa
