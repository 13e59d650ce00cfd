/- Plain: of the images core.Of makes a table of as many nodes or fewer. No program in sight. -/
import Derived.Test.YtecmoahadckomaaZAgEAgF
namespace Go.Proofs.Ytecmoahadckomaa
open Go.RowKit

section
variable {n : Nat} {N : Nat → Nd} {s s' : CSt} {ps : Nat → Nat} {most x : Int}
theorem Dn.add (hC : CoreP n N) (hI : MadeI most (-1) n N) (h : Dn n N s ps) {i : Nat} (hi : i < n) (hop : (N i).op = 11) {a : Int} (ha : (0 ≤ a ∧ a < s.n) ∧ ((ps a.toNat : Nat) : Int) = (N i).a0) {m : Nat} {M : Nat → Nd} {er : Int}
    (hr : OAddR s.n s.N a (N i).num most m M x er) : er = 0 ∧ ∃ ps', Sn n N s ps ⟨m, M, 0⟩ ps' x i := by
  have hst := hC.chk.all i hi
  have h2 := h.chk.two
  have hl : (N i).len = (1 : Nat) := by rw [hst.len (by rw [hop]; decide), hop]; decide
  have ht := fit_of (hC.ok i hi).fit (by omega)
  rw [hop] at ht
  obtain ⟨_, hso, hA⟩ := opT_ok ht (by decide)
  have hso : (N i).sort = 1 := hso
  have hsa : (N (N i).a0.toNat).sort = 1 := hA (by decide) 0 (by rw [hl]; decide)
  have hfn : (N i).fn = 0 := Classical.byContradiction fun hh => by have := hst.app hh; omega
  have hmay := hst.num (.inr (.inl hop))
  obtain ⟨k1, k2, k3⟩ := (hC.ok i hi).add hop
  have hat : (N i).a0.toNat = ps a.toNat := by omega
  rw [hat] at hsa k2 k3
  have hb0 := base0 hC.chk (h.lt a.toNat (by omega)) hsa k2 k3
  have ofA : ∀ {b k er : Int}, OfT s.n s.N a b k er → er = 0 ∧ b = a ∧ k = 0 := fun {b k er} ho => by
    obtain ⟨e, r, e1, e2⟩ := h.ofT ha.1 ho hb0
    have := h.inj hC b.toNat (by omega) a.toNat (by omega) (by omega)
    exact ⟨e, by omega, e2⟩
  cases hr with
  | of _ _ _ ho he => exact absurd (ofA ho).1 he
  | over _ _ ho hk =>
    obtain ⟨_, _, rfl⟩ := ofA ho
    rw [show addOk 0 (N i).num = true by unfold addOk; rw [hmay, Int.zero_add, hmay]; decide] at hk
    cases hk
  | put _ _ ho hk m M a' er hp =>
    obtain ⟨_, hba, rfl⟩ := ofA ho
    rw [Int.zero_add, hba] at hp
    clear ho hba
    have h1 : a ≠ 1 := fun e => by
      subst e
      rw [show (1 : Int).toNat = 1 from rfl, h.p1, hC.chk.zz] at k3
      exact k3 rfl
    cases hp with
    | of _ _ _ ho he => exact absurd (ofA ho).1 he
    | own _ _ ho hb => exact absurd (ofA ho).2.1 hb
    | over _ _ hk => rw [hmay] at hk; cases hk
    | zero _ _ _ hz => exact absurd hz h1
    | same _ _ _ _ h0 => exact absurd h0 k1
    | add _ _ _ _ _ _ _ _ _ hp =>
      have hal : AlikeN (addNd a (N i).num) (N i) := ⟨hop.symm, hl.symm, hso.symm, hfn.symm, rfl⟩
      exact h.put hC hI hi ⟨hal, .inl fun k _ hk => by
        have hk : (k : Int) < 1 := hk
        obtain rfl : k = 0 := by omega
        exact ha.2⟩ (hst.re hal fun j hj => by
        have : j = 0 ∨ j = 1 ∨ j = 2 := by omega
        rcases this with rfl | rfl | rfl
        · exact ⟨fun _ => ha.1, fun h => absurd h (by show ¬ ((1 : Int) ≤ 0); decide)⟩
        · exact ⟨fun h => absurd h (by show ¬ ((1 : Int) < 1); decide), fun _ => rfl⟩
        · exact ⟨fun h => absurd h (by show ¬ ((2 : Int) < 1); decide), fun _ => rfl⟩) (fun o => absurd o (by show ¬ ((11 : Int) = 6); decide)) hp
theorem Dn.diffNode (hC : CoreP n N) (hI : MadeI most (-1) n N) (h : Dn n N s ps) {i : Nat} (hi : i < n) (hop : (N i).op = 12) {a b : Int} (ha : (0 ≤ a ∧ a < s.n) ∧ ((ps a.toNat : Nat) : Int) = (N i).a0) (hb : (0 ≤ b ∧ b < s.n) ∧ ((ps b.toNat : Nat) : Int) = (N i).a1)
    (hr : DiffMR most s a b (N i).num s' x) : ∃ ps', Sn n N s ps s' ps' x i := by
  have hst := hC.chk.all i hi
  have hl : (N i).len = (2 : Nat) := by rw [hst.len (by rw [hop]; decide), hop]; decide
  have ht := fit_of (hC.ok i hi).fit (by omega)
  rw [hop] at ht
  have hso : (N i).sort = 0 := (opT_ok ht (by decide)).2.1
  have hfn : (N i).fn = 0 := Classical.byContradiction fun hh => by have := hst.app hh; omega
  have hmay := hst.num (.inr (.inr hop))
  have ha2 : (N i).a2 = 0 := hst.arg2.2 (by rw [hl]; decide)
  obtain ⟨B1, B2, hne⟩ := (hC.ok i hi).diff hop
  have o1 := B1.of hC.chk
  have o2 := B2.of hC.chk
  have m0 : mayB 0 = true := by decide
  have hv : DiffT n N (N i).a0 (N i).a1 (N i).num (N i).a0 (N i).a1 ((N i).num - 0 + 0) 0 := .ok _ _ o1 _ _ o2 (by unfold subOk; rw [hmay, m0, Int.sub_zero, hmay]; rfl) (by unfold addOk; rw [Int.sub_zero, hmay, m0, Int.add_zero, hmay]; rfl)
  rw [Int.sub_zero, Int.add_zero] at hv
  have hni : N i = diffNd (N i).a0 (N i).a1 (N i).num := ndExt ⟨hop, hl, hso, hfn, rfl⟩ fun k hk => by
    have : k = 0 ∨ k = 1 ∨ k = 2 := by omega
    rcases this with rfl | rfl | rfl
    · rfl
    · rfl
    · exact ha2
  exact h.diff hC hI ha.1 hb.1 (by rw [ha.2, hb.2]; exact hv) i (fun _ => ⟨hi, hni⟩) (fun e => absurd e hne) (fun e => absurd e hne) hr
theorem Dn.app (hC : CoreP n N) (hI : MadeI most (-1) n N) (h : Dn n N s ps) {i : Nat} (hi : i < n) (hop : (N i).op = 13) {V : Nat → Int} (hV : ∀ k : Nat, (k : Int) < (N i).len → (0 ≤ V k ∧ V k < s.n) ∧ ((ps (V k).toNat : Nat) : Int) = (N i).arg k)
    (hr : NodeR most s (appNd (N i) V) s' x) : ∃ ps', Sn n N s ps s' ps' x i := by
  have hst := hC.chk.all i hi
  have ea : ∀ j : Nat, j < 3 → (appNd (N i) V).arg j = if (j : Int) < (N i).len then V j else 0 := fun j hj => by
    have : j = 0 ∨ j = 1 ∨ j = 2 := by omega
    rcases this with rfl | rfl | rfl <;> rfl
  have hal : AlikeN (appNd (N i) V) (N i) := ⟨rfl, rfl, rfl, rfl, rfl⟩
  refine h.node hC hI hr hi ⟨hal, .inl fun k hk hl => ?_⟩ (hst.re hal fun j hj => ?_) (fun o => ?_)
  · have hl : (k : Int) < (N i).len := hl
    rw [ea k hk, if_pos hl]
    exact (hV k hl).2
  · unfold argP
    rw [ea j hj]
    refine ⟨fun hl => ?_, fun hl => ?_⟩
    · have hl : (j : Int) < (N i).len := hl
      rw [if_pos hl]; exact (hV j hl).1
    · have hl : (N i).len ≤ (j : Int) := hl
      rw [if_neg (by omega)]
  · have o : (N i).op = 6 := o
    omega
theorem Dn.way (hC : CoreP n N) (hI : MadeI most (-1) n N) (h : Dn n N s ps) {i : Nat} (hi : i < n) {V : Nat → Int} (hV : ∀ k : Nat, (k : Int) < (N i).len → (0 ≤ V k ∧ V k < s.n) ∧ ((ps (V k).toNat : Nat) : Int) = (N i).arg k)
    (hr : WayR most s (N i) V s' x) : ∃ ps', Sn n N s ps s' ps' x i := by
  have hst := hC.chk.all i hi
  have hk := (hC.ok i hi).kinds
  have ll : ∀ {op : Int} {l : Int}, (N i).op = op → 0 ≤ ar op → ar op = l → (N i).len = l := fun e h0 hl => by rw [hst.len (by rw [e]; exact h0), e, hl]
  cases hr with
  | tru ho =>
    have ht := fit_of (hC.ok i hi).fit (by omega)
    rw [ho] at ht
    have hso : (N i).sort = 0 := (opT_ok ht (by decide)).2.1
    have hl := ll ho (by decide) (l := 0) (by decide)
    have hfn : (N i).fn = 0 := Classical.byContradiction fun hh => by have := hst.app hh; omega
    have h2 := hC.chk.two
    have e : N i = N 0 := by
      rw [hC.chk.tt]
      refine ndExt ⟨ho, hl, hso, hfn, hst.num0 (by omega) (by omega) (by omega)⟩ fun k hk => ?_
      rw [hst.zero hk (by omega)]
      have : k = 0 ∨ k = 1 ∨ k = 2 := by omega
      rcases this with rfl | rfl | rfl <;> rfl
    have i0 := hC.chk.inj hi (by omega) e
    have hs2 := h.chk.two
    exact ⟨ps, h.refl (Int.le_refl _) (by omega) (by rw [i0]; exact h.p0)⟩
  | neg ho _ _ hp => exact h.not hC hI hi ho (hV 0 (by rw [ll ho (by decide) (l := 1) (by decide)]; decide)) hp
  | kind ho _ _ hp =>
    have hl2 : (N i).len = 2 := by
      rcases ho with e | e
      · exact ll e (by decide) (by decide)
      · exact ll e (by decide) (by decide)
    rw [hl2] at hp
    exact h.kind hC hI hi (by omega) (k := 2) hl2 (by omega) (fun j hj => hV j (by rw [hl2]; omega)) (fun o => by
      have o : (N i).op = 6 := o
      omega) hp
  | xor ho => exact absurd ho hk.1
  | imp ho => exact absurd ho hk.2.1
  | le ho => exact absurd ho hk.2.2.1
  | lt ho => exact absurd ho hk.2.2.2
  | eq ho _ _ hp =>
    have hl := ll ho (by decide) (l := 2) (by decide)
    exact h.eq hC hI hi ho (hV 0 (by rw [hl]; decide)) (hV 1 (by rw [hl]; decide)) hp
  | ite ho _ _ hp =>
    have hl := ll ho (by decide) (l := 3) (by decide)
    exact h.ite hC hI hi ho (hV 0 (by rw [hl]; decide)) (hV 1 (by rw [hl]; decide)) (hV 2 (by rw [hl]; decide)) hp
  | num ho _ _ _ _ hp =>
    obtain ⟨rfl, ps', hS⟩ := h.num hC hI hi ho hp
    rw [keptS_ok]
    exact ⟨ps', hS⟩
  | add ho _ _ _ _ hp =>
    obtain ⟨rfl, ps', hS⟩ := h.add hC hI hi ho (hV 0 (by rw [ll ho (by decide) (l := 1) (by decide)]; decide)) hp
    rw [keptS_ok]
    exact ⟨ps', hS⟩
  | diff ho _ _ hp =>
    have hl := ll ho (by decide) (l := 2) (by decide)
    exact h.diffNode hC hI hi ho (hV 0 (by rw [hl]; decide)) (hV 1 (by rw [hl]; decide)) hp
  | app ho _ _ hp => exact h.app hC hI hi ho hV hp
end
end Go.Proofs.Ytecmoahadckomaa

namespace Go.Proofs.Ytecmoahadckomaa
open Go.RowKit

section
variable {n : Nat} {N : Nat → Nd} {most : Int}
def KnK (s : CSt × CK) (ps : Nat → Nat) : Prop := ∀ j y, s.2 j = some y → 0 ≤ y ∧ y < s.1.n ∧ ps y.toNat = j
theorem KnK.step {s s' : CSt × CK} {ps ps' : Nat → Nat} {x : Int} {i : Nat} (h : KnK s ps) (hS : Sn n N s.1 ps s'.1 ps' x i) (hk : s'.2 = s.2) : KnK s' ps' := fun j y hy => by
  rw [hk] at hy
  obtain ⟨y0, y1, y2⟩ := h j y hy
  have := hS.more
  exact ⟨y0, by omega, by rw [hS.same _ (by omega)]; exact y2⟩
theorem WalkP.again (hC : CoreP n N) (hI : MadeI most (-1) n N) : ∀ (f id : Nat) (s s' : CSt × CK) (x : Int) (ps : Nat → Nat), id < f → id < n → Dn n N s.1 ps → KnK s ps → WalkP N most f s id s' x → ∃ ps', Sn n N s.1 ps s'.1 ps' x id ∧ KnK s' ps'
  | 0, id, _, _, _, _, h, _, _, _, _ => by omega
  | f + 1, id, s, s', x, ps, hidf, hid, hD, hK, h => by
    rcases h with ⟨hk, rfl⟩ | ⟨hk, he, rfl, rfl⟩ | ⟨hk, he, s1, V, hA, hend⟩
    · obtain ⟨y0, y1, y2⟩ := hK id x hk
      exact ⟨ps, hD.refl y0 y1 y2, hK⟩
    · exact absurd hD.ok he
    · have hst := hC.chk.all id hid
      have args : ∀ (k : Nat) (t : CSt × CK), k ≤ (N id).len.toNat → ArgsP (WalkP N most f) (N id) k s t V →
          ∃ p, Sn n N s.1 ps t.1 p 0 0 ∧ KnK t p ∧ ∀ i : Nat, i < k → (0 ≤ V i ∧ V i < t.1.n) ∧ ((p (V i).toNat : Nat) : Int) = (N id).arg i := by
        intro k
        induction k with
        | zero =>
          intro t _ ht
          have ht : t = s := ht
          subst ht
          have h2 := hD.chk.two
          exact ⟨ps, hD.refl (Int.le_refl _) (by omega) hD.p0, hK, fun i hi => absurd hi (Nat.not_lt_zero i)⟩
        | succ k ih =>
          rintro t hk ⟨u, hu, hw⟩
          obtain ⟨p, hS, hKu, hV⟩ := ih u (by omega) hu
          have ha := hC.chk.argB hid (k := k) (by omega)
          obtain ⟨p', hS', hK'⟩ := WalkP.again hC hI f ((N id).arg k).toNat u t (V k) p (by omega) (by omega) hS.dn hKu hw
          refine ⟨p', hS.keep hS', hK', fun i hi => ?_⟩
          by_cases e : i = k
          · subst e
            exact ⟨⟨hS'.x0, hS'.x1⟩, by rw [hS'.img]; omega⟩
          · obtain ⟨⟨v0, v1⟩, v2⟩ := hV i (by omega)
            have hm := hS'.more
            exact ⟨⟨v0, by omega⟩, by rw [hS'.same _ (by omega)]; exact v2⟩
      obtain ⟨p, hS, hK1, hV⟩ := args _ s1 (Nat.le_refl _) hA
      rcases hend with ⟨hne, _⟩ | ⟨h0, m', hW, rfl⟩
      · exact absurd hS.dn.ok hne
      · obtain ⟨p', hS'⟩ := hS.dn.way hC hI hid (fun k hk => hV k (by omega)) hW
        refine ⟨p', hS.trans hS', fun j y hy => ?_⟩
        have hy : updK s1.2 id x j = some y := hy
        unfold updK at hy
        by_cases e : j = id
        · rw [if_pos e] at hy
          injection hy with hy
          subst hy
          exact ⟨hS'.x0, hS'.x1, by rw [e]; exact hS'.img⟩
        · rw [if_neg e] at hy
          obtain ⟨y0, y1, y2⟩ := hK1 j y hy
          have := hS'.more
          exact ⟨y0, by show y < (m'.n : Int); omega, by rw [hS'.same _ (by omega)]; exact y2⟩
theorem RootsP.again (hC : CoreP n N) (hI : MadeI most (-1) n N) {R X : Nat → Int} : ∀ (k : Nat) (s : CSt × CK), (∀ i, i < k → 0 ≤ R i ∧ R i < n) → RootsP (WalkP N most n) R k s012 s X → ∃ ps, Dn n N s.1 ps ∧ KnK s ps
  | 0, s, _, h => by
    have h : s = s012 := h
    subst h
    have h2 := hC.chk.two
    refine ⟨fun j => j, ⟨check_new, fun j hj o => ?_, rfl, fun j hj => ?_, fun j hj => ?_, rfl, rfl⟩, fun j y hy => by cases hy⟩
    · exact absurd o ((show ∀ p, p < 2 → (newN p).op ≠ 6 by decide) j hj)
    · have hj : j < 2 := hj
      omega
    · have hj : j < 2 := hj
      show CopyP N (fun j => j) (newN j) (N j)
      have e : N j = newN j := by
        have : j = 0 ∨ j = 1 := by omega
        rcases this with rfl | rfl
        · exact hC.chk.tt
        · exact hC.chk.zz
      rw [e]
      refine ⟨⟨rfl, rfl, rfl, rfl, rfl⟩, .inl fun k hk hl => ?_⟩
      have := (show ∀ p, p < 2 → (newN p).len = 0 by decide) j hj
      omega
  | k + 1, s, hR, ⟨u, hu, hw⟩ => by
    obtain ⟨ps, hD, hK⟩ := RootsP.again hC hI k u (fun i hi => hR i (by omega)) hu
    have hr := hR k (by omega)
    obtain ⟨ps', hS, hK'⟩ := WalkP.again hC hI n (R k).toNat u s (X k) ps (by omega) (by omega) hD hK hw
    exact ⟨ps', hS.dn, hK'⟩
/-- Of the images a table of as many nodes or fewer comes. -/
theorem Of12.again (hC : CoreP n N) (hI : MadeI most (-1) n N) {m : Nat} {R : Nat → Int} (hR : ∀ i, i < m → 0 ≤ R i ∧ R i < n) {m' k : Nat} {M : Nat → Nd} {X : Nat → Int} {er : Int} (h : Of12 n N m R most m' M k X er) : er = 0 ∧ k = m ∧ m' ≤ n := by
  cases h with
  | arg hn => exact absurd ⟨hC.chk, hR⟩ hn
  | sort _ _ hf => rw [show fitsB n N = true from (upTo_iff _ _).2 fun i hi => (hC.ok i hi).fit] at hf; cases hf
  | no _ _ _ s Y hw he =>
    obtain ⟨ps, hD, _⟩ := RootsP.again hC hI _ s hR hw
    exact absurd hD.ok he
  | ok _ _ _ s X hw he =>
    obtain ⟨ps, hD, _⟩ := RootsP.again hC hI _ s hR hw
    exact ⟨rfl, rfl, hD.few hC⟩
end
end Go.Proofs.Ytecmoahadckomaa
