/- Plain: what core.Of makes is core, and images have their nodes' sorts. No program in sight. -/
import Derived.Test.YtecmoahadckomaaZMkRMkS
namespace Go.Proofs.Ytecmoahadckomaa
open Go.RowKit

structure ExtK (s s' : CSt × CK) : Prop where
  more : s.1.n ≤ s'.1.n
  bad : s.1.e ≠ 0 → s'.1.e ≠ 0
  old : ∀ i, i < s.1.n → s'.1.N i = s.1.N i
theorem ExtK.refl (s : CSt × CK) : ExtK s s := ⟨Nat.le_refl _, fun h => h, fun _ _ => rfl⟩
theorem ExtK.trans {a b c : CSt × CK} (h : ExtK a b) (k : ExtK b c) : ExtK a c := ⟨Nat.le_trans h.more k.more, fun e => k.bad (h.bad e), fun i hi => (k.old i (Nat.lt_of_lt_of_le hi h.more)).trans (h.old i hi)⟩
theorem ExtK.ok {a b : CSt × CK} (h : ExtK a b) (he : b.1.e = 0) : a.1.e = 0 := Classical.byContradiction fun hh => h.bad hh he
structure WInv (nt : Nat) (NT : Nat → Nd) (s : CSt × CK) : Prop where
  inv : InvK nt s
  core : s.1.e = 0 → CoreP s.1.n s.1.N
  sort : s.1.e = 0 → ∀ i x, s.2 i = some x → (s.1.N x.toNat).sort = (NT i).sort
/-- What a walk's end is. -/
structure WEnd (nt : Nat) (NT : Nat → Nd) (s : CSt × CK) (id : Nat) (s' : CSt × CK) (x : Int) : Prop where
  inv : WInv nt NT s'
  ext : ExtK s s'
  x0 : 0 ≤ x
  x1 : x < s'.1.n
  so : s'.1.e = 0 → (s'.1.N x.toNat).sort = (NT id).sort
  keep : ∀ i, id < i → s'.2 i = s.2 i
theorem WalkP.fin {nt : Nat} {NT : Nat → Nd} {most : Int} (hc : CheckP nt NT) (hf : fitsB nt NT = true) : ∀ (f id : Nat) (s s' : CSt × CK) (x : Int), id < f → id < nt → WInv nt NT s → WalkP NT most f s id s' x → WEnd nt NT s id s' x
  | 0, id, _, _, _, h, _, _, _ => by omega
  | f + 1, id, s, s', x, hidf, hid, hI, h => by
    have h2 := hI.inv.chk.two
    rcases h with ⟨hk, rfl⟩ | ⟨hk, he, rfl, rfl⟩ | ⟨hk, he, s1, V, hA, hend⟩
    · have := hI.inv.ins id x hk
      exact ⟨hI, ExtK.refl _, this.1, this.2, fun h0 => hI.sort h0 id x hk, fun _ _ => rfl⟩
    · exact ⟨hI, ExtK.refl _, Int.le_refl _, by omega, fun h0 => absurd h0 he, fun _ _ => rfl⟩
    · have hst := hc.all id hid
      have hl0 := hst.len0
      have args : ∀ (k : Nat) (t : CSt × CK), k ≤ (NT id).len.toNat → ArgsP (WalkP NT most f) (NT id) k s t V →
          WInv nt NT t ∧ ExtK s t ∧ (∀ i, i < k → 0 ≤ V i ∧ V i < t.1.n ∧ (t.1.e = 0 → (t.1.N (V i).toNat).sort = sortsN NT (NT id) i)) ∧ (∀ i, id ≤ i → t.2 i = s.2 i) := by
        intro k
        induction k with
        | zero =>
          intro t _ ht
          have ht : t = s := ht
          subst ht
          exact ⟨hI, ExtK.refl _, fun i hi => absurd hi (Nat.not_lt_zero i), fun _ _ => rfl⟩
        | succ k ih =>
          rintro t hk ⟨u, hu, hw⟩
          obtain ⟨iu, eu, vu, ku⟩ := ih u (by omega) hu
          have ha := hc.argB hid (k := k) (by omega)
          have hE := WalkP.fin hc hf f ((NT id).arg k).toNat u t (V k) (by omega) (by omega) iu hw
          refine ⟨hE.inv, eu.trans hE.ext, fun i hi => ?_, fun i hi => (hE.keep i (by omega)).trans (ku i hi)⟩
          by_cases e : i = k
          · subst e
            exact ⟨hE.x0, hE.x1, fun h0 => hE.so h0⟩
          · obtain ⟨v0, v1, v2⟩ := vu i (by omega)
            have hm := hE.ext.more
            exact ⟨v0, by omega, fun h0 => by rw [hE.ext.old _ (by omega)]; exact v2 (hE.ext.ok h0)⟩
      obtain ⟨i1, e1, v1, k1⟩ := args _ s1 (Nat.le_refl _) hA
      have h2' := i1.inv.chk.two
      rcases hend with ⟨hne, rfl, rfl⟩ | ⟨h0, m', hW, rfl⟩
      · exact ⟨i1, e1, Int.le_refl _, by omega, fun hh => absurd hh hne, fun i hi => k1 i (by omega)⟩
      · obtain ⟨o, ho, ho14, hty⟩ := op_nat hst
        have hVr : ∀ i, i < (NT id).len.toNat → 0 ≤ V i ∧ V i < s1.1.n := fun i hi => ⟨(v1 i hi).1, (v1 i hi).2.1⟩
        have g := hW.grow i1.inv.chk h0 hVr hty
        have hfit : fitN NT (NT id) = true := (upTo_iff _ _).1 hf id hid
        have ht : (NT id).op ≠ 13 → opT (NT id).op (NT id).len.toNat (sortsA s1.1 V) = ((NT id).sort, 0) := fun h13 => by
          rw [← fit_of hfit h13]
          exact opT_congr fun i hi => (v1 i hi).2.2 h0
        have hgd := hW.gd (i1.core h0) h0 hVr hty ht
        have hk1 : s1.2 id = none := (k1 id (Nat.le_refl _)).trans hk
        have hext : ExtK s1 (m', updK s1.2 id x) := ⟨g.st.more, g.st.bad, g.st.old⟩
        refine ⟨⟨i1.inv.step hid hk1 g, fun hh => (hgd hh).1, fun hh i y hy => ?_⟩, e1.trans hext, g.x0, g.x1, fun hh => (hgd hh).2, fun i hi => ?_⟩
        · have hy : updK s1.2 id x i = some y := hy
          unfold updK at hy
          by_cases e : i = id
          · rw [if_pos e] at hy
            injection hy with hy
            subst hy; rw [e]
            exact (hgd hh).2
          · rw [if_neg e] at hy
            have := i1.inv.ins i y hy
            show (m'.N y.toNat).sort = _
            rw [g.st.old _ (by omega)]
            exact i1.sort h0 i y hy
        · show updK s1.2 id x i = s.2 i
          unfold updK
          rw [if_neg (by omega)]
          exact k1 i (by omega)
theorem core_new : CoreP 2 newN := by
  refine ⟨check_new, fun i hi => ?_⟩
  have : i = 0 ∨ i = 1 := by omega
  rcases this with rfl | rfl
  · exact ⟨fun o => absurd o (by decide), fun o => absurd o (by decide), ⟨by decide, by decide, by decide, by decide⟩, fun o => absurd o (by decide), fun o => absurd o (by decide), fitN_mk (by decide) (by
      rw [show opT (newN 0).op (newN 0).len.toNat (sortsN newN (newN 0)) = opT 0 0 (fun _ => 0) from opT_congr fun i hi => absurd hi (Nat.not_lt_zero i)]; decide)⟩
  · exact ⟨fun o => absurd o (by decide), fun o => absurd o (by decide), ⟨by decide, by decide, by decide, by decide⟩, fun o => absurd o (by decide), fun o => absurd o (by decide), fitN_mk (by decide) (by
      rw [show opT (newN 1).op (newN 1).len.toNat (sortsN newN (newN 1)) = opT 10 0 (fun _ => 0) from opT_congr fun i hi => absurd hi (Nat.not_lt_zero i)]; decide)⟩
theorem winv_start (nt : Nat) (NT : Nat → Nd) : WInv nt NT s012 := ⟨inv_start nt, fun _ => core_new, fun _ i x h => by cases h⟩
theorem RootsP.fin {nt : Nat} {NT : Nat → Nd} {most : Int} {R : Nat → Int} (hc : CheckP nt NT) (hf : fitsB nt NT = true) {X : Nat → Int} : ∀ (k : Nat) (s : CSt × CK), (∀ i, i < k → 0 ≤ R i ∧ R i < nt) → RootsP (WalkP NT most nt) R k s012 s X →
    WInv nt NT s ∧ ∀ i, i < k → 0 ≤ X i ∧ X i < s.1.n ∧ (s.1.e = 0 → (s.1.N (X i).toNat).sort = (NT (R i).toNat).sort)
  | 0, s, _, h => by
    have h : s = s012 := h
    subst h
    exact ⟨winv_start nt NT, fun i hi => absurd hi (Nat.not_lt_zero i)⟩
  | k + 1, s, hR, ⟨u, hu, hw⟩ => by
    obtain ⟨iu, xu⟩ := RootsP.fin hc hf k u (fun i hi => hR i (by omega)) hu
    have hr := hR k (by omega)
    have hE := WalkP.fin hc hf nt (R k).toNat u s (X k) (by omega) (by omega) iu hw
    refine ⟨hE.inv, fun i hi => ?_⟩
    by_cases e : i = k
    · subst e; exact ⟨hE.x0, hE.x1, hE.so⟩
    · obtain ⟨x0, x1, x2⟩ := xu i (by omega)
      have hm := hE.ext.more
      exact ⟨x0, by omega, fun h0 => by rw [hE.ext.old _ (by omega)]; exact x2 (hE.ext.ok h0)⟩
/-- A base, asked. -/
theorem BaseP.of {n : Nat} {N : Nat → Nd} (hc : CheckP n N) {x : Int} (h : BaseP n N x) : OfT n N x x 0 0 := by
  obtain ⟨b, rfl, hb, hs, ho⟩ := h
  exact OfT.ok hc b hb rfl hs b 0 ho
end Go.Proofs.Ytecmoahadckomaa

namespace Go.Proofs.Ytecmoahadckomaa
open Go.RowKit

theorem CoreP.ord {n : Nat} {N : Nat → Nd} (h : CoreP n N) : OrdP n N := ⟨h.chk, fun i hi h11 => (h.ok i hi).add h11⟩
structure MadeP (n : Nat) (N : Nat → Nd) (m : Nat) (R : Nat → Int) (m' : Nat) (M : Nat → Nd) (k : Nat) (X : Nat → Int) : Prop where
  core : CoreP m' M
  few : m' ≤ 24002
  len : k = m
  chk : CheckP n N
  root : ∀ i, i < m → 0 ≤ R i ∧ R i < n
  img : ∀ i, i < m → 0 ≤ X i ∧ X i < m' ∧ (M (X i).toNat).sort = (N (R i).toNat).sort
theorem Of12.made {n : Nat} {N : Nat → Nd} {m : Nat} {R : Nat → Int} {most : Int} {m' : Nat} {M : Nat → Nd} {k : Nat} {X : Nat → Int} {er : Int} (h : Of12 n N m R most m' M k X er) (he : er = 0) (hn : n ≤ 3000) : MadeP n N m R m' M k X := by
  cases h with
  | arg => exact absurd he (by decide)
  | sort => exact absurd he (by decide)
  | no _ _ _ s Y _ h => exact absurd he h
  | ok hc hr hf s X hw he' hs hX =>
    obtain ⟨hI, hx⟩ := RootsP.fin hc hf _ s hr hw
    exact ⟨hI.core he', hI.inv.bound hn, rfl, hc, hr, fun i hi => ⟨(hx i hi).1, (hx i hi).2.1, (hx i hi).2.2 he'⟩⟩
theorem Of12.none {n : Nat} {N : Nat → Nd} {m : Nat} {R : Nat → Int} {most : Int} {m' : Nat} {M : Nat → Nd} {k : Nat} {X : Nat → Int} {er : Int} (h : Of12 n N m R most m' M k X er) (he : er ≠ 0) : k = 0 := by
  cases h with
  | arg => rfl
  | sort => rfl
  | no => rfl
  | ok => exact absurd rfl he
end Go.Proofs.Ytecmoahadckomaa
