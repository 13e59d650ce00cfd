/- Plain: what core.Of makes is core, and images have their nodes' sorts. No program in sight. -/
import Derived.Test.YtecmoahadckomaaZMkRMkS
namespace Go.Proofs.Ytecmoahadckomaa
open Go.RowKit

structure ExtK (s s' : CSt × CK) : Prop where
  more : s.1.n ≤ s'.1.n
  bad : s.1.e ≠ 0 → s'.1.e ≠ 0
  old : ∀ i, i < s.1.n → s'.1.N i = s.1.N i
theorem ExtK.refl (s : CSt × CK) : ExtK s s := ⟨Nat.le_refl _, fun h => h, fun _ _ => rfl⟩
theorem ExtK.trans {a b c : CSt × CK} (h : ExtK a b) (k : ExtK b c) : ExtK a c := ⟨Nat.le_trans h.more k.more, fun e => k.bad (h.bad e), fun i hi => (k.old i (Nat.lt_of_lt_of_le hi h.more)).trans (h.old i hi)⟩
theorem ExtK.ok {a b : CSt × CK} (h : ExtK a b) (he : b.1.e = 0) : a.1.e = 0 := Classical.byContradiction fun hh => h.bad hh he
structure WInv (nt : Nat) (NT : Nat → Nd) (s : CSt × CK) : Prop where
  inv : InvK nt s
  core : s.1.e = 0 → CoreP s.1.n s.1.N
  sort : s.1.e = 0 → ∀ i x, s.2 i = some x → (s.1.N x.toNat).sort = (NT i).sort
/-- What a walk's end is. -/
structure WEnd (nt : Nat) (NT : Nat → Nd) (s : CSt × CK) (id : Nat) (s' : CSt × CK) (x : Int) : Prop where
  inv : WInv nt NT s'
  ext : ExtK s s'
  x0 : 0 ≤ x
  x1 : x < s'.1.n
  so : s'.1.e = 0 → (s'.1.N x.toNat).sort = (NT id).sort
  keep : ∀ i, id < i → s'.2 i = s.2 i
theorem WalkP.fin {nt : Nat} {NT : Nat → Nd} {most : Int} (hc : CheckP nt NT) (hf : fitsB nt NT = true) : ∀ (f id : Nat) (s s' : CSt × CK) (x : Int), id < f → id < nt → WInv nt NT s → WalkP NT most f s id s' x → WEnd nt NT s id s' x
  | 0, id, _, _, _, h, _, _, _ => by omega
  | f + 1, id, s, s', x, hidf, hid, hI, h => by
    have h2 := hI.inv.chk.two
    rcases h with ⟨hk, rfl⟩ | ⟨hk, he, rfl, rfl⟩ | ⟨hk, he, s1, V, hA, hend⟩
    · have := hI.inv.ins id x hk
      exact ⟨hI, ExtK.refl _, this.1, this.2, fun h0 => hI.sort h0 id x hk, fun _ _ => rfl⟩
    · exact ⟨hI, ExtK.refl _, Int.le_refl _, by omega, fun h0 => absurd h0 he, fun _ _ => rfl⟩
    · have hst := hc.all id hid
      have hl0 := hst.len0
      have args : ∀ (k : Nat) (t : CSt × CK), k ≤ (NT id).len.toNat → ArgsP (WalkP NT most f) (NT id) k s t V →
          WInv nt NT t ∧ ExtK s t ∧ (∀ i, i < k → 0 ≤ V i ∧ V i < t.1.n ∧ (t.1.e = 0 → (t.1.N (V i).toNat).sort = sortsN NT (NT id) i)) ∧ (∀ i, id ≤ i → t.2 i = s.2 i) := by
        intro k
        induction k with
        | zero =>
          intro t _ ht
          have ht : t = s := ht
          subst ht
          exact ⟨hI, ExtK.refl _, fun i hi => absurd hi (Nat.not_lt_zero i), fun _ _ => rfl⟩
        | succ k ih =>
          rintro t hk ⟨u, hu, hw⟩
          obtain ⟨iu, eu, vu, ku⟩ := ih u (by omega) hu
          have ha := hc.argB hid (k := k) (by omega)
          have hE := WalkP.fin hc hf f ((NT id).arg k).toNat u t (V k) (by omega) (by omega) iu hw
          refine ⟨hE.inv, eu.trans hE.ext, fun i hi => ?_, fun i hi => (hE.keep i (by omega)).trans (ku i hi)⟩
          by_cases e : i = k
          · subst e
            exact ⟨hE.x0, hE.x1, fun h0 => hE.so h0⟩
          · obtain ⟨v0, v1, v2⟩ := vu i (by omega)
            have hm := hE.ext.more
            exact ⟨v0, by omega, fun h0 => by rw [hE.ext.old _ (by omega)]; exact v2 (hE.ext.ok h0)⟩
      obtain ⟨i1, e1, v1, k1⟩ := args _ s1 (Nat.le_refl _) hA
      have h2' := i1.inv.chk.two
      rcases hend with ⟨hne, rfl, rfl⟩ | ⟨h0, m', hW, rfl⟩
      · exact ⟨i1, e1, Int.le_refl _, by omega, fun hh => absurd hh hne, fun i hi => k1 i (by omega)⟩
      · obtain ⟨o, ho, ho14, hty⟩ := op_nat hst
        have hVr : ∀ i, i < (NT id).len.toNat → 0 ≤ V i ∧ V i < s1.1.n := fun i hi => ⟨(v1 i hi).1, (v1 i hi).2.1⟩
        have g := hW.grow i1.inv.chk h0 hVr hty
        have hfit : fitN NT (NT id) = true := (upTo_iff _ _).1 hf id hid
        have ht : (NT id).op ≠ 13 → opT (NT id).op (NT id).len.toNat (sortsA s1.1 V) = ((NT id).sort, 0) := fun h13 => by
          rw [← fit_of hfit h13]
          exact opT_congr fun i hi => (v1 i hi).2.2 h0
        have hgd := hW.gd (i1.core h0) h0 hVr hty ht
        have hk1 : s1.2 id = none := (k1 id (Nat.le_refl _)).trans hk
        have hext : ExtK s1 (m', updK s1.2 id x) := ⟨g.st.more, g.st.bad, g.st.old⟩
        refine ⟨⟨i1.inv.step hid hk1 g, fun hh => (hgd hh).1, fun hh i y hy => ?_⟩, e1.trans hext, g.x0, g.x1, fun hh => (hgd hh).2, fun i hi => ?_⟩
        · have hy : updK s1.2 id x i = some y := hy
          unfold updK at hy
          by_cases e : i = id
          · rw [if_pos e] at hy
            injection hy with hy
            subst hy; rw [e]
            exact (hgd hh).2
          · rw [if_neg e] at hy
            have := i1.inv.ins i y hy
            show (m'.N y.toNat).sort = _
            rw [g.st.old _ (by omega)]
            exact i1.sort h0 i y hy
        · show updK s1.2 id x i = s.2 i
          unfold updK
          rw [if_neg (by omega)]
          exact k1 i (by omega)
theorem core_new : CoreP 2 newN := by
  refine ⟨check_new, fun i hi => ?_⟩
  have : i = 0 ∨ i = 1 := by omega
  rcases this with rfl | rfl
  · exact ⟨fun o => absurd o (by decide), fun o => absurd o (by decide), ⟨by decide, by decide, by decide, by decide⟩, fun o => absurd o (by decide), fun o => absurd o (by decide), fitN_mk (by decide) (by
      rw [show opT (newN 0).op (newN 0).len.toNat (sortsN newN (newN 0)) = opT 0 0 (fun _ => 0) from opT_congr fun i hi => absurd hi (Nat.not_lt_zero i)]; decide)⟩
  · exact ⟨fun o => absurd o (by decide), fun o => absurd o (by decide), ⟨by decide, by decide, by decide, by decide⟩, fun o => absurd o (by decide), fun o => absurd o (by decide), fitN_mk (by decide) (by
      rw [show opT (newN 1).op (newN 1).len.toNat (sortsN newN (newN 1)) = opT 10 0 (fun _ => 0) from opT_congr fun i hi => absurd hi (Nat.not_lt_zero i)]; decide)⟩
theorem winv_start (nt : Nat) (NT : Nat → Nd) : WInv nt NT s012 := ⟨inv_start nt, fun _ => core_new, fun _ i x h => by cases h⟩
theorem RootsP.fin {nt : Nat} {NT : Nat → Nd} {most : Int} {R : Nat → Int} (hc : CheckP nt NT) (hf : fitsB nt NT = true) {X : Nat → Int} : ∀ (k : Nat) (s : CSt × CK), (∀ i, i < k → 0 ≤ R i ∧ R i < nt) → RootsP (WalkP NT most nt) R k s012 s X →
    WInv nt NT s ∧ ∀ i, i < k → 0 ≤ X i ∧ X i < s.1.n ∧ (s.1.e = 0 → (s.1.N (X i).toNat).sort = (NT (R i).toNat).sort)
  | 0, s, _, h => by
    have h : s = s012 := h
    subst h
    exact ⟨winv_start nt NT, fun i hi => absurd hi (Nat.not_lt_zero i)⟩
  | k + 1, s, hR, ⟨u, hu, hw⟩ => by
    obtain ⟨iu, xu⟩ := RootsP.fin hc hf k u (fun i hi => hR i (by omega)) hu
    have hr := hR k (by omega)
    have hE := WalkP.fin hc hf nt (R k).toNat u s (X k) (by omega) (by omega) iu hw
    refine ⟨hE.inv, fun i hi => ?_⟩
    by_cases e : i = k
    · subst e; exact ⟨hE.x0, hE.x1, hE.so⟩
    · obtain ⟨x0, x1, x2⟩ := xu i (by omega)
      have hm := hE.ext.more
      exact ⟨x0, by omega, fun h0 => by rw [hE.ext.old _ (by omega)]; exact x2 (hE.ext.ok h0)⟩
/-- A base, asked. -/
theorem BaseP.of {n : Nat} {N : Nat → Nd} (hc : CheckP n N) {x : Int} (h : BaseP n N x) : OfT n N x x 0 0 := by
  obtain ⟨b, rfl, hb, hs, ho⟩ := h
  exact OfT.ok hc b hb rfl hs b 0 ho
end Go.Proofs.Ytecmoahadckomaa

namespace Go.Proofs.Ytecmoahadckomaa
open Go.RowKit

theorem CoreP.ord {n : Nat} {N : Nat → Nd} (h : CoreP n N) : OrdP n N := ⟨h.chk, fun i hi h11 => (h.ok i hi).add h11⟩
structure MadeP (n : Nat) (N : Nat → Nd) (m : Nat) (R : Nat → Int) (m' : Nat) (M : Nat → Nd) (k : Nat) (X : Nat → Int) : Prop where
  core : CoreP m' M
  few : m' ≤ 24002
  len : k = m
  chk : CheckP n N
  root : ∀ i, i < m → 0 ≤ R i ∧ R i < n
  img : ∀ i, i < m → 0 ≤ X i ∧ X i < m' ∧ (M (X i).toNat).sort = (N (R i).toNat).sort
theorem Of12.made {n : Nat} {N : Nat → Nd} {m : Nat} {R : Nat → Int} {most : Int} {m' : Nat} {M : Nat → Nd} {k : Nat} {X : Nat → Int} {er : Int} (h : Of12 n N m R most m' M k X er) (he : er = 0) (hn : n ≤ 3000) : MadeP n N m R m' M k X := by
  cases h with
  | arg => exact absurd he (by decide)
  | sort => exact absurd he (by decide)
  | no _ _ _ s Y _ h => exact absurd he h
  | ok hc hr hf s X hw he' hs hX =>
    obtain ⟨hI, hx⟩ := RootsP.fin hc hf _ s hr hw
    exact ⟨hI.core he', hI.inv.bound hn, rfl, hc, hr, fun i hi => ⟨(hx i hi).1, (hx i hi).2.1, (hx i hi).2.2 he'⟩⟩
theorem Of12.none {n : Nat} {N : Nat → Nd} {m : Nat} {R : Nat → Int} {most : Int} {m' : Nat} {M : Nat → Nd} {k : Nat} {X : Nat → Int} {er : Int} (h : Of12 n N m R most m' M k X er) (he : er ≠ 0) : k = 0 := by
  cases h with
  | arg => rfl
  | sort => rfl
  | no => rfl
  | ok => exact absurd rfl he
end Go.Proofs.Ytecmoahadckomaa

namespace Go.Proofs.Ytecmoahadckomaa
open Go.RowKit

/-- Two results of a put are one. -/
structure OneR (m : Nat) (M : Nat → Nd) (x er : Int) (m' : Nat) (M' : Nat → Nd) (x' er' : Int) : Prop where
  err : er = er'
  img : x = x'
  tab : er = 0 → m = m' ∧ M = M'
section
variable {n m m' : Nat} {N M M' : Nat → Nd} {most x x' er er' : Int}
theorem PutR.det {e : Nd} (h : PutR n N e most m M x er) (h' : PutR n N e most m' M' x' er') : OneR m M x er m' M' x' er' := by
  cases h with
  | arg hn =>
    cases h' with
    | arg => exact ⟨rfl, rfl, fun e => absurd e (by decide)⟩
    | there hc hs => exact absurd ⟨hc, hs⟩ hn
    | many hc hs => exact absurd ⟨hc, hs⟩ hn
    | put hc hs => exact absurd ⟨hc, hs⟩ hn
  | there hc hs i hi he =>
    obtain ⟨rfl, rfl, rfl, rfl⟩ := h'.old hc hs i hi he
    exact ⟨rfl, rfl, fun _ => ⟨rfl, rfl⟩⟩
  | many hc hs hne hm =>
    obtain ⟨rfl, rfl, rfl⟩ := h'.full hc hs hne hm
    exact ⟨rfl, rfl, fun e => absurd e (by decide)⟩
  | put hc hs hne hm =>
    obtain ⟨rfl, rfl, rfl, rfl⟩ := h'.new hc hs hne hm
    exact ⟨rfl, rfl, fun _ => ⟨rfl, rfl⟩⟩
theorem OfT.one {id b k b' k' : Int} (h : OfT n N id b k er) (h' : OfT n N id b' k' er') : b = b' ∧ k = k' ∧ er = er' := by
  cases h with
  | arg hn =>
    cases h' with
    | arg => exact ⟨rfl, rfl, rfl⟩
    | sort hc i hi e => exact absurd ⟨hc, by omega, by omega⟩ hn
    | over hc i hi e => exact absurd ⟨hc, by omega, by omega⟩ hn
    | ok hc i hi e => exact absurd ⟨hc, by omega, by omega⟩ hn
  | sort hc i hi e hs =>
    cases h' with
    | arg hn => exact absurd ⟨hc, by omega, by omega⟩ hn
    | sort => exact ⟨rfl, rfl, rfl⟩
    | over _ j _ e' hs' => obtain rfl : i = j := by omega
                           exact absurd hs' hs
    | ok _ j _ e' hs' => obtain rfl : i = j := by omega
                         exact absurd hs' hs
  | over hc i hi e hs ho =>
    cases h' with
    | arg hn => exact absurd ⟨hc, by omega, by omega⟩ hn
    | sort _ j _ e' hs' => obtain rfl : i = j := by omega
                           exact absurd hs hs'
    | over => exact ⟨rfl, rfl, rfl⟩
    | ok _ j _ e' hs' b k ho' =>
      obtain rfl : i = j := by omega
      have := ofR_det ho ho'
      cases this
  | ok hc i hi e hs b k ho =>
    cases h' with
    | arg hn => exact absurd ⟨hc, by omega, by omega⟩ hn
    | sort _ j _ e' hs' => obtain rfl : i = j := by omega
                           exact absurd hs hs'
    | over _ j _ e' hs' ho' =>
      obtain rfl : i = j := by omega
      have := ofR_det ho ho'
      cases this
    | ok _ j _ e' hs' b k ho' =>
      obtain rfl : i = j := by omega
      have := ofR_det ho ho'
      injection this with this
      injection this with e1 e2
      exact ⟨by rw [e1], e2, rfl⟩
theorem DiffT.one {a b c y y' d d' : Int} (h : DiffT n N a b c x y d er) (h' : DiffT n N a b c x' y' d' er') : x = x' ∧ y = y' ∧ d = d' ∧ er = er' := by
  cases h with
  | e1 p q er h he =>
    cases h' with
    | e1 _ _ _ g => exact ⟨rfl, rfl, rfl, (h.one g).2.2⟩
    | e2 _ _ g => exact absurd (h.one g).2.2 he
    | over _ _ g => exact absurd (h.one g).2.2 he
    | ok _ _ g => exact absurd (h.one g).2.2 he
  | e2 p q h r t er k he =>
    cases h' with
    | e1 _ _ _ g he' => exact absurd (h.one g).2.2.symm he'
    | e2 _ _ _ _ _ _ g => exact ⟨rfl, rfl, rfl, (k.one g).2.2⟩
    | over _ _ _ _ _ g => exact absurd (k.one g).2.2 he
    | ok _ _ _ _ _ g => exact absurd (k.one g).2.2 he
  | over p q h r t k ho =>
    cases h' with
    | e1 _ _ _ g he' => exact absurd (h.one g).2.2.symm he'
    | e2 _ _ _ _ _ _ g he' => exact absurd (k.one g).2.2.symm he'
    | over => exact ⟨rfl, rfl, rfl, rfl⟩
    | ok _ _ g _ _ g' o1 o2 =>
      obtain ⟨rfl, rfl, -⟩ := h.one g
      obtain ⟨rfl, rfl, -⟩ := k.one g'
      exact absurd ⟨o1, o2⟩ ho
  | ok p q h r t k o1 o2 =>
    cases h' with
    | e1 _ _ _ g he' => exact absurd (h.one g).2.2.symm he'
    | e2 _ _ _ _ _ _ g he' => exact absurd (k.one g).2.2.symm he'
    | over _ _ g _ _ g' ho =>
      obtain ⟨rfl, rfl, -⟩ := h.one g
      obtain ⟨rfl, rfl, -⟩ := k.one g'
      exact absurd ⟨o1, o2⟩ ho
    | ok _ _ g _ _ g' =>
      obtain ⟨rfl, rfl, -⟩ := h.one g
      obtain ⟨rfl, rfl, -⟩ := k.one g'
      exact ⟨rfl, rfl, rfl, rfl⟩
theorem LeT.det {a b c : Int} {is is' : Bool} (h : LeT n N a b c most m M x is er) (h' : LeT n N a b c most m' M' x' is' er') : OneR m M x er m' M' x' er' := by
  cases h with
  | err _ _ _ _ h he =>
    cases h' with
    | err _ _ _ _ g => exact ⟨(h.one g).2.2.2, rfl, fun e => absurd e he⟩
    | tru _ _ g => exact absurd (h.one g).2.2.2 he
    | fls _ _ g => exact absurd (h.one g).2.2.2 he
    | diff _ _ _ g => exact absurd (h.one g).2.2.2 he
  | tru p d h hd =>
    cases h' with
    | err _ _ _ _ g he => exact absurd (h.one g).2.2.2.symm he
    | tru => exact ⟨rfl, rfl, fun _ => ⟨rfl, rfl⟩⟩
    | fls _ _ g hd' => have := (h.one g).2.2.1; omega
    | diff _ _ _ g hxy => obtain ⟨rfl, rfl, _⟩ := h.one g; exact absurd rfl hxy
  | fls p d h hd _ _ _ _ hp =>
    cases h' with
    | err _ _ _ _ g he => exact absurd (h.one g).2.2.2.symm he
    | tru _ _ g hd' => have := (h.one g).2.2.1; omega
    | fls _ _ _ _ _ _ _ _ hp' => exact hp.det hp'
    | diff _ _ _ g hxy => obtain ⟨rfl, rfl, _⟩ := h.one g; exact absurd rfl hxy
  | diff p q d h hxy _ _ _ _ hp =>
    cases h' with
    | err _ _ _ _ g he => exact absurd (h.one g).2.2.2.symm he
    | tru _ _ g => obtain ⟨rfl, rfl, _⟩ := h.one g; exact absurd rfl hxy
    | fls _ _ g => obtain ⟨rfl, rfl, _⟩ := h.one g; exact absurd rfl hxy
    | diff _ _ _ g _ _ _ _ _ hp' =>
      obtain ⟨rfl, rfl, rfl, _⟩ := h.one g
      exact hp.det hp'
theorem OPutR.det {base k : Int} (h : OPutR n N base k most m M x er) (h' : OPutR n N base k most m' M' x' er') : OneR m M x er m' M' x' er' := by
  cases h with
  | of _ _ _ h he =>
    cases h' with
    | of _ _ _ g => exact ⟨(h.one g).2.2, rfl, fun e => absurd e he⟩
    | own _ _ g => exact absurd (h.one g).2.2 he
    | over _ g => exact absurd (h.one g).2.2 he
    | zero _ g => exact absurd (h.one g).2.2 he
    | same _ g => exact absurd (h.one g).2.2 he
    | add _ g => exact absurd (h.one g).2.2 he
  | own _ _ h hb =>
    cases h' with
    | of _ _ _ g he => exact absurd (h.one g).2.2.symm he
    | own => exact ⟨rfl, rfl, fun e => absurd e (by decide)⟩
    | over _ g => exact absurd (h.one g).1 hb
    | zero _ g => exact absurd (h.one g).1 hb
    | same _ g => exact absurd (h.one g).1 hb
    | add _ g => exact absurd (h.one g).1 hb
  | over _ h hk =>
    cases h' with
    | of _ _ _ g he => exact absurd (h.one g).2.2.symm he
    | own _ _ g hb => exact absurd (h.one g).1.symm hb
    | over => exact ⟨rfl, rfl, fun e => absurd e (by decide)⟩
    | zero _ _ hk' => rw [hk] at hk'; cases hk'
    | same _ _ hk' => rw [hk] at hk'; cases hk'
    | add _ _ hk' => rw [hk] at hk'; cases hk'
  | zero _ h hk hz _ _ _ _ hp =>
    cases h' with
    | of _ _ _ g he => exact absurd (h.one g).2.2.symm he
    | own _ _ g hb => exact absurd (h.one g).1.symm hb
    | over _ _ hk' => rw [hk] at hk'; cases hk'
    | zero _ _ _ _ _ _ _ _ hp' => exact hp.det hp'
    | same _ _ _ hz' => exact absurd hz hz'
    | add _ _ _ hz' => exact absurd hz hz'
  | same _ h hk hz h0 =>
    cases h' with
    | of _ _ _ g he => exact absurd (h.one g).2.2.symm he
    | own _ _ g hb => exact absurd (h.one g).1.symm hb
    | over _ _ hk' => rw [hk] at hk'; cases hk'
    | zero _ _ _ hz' => exact absurd hz' hz
    | same => exact ⟨rfl, rfl, fun _ => ⟨rfl, rfl⟩⟩
    | add _ _ _ _ h0' => exact absurd h0 h0'
  | add _ h hk hz h0 _ _ _ _ hp =>
    cases h' with
    | of _ _ _ g he => exact absurd (h.one g).2.2.symm he
    | own _ _ g hb => exact absurd (h.one g).1.symm hb
    | over _ _ hk' => rw [hk] at hk'; cases hk'
    | zero _ _ _ hz' => exact absurd hz' hz
    | same _ _ _ _ h0' => exact absurd h0' h0
    | add _ _ _ _ _ _ _ _ _ hp' => exact hp.det hp'
theorem OAddR.det {id k : Int} (h : OAddR n N id k most m M x er) (h' : OAddR n N id k most m' M' x' er') : OneR m M x er m' M' x' er' := by
  cases h with
  | of _ _ _ h he =>
    cases h' with
    | of _ _ _ g => exact ⟨(h.one g).2.2, rfl, fun e => absurd e he⟩
    | over _ _ g => exact absurd (h.one g).2.2 he
    | put _ _ g => exact absurd (h.one g).2.2 he
  | over _ _ h ho =>
    cases h' with
    | of _ _ _ g he => exact absurd (h.one g).2.2.symm he
    | over => exact ⟨rfl, rfl, fun e => absurd e (by decide)⟩
    | put _ _ g ho' => obtain ⟨rfl, rfl, _⟩ := h.one g; rw [ho] at ho'; cases ho'
  | put _ _ h ho _ _ _ _ hp =>
    cases h' with
    | of _ _ _ g he => exact absurd (h.one g).2.2.symm he
    | over _ _ g ho' => obtain ⟨rfl, rfl, _⟩ := h.one g; rw [ho] at ho'; cases ho'
    | put _ _ g _ _ _ _ _ hp' =>
      obtain ⟨rfl, rfl, _⟩ := h.one g
      exact hp.det hp'
end
section
variable {most : Int} {s s' t' : CSt} {x y : Int}
theorem OneR.kept {m m' : Nat} {M M' : Nat → Nd} {x x' er er' : Int} (h : OneR m M x er m' M' x' er') (s : CSt) : keptS s m M er = keptS s m' M' er' ∧ x = x' := by
  obtain ⟨rfl, rfl, ht⟩ := h
  refine ⟨?_, rfl⟩
  by_cases h0 : er = 0
  · obtain ⟨rfl, rfl⟩ := ht h0
    rfl
  · rw [keptS_no h0, keptS_no h0]
theorem NodeR.det {nd : Nd} (h : NodeR most s nd s' x) (h' : NodeR most s nd t' y) : s' = t' ∧ x = y := by
  cases h with
  | err he =>
    cases h' with
    | err => exact ⟨rfl, rfl⟩
    | put h0 => exact absurd h0 he
  | put h0 _ _ _ _ hp =>
    cases h' with
    | err he => exact absurd h0 he
    | put _ _ _ _ _ hp' => exact (hp.det hp').kept s
theorem PutOpR.det {op : Int} {k : Nat} {A : Nat → Int} (h : PutOpR most s op k A s' x) (h' : PutOpR most s op k A t' y) : s' = t' ∧ x = y := by
  cases h with
  | err he =>
    cases h' with
    | err => exact ⟨rfl, rfl⟩
    | sort h0 => exact absurd h0 he
    | put h0 => exact absurd h0 he
  | sort h0 hs =>
    cases h' with
    | err he => exact absurd h0 he
    | sort => exact ⟨rfl, rfl⟩
    | put _ hs' => exact absurd hs' hs
  | put h0 hs _ _ hp =>
    cases h' with
    | err he => exact absurd h0 he
    | sort _ hs' => exact absurd hs hs'
    | put _ _ _ _ hp' => exact hp.det hp'
theorem DiffMR.det {a b c : Int} (h : DiffMR most s a b c s' x) (h' : DiffMR most s a b c t' y) : s' = t' ∧ x = y := by
  cases h with
  | err he =>
    cases h' with
    | err => exact ⟨rfl, rfl⟩
    | put h0 => exact absurd h0 he
  | put h0 _ _ _ _ _ hp =>
    cases h' with
    | err he => exact absurd h0 he
    | put _ _ _ _ _ _ hp' => exact (hp.det hp').kept s
theorem NotMR.det {a : Int} (h : NotMR most s a s' x) (h' : NotMR most s a t' y) : s' = t' ∧ x = y := by
  cases h with
  | back h0 ho =>
    cases h' with
    | back => exact ⟨rfl, rfl⟩
    | put hn => exact absurd ⟨h0, ho⟩ hn
  | put hn _ _ hp =>
    cases h' with
    | back h0 ho => exact absurd ⟨h0, ho⟩ hn
    | put _ _ _ hp' => exact hp.det hp'
theorem SameMR.det {a b : Int} (h : SameMR most s a b s' x) (h' : SameMR most s a b t' y) : s' = t' ∧ x = y := by
  cases h with
  | one hab =>
    cases h' with
    | one => exact ⟨rfl, rfl⟩
    | put hn => exact absurd hab hn
  | put hn _ _ hp =>
    cases h' with
    | one hab => exact absurd hab hn
    | put _ _ _ hp' => exact hp.det hp'
theorem EqualMR.det {a b : Int} (h : EqualMR most s a b s' x) (h' : EqualMR most s a b t' y) : s' = t' ∧ x = y := by
  cases h with
  | err he =>
    cases h' with
    | err => exact ⟨rfl, rfl⟩
    | sort h0 => exact absurd h0 he
    | bool h0 => exact absurd h0 he
    | own h0 => exact absurd h0 he
    | int h0 => exact absurd h0 he
  | sort h0 hs =>
    cases h' with
    | err he => exact absurd h0 he
    | sort => exact ⟨rfl, rfl⟩
    | bool _ hs' => exact absurd hs' hs
    | own _ hs' => exact absurd hs' hs
    | int _ hs' => exact absurd hs' hs
  | bool h0 hs hb _ _ hp =>
    cases h' with
    | err he => exact absurd h0 he
    | sort _ hs' => exact absurd hs hs'
    | bool _ _ _ _ _ hp' => exact hp.det hp'
    | own _ _ hb' => exact absurd hb hb'
    | int _ _ hb' => omega
  | own h0 hs hb hb1 _ _ hp =>
    cases h' with
    | err he => exact absurd h0 he
    | sort _ hs' => exact absurd hs hs'
    | bool _ _ hb' => exact absurd hb' hb
    | own _ _ _ _ _ _ hp' => exact hp.det hp'
    | int _ _ hb' => exact absurd hb' hb1
  | int h0 hs hb s1 p hx s2 q hy _ _ hp =>
    cases h' with
    | err he => exact absurd h0 he
    | sort _ hs' => exact absurd hs hs'
    | bool _ _ hb' => omega
    | own _ _ _ hb1 => exact absurd hb hb1
    | int _ _ _ s1' p' hx' s2' q' hy' _ _ hp' =>
      obtain ⟨rfl, rfl⟩ := hx.det hx'
      obtain ⟨rfl, rfl⟩ := hy.det hy'
      exact hp.det hp'
theorem BehindR.det {so i z : Int} (h : BehindR most so s i z s') (h' : BehindR most so s i z t') : s' = t' := by
  cases h with
  | bool h0 =>
    cases h' with
    | bool => rfl
    | int h1 => omega
    | own hn => exact absurd h0 hn
  | int h1 s1 p hx s2 q hy =>
    cases h' with
    | bool h0 => omega
    | int _ s1' p' hx' s2' q' hy' =>
      obtain ⟨rfl, rfl⟩ := hx.det hx'
      exact (hy.det hy').1
    | own _ hn => exact absurd h1 hn
  | own hn hn1 _ _ hp =>
    cases h' with
    | bool h0 => exact absurd h0 hn
    | int h1 => exact absurd h1 hn1
    | own _ _ _ _ hp' => exact (hp.det hp').1
theorem IteMR.det {a b c : Int} (h : IteMR most s a b c s' x) (h' : IteMR most s a b c t' y) : s' = t' ∧ x = y := by
  cases h with
  | err he =>
    cases h' with
    | err => exact ⟨rfl, rfl⟩
    | sort h0 => exact absurd h0 he
    | one h0 => exact absurd h0 he
    | put h0 => exact absurd h0 he
  | sort h0 hs =>
    cases h' with
    | err he => exact absurd h0 he
    | sort => exact ⟨rfl, rfl⟩
    | one _ hs' => exact absurd hs' hs
    | put _ hs' => exact absurd hs' hs
  | one h0 hs hb =>
    cases h' with
    | err he => exact absurd h0 he
    | sort _ hs' => exact absurd hs hs'
    | one => exact ⟨rfl, rfl⟩
    | put _ _ hb' => exact absurd hb hb'
  | put h0 hs hb s1 i hi s2 h2 s3 h3 =>
    cases h' with
    | err he => exact absurd h0 he
    | sort _ hs' => exact absurd hs hs'
    | one _ _ hb' => exact absurd hb' hb
    | put _ _ _ s1' i' hi' s2' h2' s3' h3' =>
      obtain ⟨rfl, rfl⟩ := hi.det hi'
      obtain rfl := h2.det h2'
      obtain rfl := h3.det h3'
      exact ⟨rfl, rfl⟩
theorem WayR.det {nd : Nd} {V : Nat → Int} (h : WayR most s nd V s' x) (h' : WayR most s nd V t' y) : s' = t' ∧ x = y := by
  cases h with
  | tru ho => cases h' <;> first | exact ⟨rfl, rfl⟩ | (exfalso; omega)
  | neg ho _ _ hp => cases h' with
    | neg _ _ _ hp' => exact hp.det hp'
    | tru => omega | kind => omega | xor => omega | imp => omega | eq => omega | ite => omega | le => omega | lt => omega | num => omega | add => omega | diff => omega | app => omega
  | kind ho _ _ hp => cases h' with
    | kind _ _ _ hp' => exact hp.det hp'
    | tru => omega | neg => omega | xor => omega | imp => omega | eq => omega | ite => omega | le => omega | lt => omega | num => omega | add => omega | diff => omega | app => omega
  | xor ho s1 p hy _ _ hp => cases h' with
    | xor _ s1' p' hy' _ _ hp' =>
      obtain ⟨rfl, rfl⟩ := hy.det hy'
      exact hp.det hp'
    | tru => omega | neg => omega | kind => omega | imp => omega | eq => omega | ite => omega | le => omega | lt => omega | num => omega | add => omega | diff => omega | app => omega
  | imp ho s1 p hy _ _ hp => cases h' with
    | imp _ s1' p' hy' _ _ hp' =>
      obtain ⟨rfl, rfl⟩ := hy.det hy'
      exact hp.det hp'
    | tru => omega | neg => omega | kind => omega | xor => omega | eq => omega | ite => omega | le => omega | lt => omega | num => omega | add => omega | diff => omega | app => omega
  | eq ho _ _ hp => cases h' with
    | eq _ _ _ hp' => exact hp.det hp'
    | tru => omega | neg => omega | kind => omega | xor => omega | imp => omega | ite => omega | le => omega | lt => omega | num => omega | add => omega | diff => omega | app => omega
  | ite ho _ _ hp => cases h' with
    | ite _ _ _ hp' => exact hp.det hp'
    | tru => omega | neg => omega | kind => omega | xor => omega | imp => omega | eq => omega | le => omega | lt => omega | num => omega | add => omega | diff => omega | app => omega
  | le ho _ _ hp => cases h' with
    | le _ _ _ hp' => exact hp.det hp'
    | tru => omega | neg => omega | kind => omega | xor => omega | imp => omega | eq => omega | ite => omega | lt => omega | num => omega | add => omega | diff => omega | app => omega
  | lt ho _ _ hp => cases h' with
    | lt _ _ _ hp' => exact hp.det hp'
    | tru => omega | neg => omega | kind => omega | xor => omega | imp => omega | eq => omega | ite => omega | le => omega | num => omega | add => omega | diff => omega | app => omega
  | num ho _ _ _ _ hp => cases h' with
    | num _ _ _ _ _ hp' => exact (hp.det hp').kept s
    | tru => omega | neg => omega | kind => omega | xor => omega | imp => omega | eq => omega | ite => omega | le => omega | lt => omega | add => omega | diff => omega | app => omega
  | add ho _ _ _ _ hp => cases h' with
    | add _ _ _ _ _ hp' => exact (hp.det hp').kept s
    | tru => omega | neg => omega | kind => omega | xor => omega | imp => omega | eq => omega | ite => omega | le => omega | lt => omega | num => omega | diff => omega | app => omega
  | diff ho _ _ hp => cases h' with
    | diff _ _ _ hp' => exact hp.det hp'
    | tru => omega | neg => omega | kind => omega | xor => omega | imp => omega | eq => omega | ite => omega | le => omega | lt => omega | num => omega | add => omega | app => omega
  | app ho _ _ hp => cases h' with
    | app _ _ _ hp' => exact hp.det hp'
    | tru => omega | neg => omega | kind => omega | xor => omega | imp => omega | eq => omega | ite => omega | le => omega | lt => omega | num => omega | add => omega | diff => omega
theorem PutOpR.congr {op : Int} {k : Nat} {A B : Nat → Int} (hAB : ∀ i, i < k → A i = B i) (h : PutOpR most s op k A s' x) : PutOpR most s op k B s' x := by
  have ho : opT op k (sortsA s A) = opT op k (sortsA s B) := opT_congr fun i hi => by unfold sortsA; rw [hAB i hi]
  have hn : ∀ so, opNd op k A so = opNd op k B so := fun so => by
    have h0 : (if 0 < k then A 0 else 0) = (if 0 < k then B 0 else 0) := by
      by_cases h : 0 < k
      · rw [if_pos h, if_pos h, hAB 0 h]
      · rw [if_neg h, if_neg h]
    have h1 : (if 1 < k then A 1 else 0) = (if 1 < k then B 1 else 0) := by
      by_cases h : 1 < k
      · rw [if_pos h, if_pos h, hAB 1 h]
      · rw [if_neg h, if_neg h]
    have h2 : (if 2 < k then A 2 else 0) = (if 2 < k then B 2 else 0) := by
      by_cases h : 2 < k
      · rw [if_pos h, if_pos h, hAB 2 h]
      · rw [if_neg h, if_neg h]
    unfold opNd
    rw [h0, h1, h2]
  cases h with
  | err h => exact .err h
  | sort h hs => exact .sort h (by rw [← ho]; exact hs)
  | put h hs _ _ hp => exact .put h (by rw [← ho]; exact hs) _ _ (by rw [← ho, ← hn]; exact hp)
theorem WayR.congr {nd : Nd} {V U : Nat → Int} (har : nd.op ≠ 13 → nd.len = ar nd.op) (hVU : ∀ i, i < nd.len.toNat → V i = U i) (h : WayR most s nd V s' x) : WayR most s nd U s' x := by
  have al : ∀ {op : Int} {k : Nat}, nd.op = op → op ≠ 13 → ar op = k → nd.len.toNat = k := fun ho h13 hk => by
    have := har (by rw [ho]; exact h13)
    rw [this, ho, hk]; simp
  cases h with
  | tru ho => exact .tru ho
  | neg ho _ _ hp =>
    have hl := al ho (by decide) (k := 1) rfl
    exact .neg ho _ _ (by rw [← hVU 0 (by omega)]; exact hp)
  | kind ho _ _ hp => exact .kind ho _ _ (hp.congr hVU)
  | xor ho _ _ hy _ _ hp => exact .xor ho _ _ (hy.congr hVU) _ _ hp
  | imp ho _ _ hy _ _ hp =>
    have hl := al ho (by decide) (k := 2) rfl
    exact .imp ho _ _ (by rw [← hVU 0 (by omega)]; exact hy) _ _ (by rw [← hVU 1 (by omega)]; exact hp)
  | eq ho _ _ hp =>
    have hl := al ho (by decide) (k := 2) rfl
    exact .eq ho _ _ (by rw [← hVU 0 (by omega), ← hVU 1 (by omega)]; exact hp)
  | ite ho _ _ hp =>
    have hl := al ho (by decide) (k := 3) rfl
    exact .ite ho _ _ (by rw [← hVU 0 (by omega), ← hVU 1 (by omega), ← hVU 2 (by omega)]; exact hp)
  | le ho _ _ hp =>
    have hl := al ho (by decide) (k := 2) rfl
    exact .le ho _ _ (by rw [← hVU 0 (by omega), ← hVU 1 (by omega)]; exact hp)
  | lt ho _ _ hp =>
    have hl := al ho (by decide) (k := 2) rfl
    exact .lt ho _ _ (by rw [← hVU 0 (by omega), ← hVU 1 (by omega)]; exact hp)
  | num ho _ _ _ _ hp => exact .num ho _ _ _ _ hp
  | add ho _ _ _ _ hp =>
    have hl := al ho (by decide) (k := 1) rfl
    exact .add ho _ _ _ _ (by rw [← hVU 0 (by omega)]; exact hp)
  | diff ho _ _ hp =>
    have hl := al ho (by decide) (k := 2) rfl
    exact .diff ho _ _ (by rw [← hVU 0 (by omega), ← hVU 1 (by omega)]; exact hp)
  | app ho _ _ hp =>
    have e : appNd nd V = appNd nd U := by
      have h0 : (if 0 < nd.len then V 0 else 0) = (if 0 < nd.len then U 0 else 0) := by
        by_cases h : 0 < nd.len
        · rw [if_pos h, if_pos h, hVU 0 (by omega)]
        · rw [if_neg h, if_neg h]
      have h1 : (if 1 < nd.len then V 1 else 0) = (if 1 < nd.len then U 1 else 0) := by
        by_cases h : 1 < nd.len
        · rw [if_pos h, if_pos h, hVU 1 (by omega)]
        · rw [if_neg h, if_neg h]
      have h2 : (if 2 < nd.len then V 2 else 0) = (if 2 < nd.len then U 2 else 0) := by
        by_cases h : 2 < nd.len
        · rw [if_pos h, if_pos h, hVU 2 (by omega)]
        · rw [if_neg h, if_neg h]
      unfold appNd
      rw [h0, h1, h2]
    exact .app ho _ _ (by rw [← e]; exact hp)
end
theorem ArgsP.det {Wk : CSt × CK → Nat → CSt × CK → Int → Prop} {e : Nd} {V U : Nat → Int} : ∀ {k : Nat} {s s' t' : CSt × CK}, (∀ i, i < k → ∀ s s' x t' y, Wk s (e.arg i).toNat s' x → Wk s (e.arg i).toNat t' y → s' = t' ∧ x = y) → ArgsP Wk e k s s' V → ArgsP Wk e k s t' U → s' = t' ∧ ∀ i, i < k → V i = U i
  | 0, _, _, _, _, h, h' => ⟨Eq.trans h (Eq.symm h'), fun i hi => absurd hi (Nat.not_lt_zero i)⟩
  | k + 1, s, s', t', hW, ⟨s1, h1, h2⟩, ⟨t1, g1, g2⟩ => by
    obtain ⟨rfl, hv⟩ := ArgsP.det (fun i hi => hW i (by omega)) h1 g1
    obtain ⟨rfl, hk⟩ := hW k (by omega) _ _ _ _ _ h2 g2
    exact ⟨rfl, fun i hi => by
      by_cases e : i = k
      · subst e; exact hk
      · exact hv i (by omega)⟩
theorem WalkP.det {nt : Nat} {NT : Nat → Nd} {most : Int} (hc : CheckP nt NT) : ∀ (f : Nat) (s : CSt × CK) (id : Nat) (s' : CSt × CK) (x : Int) (t' : CSt × CK) (y : Int), id < nt → WalkP NT most f s id s' x → WalkP NT most f s id t' y → s' = t' ∧ x = y
  | 0, _, _, _, _, _, _, _, h, _ => h.elim
  | f + 1, s, id, s', x, t', y, hid, h, h' => by
    rcases h with ⟨hk, rfl⟩ | ⟨hk, he, rfl, rfl⟩ | ⟨hk, he, s1, V, hA, hend⟩
    · rcases h' with ⟨hk', rfl⟩ | ⟨hk', he', rfl, rfl⟩ | ⟨hk', he', t1, U, hB, hend'⟩
      · rw [hk] at hk'; injection hk' with hk'; exact ⟨rfl, hk'⟩
      · rw [hk] at hk'; cases hk'
      · rw [hk] at hk'; cases hk'
    · rcases h' with ⟨hk', rfl⟩ | ⟨hk', he', rfl, rfl⟩ | ⟨hk', he', t1, U, hB, hend'⟩
      · rw [hk] at hk'; cases hk'
      · exact ⟨rfl, rfl⟩
      · exact absurd he' he
    · rcases h' with ⟨hk', rfl⟩ | ⟨hk', he', rfl, rfl⟩ | ⟨hk', he', t1, U, hB, hend'⟩
      · rw [hk] at hk'; cases hk'
      · exact absurd he he'
      · have hl0 := (hc.all id hid).len0
        obtain ⟨rfl, hv⟩ := ArgsP.det (fun i hi s s' x t' y h h' => WalkP.det hc f s _ s' x t' y (by have := hc.argB hid (k := i) (by omega); omega) h h') hA hB
        rcases hend with ⟨hn, rfl, rfl⟩ | ⟨h0, m', hW, rfl⟩
        · rcases hend' with ⟨hn', rfl, rfl⟩ | ⟨h0', _⟩
          · exact ⟨rfl, rfl⟩
          · exact absurd h0' hn
        · rcases hend' with ⟨hn', _⟩ | ⟨h0', m'', hW', rfl⟩
          · exact absurd h0 hn'
          · obtain ⟨o, ho, ho14, hty⟩ := op_nat (hc.all id hid)
            obtain ⟨rfl, rfl⟩ := (hW.congr hty hv).det hW'
            exact ⟨rfl, rfl⟩
theorem RootsP.det {nt : Nat} {NT : Nat → Nd} {most : Int} (hc : CheckP nt NT) {f : Nat} {R X Y : Nat → Int} : ∀ {k : Nat} {s s' t' : CSt × CK}, (∀ i, i < k → 0 ≤ R i ∧ R i < nt) → RootsP (WalkP NT most f) R k s s' X → RootsP (WalkP NT most f) R k s t' Y → s' = t' ∧ ∀ i, i < k → X i = Y i
  | 0, _, _, _, _, h, h' => ⟨Eq.trans h (Eq.symm h'), fun i hi => absurd hi (Nat.not_lt_zero i)⟩
  | k + 1, s, s', t', hR, ⟨s1, h1, h2⟩, ⟨t1, g1, g2⟩ => by
    obtain ⟨rfl, hv⟩ := RootsP.det hc (fun i hi => hR i (by omega)) h1 g1
    obtain ⟨rfl, hk⟩ := WalkP.det hc f s1 _ _ _ _ _ (by have := hR k (by omega); omega) h2 g2
    exact ⟨rfl, fun i hi => by
      by_cases e : i = k
      · subst e; exact hk
      · exact hv i (by omega)⟩
/-- What Of gives is one thing alone. -/
theorem Of12.det {n : Nat} {N : Nat → Nd} {m : Nat} {R : Nat → Int} {most : Int} {m1 m2 : Nat} {M1 M2 : Nat → Nd} {k1 k2 : Nat} {X1 X2 : Nat → Int} {e1 e2 : Int} (h : Of12 n N m R most m1 M1 k1 X1 e1) (h' : Of12 n N m R most m2 M2 k2 X2 e2) :
    e1 = e2 ∧ m1 = m2 ∧ k1 = k2 ∧ (∀ i, i < m1 → M1 i = M2 i) ∧ ∀ i, i < k1 → X1 i = X2 i := by
  have no : ∀ {α : Type} {f g : Nat → α}, ∀ i, i < 0 → f i = g i := fun i hi => absurd hi (Nat.not_lt_zero i)
  cases h with
  | arg hn =>
    cases h' with
    | arg => exact ⟨rfl, rfl, rfl, no, no⟩
    | sort hc hr => exact absurd ⟨hc, hr⟩ hn
    | no hc hr => exact absurd ⟨hc, hr⟩ hn
    | ok hc hr => exact absurd ⟨hc, hr⟩ hn
  | sort hc hr hf =>
    cases h' with
    | arg hn => exact absurd ⟨hc, hr⟩ hn
    | sort => exact ⟨rfl, rfl, rfl, no, no⟩
    | no _ _ hf' => rw [hf] at hf'; cases hf'
    | ok _ _ hf' => rw [hf] at hf'; cases hf'
  | no hc hr hf s Y hw he =>
    cases h' with
    | arg hn => exact absurd ⟨hc, hr⟩ hn
    | sort _ _ hf' => rw [hf] at hf'; cases hf'
    | no _ _ _ t Z hw' =>
      obtain ⟨rfl, -⟩ := RootsP.det hc hr hw hw'
      exact ⟨rfl, rfl, rfl, no, no⟩
    | ok _ _ _ t Z hw' he' =>
      obtain ⟨rfl, -⟩ := RootsP.det hc hr hw hw'
      exact absurd he' he
  | ok hc hr hf s X hw he =>
    cases h' with
    | arg hn => exact absurd ⟨hc, hr⟩ hn
    | sort _ _ hf' => rw [hf] at hf'; cases hf'
    | no _ _ _ t Z hw' he' =>
      obtain ⟨rfl, -⟩ := RootsP.det hc hr hw hw'
      exact absurd he he'
    | ok _ _ _ t Z hw' =>
      obtain ⟨rfl, hx⟩ := RootsP.det hc hr hw hw'
      exact ⟨rfl, rfl, rfl, fun _ _ => rfl, hx⟩
end Go.Proofs.Ytecmoahadckomaa
