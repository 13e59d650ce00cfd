/- Plain: differences' copies. No program in sight. -/
import Derived.Test.YtecmoahadckomaaZAgCAgD
namespace Go.Proofs.Ytecmoahadckomaa
open Go.RowKit

section
variable {n : Nat} {N : Nat → Nd} {s s' : CSt} {ps : Nat → Nat} {most x : Int}
theorem Dn.arg (h : Dn n N s ps) {j : Nat} (hj : j < s.n) (h6 : (s.N j).op ≠ 6) {k : Nat} (hk : k < 3) (hl : (k : Int) < (s.N j).len) : ((ps ((s.N j).arg k).toNat : Nat) : Int) = (N (ps j)).arg k := by
  obtain ⟨al, a⟩ := h.cp j hj
  rcases a with a | ⟨a, _⟩
  · exact a k hk hl
  · exact absurd (al.op.trans a) h6
theorem Dn.ofR (h : Dn n N s ps) {j : Nat} {k : Int} {r : Option (Nat × Int)} (hr : OfR s.N j k r) (hj : j < s.n) : OfR N (ps j) k (r.map fun q => (ps q.1, q.2)) := by
  induction hr with
  | @add j k r h11 ok t ih =>
    obtain ⟨hl, ha, _⟩ := h.chk.add hj h11
    have al := (h.cp j hj).1
    have e := h.arg hj (by omega) (k := 0) (by omega) (by rw [hl]; decide)
    have e : ((ps (s.N j).a0.toNat : Nat) : Int) = (N (ps j)).a0 := e
    have e2 : (N (ps j)).a0.toNat = ps (s.N j).a0.toNat := by omega
    refine .add (al.op.symm.trans h11) (by rw [← al.num]; exact ok) ?_
    rw [e2, ← al.num]
    exact ih (by omega)
  | @addNo j k h11 no =>
    have al := (h.cp j hj).1
    exact .addNo (al.op.symm.trans h11) (by rw [← al.num]; exact no)
  | @num j k h10 ok =>
    have al := (h.cp j hj).1
    have := OfR.num (N := N) (i := ps j) (k := k) (al.op.symm.trans h10) (by rw [← al.num]; exact ok)
    rw [← al.num] at this
    show OfR N (ps j) k (some (ps 1, k + (s.N j).num))
    rw [h.p1]
    exact this
  | @numNo j k h10 no =>
    have al := (h.cp j hj).1
    exact .numNo (al.op.symm.trans h10) (by rw [← al.num]; exact no)
  | @base j k h1 h2 =>
    have al := (h.cp j hj).1
    exact .base (by rw [← al.op]; exact h1) (by rw [← al.op]; exact h2)
theorem Dn.ofT (h : Dn n N s ps) {a b k er b' k' : Int} (ha : 0 ≤ a ∧ a < s.n) (ho : OfT s.n s.N a b k er) (hv : OfT n N (ps a.toNat : Nat) b' k' 0) : er = 0 ∧ (0 ≤ b ∧ b < s.n) ∧ ((ps b.toNat : Nat) : Int) = b' ∧ k = k' := by
  obtain ⟨hc, i, q, e, hi, hs, rfl, hr⟩ := hv.good rfl
  have e : ps a.toNat = i := by omega
  cases ho with
  | arg hn => exact absurd ⟨h.chk, ha.1, ha.2⟩ hn
  | sort _ j hj e' hsj =>
    subst e'
    rw [Int.toNat_natCast] at e
    rw [h.sort hj, e] at hsj
    exact absurd hs hsj
  | over _ j hj e' hsj ho =>
    subst e'
    rw [Int.toNat_natCast] at e
    have := h.ofR ho hj
    rw [e] at this
    have := ofR_det this hr
    cases this
  | ok _ j hj e' hsj b k ho =>
    subst e'
    rw [Int.toNat_natCast] at e
    have h1 := h.ofR ho hj
    rw [e] at h1
    have h1 := ofR_det h1 hr
    have h1 : some (ps b, k) = some (q, k') := h1
    injection h1 with h1
    injection h1 with h1 h2
    have := (ofR_le h.chk ho hj b k rfl).1
    exact ⟨rfl, by omega, by rw [Int.toNat_natCast, h1], h2⟩
theorem Dn.diffT (h : Dn n N s ps) {a b c x y d er x1 y1 d1 : Int} (ha : 0 ≤ a ∧ a < s.n) (hb : 0 ≤ b ∧ b < s.n) (hd : DiffT s.n s.N a b c x y d er) (hv : DiffT n N (ps a.toNat : Nat) (ps b.toNat : Nat) c x1 y1 d1 0) :
    er = 0 ∧ (0 ≤ x ∧ x < s.n) ∧ (0 ≤ y ∧ y < s.n) ∧ ((ps x.toNat : Nat) : Int) = x1 ∧ ((ps y.toNat : Nat) : Int) = y1 ∧ d = d1 := by
  cases hv with
  | e1 _ _ _ _ he => exact absurd rfl he
  | e2 _ _ _ _ _ _ _ he => exact absurd rfl he
  | ok x1 p hx y1 q hy k1 k2 =>
    cases hd with
    | e1 _ _ _ ho he => exact absurd (h.ofT ha ho hx).1 he
    | e2 _ _ _ _ _ _ ho he => exact absurd (h.ofT hb ho hy).1 he
    | over _ _ o1 _ _ o2 ho =>
      obtain ⟨_, _, _, rfl⟩ := h.ofT ha o1 hx
      obtain ⟨_, _, _, rfl⟩ := h.ofT hb o2 hy
      exact absurd ⟨k1, k2⟩ ho
    | ok _ _ o1 _ _ o2 _ _ =>
      obtain ⟨_, r1, e1, rfl⟩ := h.ofT ha o1 hx
      obtain ⟨_, r2, e2, rfl⟩ := h.ofT hb o2 hy
      exact ⟨rfl, r1, r2, e1, e2, rfl⟩
theorem StandsP.re {e f : Nd} {t m : Int} (hst : StandsP f t) (al : AlikeN e f) (ha : ∀ j : Nat, j < 3 → argP e m j) : StandsP e m := by
  obtain ⟨a1, a2, a3, a4, a5⟩ := al
  exact ⟨by rw [a1]; exact hst.kind, fun h => by rw [a1] at h ⊢; rw [a2]; exact hst.len h, by rw [a2]; exact hst.len0, by rw [a2]; exact hst.len3, by rw [a3]; exact hst.sort0, by rw [a3]; exact hst.sort6, ha 0 (by omega), ha 1 (by omega), ha 2 (by omega), by rw [a4]; exact hst.fn0, by rw [a4]; exact hst.fn12, fun h => by rw [a4] at h; rw [a1]; exact hst.app h, fun h => by rw [a1] at h; rw [a5]; exact hst.num h, fun h h' h'' => by rw [a1] at h h' h''; rw [a5]; exact hst.num0 h h' h''⟩
/-- A difference put: its copy is p. -/
theorem Dn.diff (hC : CoreP n N) (hI : MadeI most (-1) n N) (h : Dn n N s ps) {a b c x1 y1 d1 : Int} (ha : 0 ≤ a ∧ a < s.n) (hb : 0 ≤ b ∧ b < s.n) (hv : DiffT n N (ps a.toNat : Nat) (ps b.toNat : Nat) c x1 y1 d1 0) (p : Nat)
    (h1 : x1 ≠ y1 → p < n ∧ N p = diffNd x1 y1 d1) (h2 : x1 = y1 → d1 < 0 → p < n ∧ N p = notNd) (h3 : x1 = y1 → 0 ≤ d1 → p = 0) (hr : DiffMR most s a b c s' x) : ∃ ps', Sn n N s ps s' ps' x p := by
  have hn2 := h.chk.two
  cases hr with
  | err hh => exact absurd h.ok hh
  | put hh m M x is er hp =>
    cases hp with
    | err _ _ _ _ hd he => exact absurd (h.diffT ha hb hd hv).1 he
    | tru x d hd h0 =>
      obtain ⟨_, _, _, e1, e2, rfl⟩ := h.diffT ha hb hd hv
      rw [keptS_ok, h3 (by omega) h0]
      have hs : (⟨s.n, s.N, 0⟩ : CSt) = s := by rw [← h.ok]
      rw [hs]
      exact ⟨ps, h.refl (Int.le_refl _) (by omega) h.p0⟩
    | fls x d hd h0 m M id er hp =>
      obtain ⟨_, _, _, e1, e2, rfl⟩ := h.diffT ha hb hd hv
      obtain ⟨hpn, hpe⟩ := h2 (by omega) h0
      have hst := hC.chk.all p hpn
      rw [hpe] at hst
      have hs : StandsP notNd s.n := hst.re ⟨rfl, rfl, rfl, rfl, rfl⟩ fun j hj => by
        have : j = 0 ∨ j = 1 ∨ j = 2 := by omega
        rcases this with rfl | rfl | rfl
        · exact ⟨fun _ => ⟨Int.le_refl _, by show (0 : Int) < s.n; omega⟩, fun _ => rfl⟩
        · exact ⟨fun h => absurd h (by decide), fun _ => rfl⟩
        · exact ⟨fun h => absurd h (by decide), fun _ => rfl⟩
      obtain ⟨rfl, ps', hS⟩ := h.put hC hI hpn (by
        rw [hpe]
        refine ⟨⟨rfl, rfl, rfl, rfl, rfl⟩, .inl fun k hk hl => ?_⟩
        have hl : (k : Int) < 1 := hl
        obtain rfl : k = 0 := by omega
        show ((ps (0 : Int).toNat : Nat) : Int) = 0
        rw [show (0 : Int).toNat = 0 from rfl, h.p0]; rfl) hs (fun o => absurd o (by decide)) hp
      rw [keptS_ok]
      exact ⟨ps', hS⟩
    | diff x y d hd hxy m M id er hp =>
      obtain ⟨_, r1, r2, e1, e2, rfl⟩ := h.diffT ha hb hd hv
      obtain ⟨hpn, hpe⟩ := h1 (fun e => by
        have := h.inj hC x.toNat (by omega) y.toNat (by omega) (by omega)
        omega)
      have hst := hC.chk.all p hpn
      rw [hpe] at hst
      have hs : StandsP (diffNd x y d) s.n := hst.re ⟨rfl, rfl, rfl, rfl, rfl⟩ fun j hj => by
        have : j = 0 ∨ j = 1 ∨ j = 2 := by omega
        rcases this with rfl | rfl | rfl
        · exact ⟨fun _ => r1, fun h => absurd h (by show ¬ ((2 : Int) ≤ 0); decide)⟩
        · exact ⟨fun _ => r2, fun h => absurd h (by show ¬ ((2 : Int) ≤ 1); decide)⟩
        · exact ⟨fun h => absurd h (by show ¬ ((2 : Int) < 2); decide), fun _ => rfl⟩
      obtain ⟨rfl, ps', hS⟩ := h.put hC hI hpn (by
        rw [hpe]
        refine ⟨⟨rfl, rfl, rfl, rfl, rfl⟩, .inl fun k hk hl => ?_⟩
        have hl : (k : Int) < 2 := hl
        have : k = 0 ∨ k = 1 := by omega
        rcases this with rfl | rfl
        · exact e1
        · exact e2) hs (fun o => absurd o (by show ¬ ((12 : Int) = 6); decide)) hp
      rw [keptS_ok]
      exact ⟨ps', hS⟩
theorem Dn.leIn (hC : CoreP n N) (hI : MadeI most (-1) n N) (h : Dn n N s ps) {a b c : Int} (ha : 0 ≤ a ∧ a < s.n) (hb : 0 ≤ b ∧ b < s.n) (hl : LeIn n N (ps a.toNat : Nat) (ps b.toNat : Nat) c) (hr : DiffMR most s a b c s' x) : ∃ ps' p, Sn n N s ps s' ps' x p := by
  obtain ⟨x1, y1, d1, hv, h1, h2⟩ := hl
  by_cases e : x1 = y1
  · by_cases e' : d1 < 0
    · obtain ⟨p, hp⟩ := h2 e e'
      obtain ⟨ps', hS⟩ := h.diff hC hI ha hb hv p (fun h => absurd e h) (fun _ _ => hp) (fun _ _ => by omega) hr
      exact ⟨ps', p, hS⟩
    · obtain ⟨ps', hS⟩ := h.diff hC hI ha hb hv 0 (fun h => absurd e h) (fun _ h => absurd h e') (fun _ _ => rfl) hr
      exact ⟨ps', 0, hS⟩
  · obtain ⟨p, hp⟩ := h1 e
    obtain ⟨ps', hS⟩ := h.diff hC hI ha hb hv p (fun _ => hp) (fun h => absurd h e) (fun h => absurd h e) hr
    exact ⟨ps', p, hS⟩
end
end Go.Proofs.Ytecmoahadckomaa

namespace Go.Proofs.Ytecmoahadckomaa
open Go.RowKit

section
variable {n : Nat} {N : Nat → Nd} {s s' : CSt} {ps : Nat → Nat} {most x : Int}
theorem Sn.keep {s1 s2 : CSt} {p1 p2 : Nat → Nat} {x y : Int} {i k : Nat} (h : Sn n N s ps s1 p1 x i) (h' : Sn n N s1 p1 s2 p2 y k) : Sn n N s ps s2 p2 x i := by
  have hx := h.x1
  have hx0 := h.x0
  have hm := h'.more
  exact ⟨h'.dn, Nat.le_trans h.more h'.more, (h.trans h').old, (h.trans h').same, h.x0, by omega, by rw [h'.same _ (by omega)]; exact h.img⟩
/-- What stands behind a choice. -/
theorem Dn.behind (hC : CoreP n N) (hI : MadeI most (-1) n N) (h : Dn n N s ps) {i : Nat} {j y : Int} {a : Int} (hj : 0 ≤ j ∧ j < s.n) (hy : 0 ≤ y ∧ y < s.n) (ej : ps j.toNat = i) (ey : ((ps y.toNat : Nat) : Int) = a) {so : Int}
    (hsi : (N i).sort = so) (hsa : (N a.toNat).sort = so) (hb : BehIn n N so i a) (hr : BehindR most so s j y s') : ∃ ps', Sn n N s ps s' ps' j i := by
  cases hr with
  | bool => exact ⟨ps, h.refl hj.1 hj.2 ej⟩
  | int h1 s1 y1 hy1 s2 z hz =>
    obtain ⟨l1, l2⟩ := hb.1 h1
    obtain ⟨p1, q1, S1⟩ := h.leIn hC hI hj hy (by rw [ej, ey]; exact l1) hy1
    have hm := S1.more
    obtain ⟨p2, q2, S2⟩ := S1.dn.leIn hC hI ⟨hy.1, by omega⟩ ⟨hj.1, by omega⟩ (by rw [S1.same _ (by omega), S1.same _ (by omega), ej, ey]; exact l2) hz
    exact ⟨p2, ((h.refl hj.1 hj.2 ej).keep S1).keep S2⟩
  | own h0 h1 s' z hz =>
    have hr := h
    by_cases e : j = y
    · cases hz with
      | one => exact ⟨ps, h.refl hj.1 hj.2 ej⟩
      | put hne => exact absurd e hne
    · have hne : (i : Int) ≠ a := fun hh => by
        have := h.inj hC j.toNat (by omega) y.toNat (by omega) (by omega)
        omega
      obtain ⟨p, hp, hpe⟩ := hb.2 h0 h1 hne
      have hop : (N p).op = 6 := by rw [hpe]; rfl
      have p0 : (N p).a0 = min (i : Int) a := by rw [hpe]; rfl
      have p1 : (N p).a1 = max (i : Int) a := by rw [hpe]; rfl
      have hso : (N (N p).a0.toNat).sort ≠ 0 := by
        rw [p0]
        rcases Int.le_total (i : Int) a with e | e
        · rw [Int.min_eq_left e, Int.toNat_natCast, hsi]; exact h0
        · rw [Int.min_eq_right e, hsa]; exact h0
      obtain ⟨ps', hS⟩ := h.ownEq hC hI hp hop hso hj hy (by
        rw [p0, p1, ej, ey]
        rcases Int.le_total (i : Int) a with e | e
        · rw [Int.min_eq_left e, Int.max_eq_right e]; exact .inl ⟨rfl, rfl⟩
        · rw [Int.min_eq_right e, Int.max_eq_left e]; exact .inr ⟨rfl, rfl⟩) hz
      exact ⟨ps', (h.refl hj.1 hj.2 ej).keep hS⟩
theorem Dn.ite (hC : CoreP n N) (hI : MadeI most (-1) n N) (h : Dn n N s ps) {i : Nat} (hi : i < n) (hop : (N i).op = 7) {a b c : Int} (ha : (0 ≤ a ∧ a < s.n) ∧ ((ps a.toNat : Nat) : Int) = (N i).a0) (hb : (0 ≤ b ∧ b < s.n) ∧ ((ps b.toNat : Nat) : Int) = (N i).a1) (hc : (0 ≤ c ∧ c < s.n) ∧ ((ps c.toNat : Nat) : Int) = (N i).a2)
    (hr : IteMR most s a b c s' x) : ∃ ps', Sn n N s ps s' ps' x i := by
  have hst := hC.chk.all i hi
  have hl : (N i).len = (3 : Nat) := by rw [hst.len (by rw [hop]; decide), hop]; decide
  have hA : ∀ j, j < 3 → (0 ≤ pk3' a b c j ∧ pk3' a b c j < s.n) ∧ ((ps (pk3' a b c j).toNat : Nat) : Int) = (N i).arg j := fun j hj => by
    have : j = 0 ∨ j = 1 ∨ j = 2 := by omega
    rcases this with rfl | rfl | rfl
    · exact ha
    · exact hb
    · exact hc
  have ht := h.sorts hC hi (by omega) hl hA
  rw [hop] at ht
  have hF := opT_ite ht
  have sb : (s.N b.toNat).sort = (N i).sort := hF.2.2.2.symm
  have sc : (s.N c.toNat).sort = (N i).sort := hF.2.2.1.trans hF.2.2.2.symm
  obtain ⟨hne, B1, B2⟩ := hI.ite i hi (by omega) hop
  have sA1 : (N (N i).a1.toNat).sort = (N i).sort := by rw [← sb, h.sort (by omega), ← hb.2, Int.toNat_natCast]
  have sA2 : (N (N i).a2.toNat).sort = (N i).sort := by rw [← sc, h.sort (by omega), ← hc.2, Int.toNat_natCast]
  cases hr with
  | err hh => exact absurd h.ok hh
  | sort _ hs => rw [ht] at hs; exact absurd rfl hs
  | one _ _ e => exfalso; subst e; omega
  | put _ _ hbc s1 _ h1 s2 h2 _ h3 =>
    have e7 : (7 : Int) = (N i).op := hop.symm
    rw [e7] at h1
    obtain ⟨p1, S1⟩ := h.kind hC hI hi (by omega) hl (by omega) hA (fun o => by
      have o : (N i).op = 6 := o
      omega) h1
    rw [sb] at h2 h3
    have m1 := S1.more
    obtain ⟨p2, S2⟩ := S1.dn.behind hC hI ⟨S1.x0, S1.x1⟩ ⟨hb.1.1, by omega⟩ S1.img (by rw [S1.same _ (by omega)]; exact hb.2) rfl sA1 B1 h2
    have m2 := S2.more
    obtain ⟨p3, S3⟩ := S2.dn.behind hC hI ⟨S2.x0, S2.x1⟩ ⟨hc.1.1, by omega⟩ S2.img (by rw [S2.same _ (by omega), S1.same _ (by omega)]; exact hc.2) rfl sA2 B2 h3
    exact ⟨p3, (S1.trans S2).trans S3⟩
theorem Dn.eq (hC : CoreP n N) (hI : MadeI most (-1) n N) (h : Dn n N s ps) {i : Nat} (hi : i < n) (hop : (N i).op = 6) {a b : Int} (ha : (0 ≤ a ∧ a < s.n) ∧ ((ps a.toNat : Nat) : Int) = (N i).a0) (hb : (0 ≤ b ∧ b < s.n) ∧ ((ps b.toNat : Nat) : Int) = (N i).a1)
    (hr : EqualMR most s a b s' x) : ∃ ps', Sn n N s ps s' ps' x i := by
  have hst := hC.chk.all i hi
  have hl : (N i).len = (2 : Nat) := hst.eqLen hop
  have fs := eqFit hst (hC.ok i hi).fit hop
  have sa : (s.N a.toNat).sort = (N (N i).a0.toNat).sort := by rw [h.sort (by omega), ← ha.2, Int.toNat_natCast]
  have sb : (s.N b.toNat).sort = (N (N i).a0.toNat).sort := by rw [h.sort (by omega), ← fs, ← hb.2, Int.toNat_natCast]
  obtain ⟨k1, k2⟩ := (hC.ok i hi).eq hop
  cases hr with
  | err hh => exact absurd h.ok hh
  | sort _ hs => exact absurd (sa.trans sb.symm) hs
  | bool _ _ h0 _ _ hp =>
    have e6 : (6 : Int) = (N i).op := hop.symm
    rw [e6] at hp
    refine h.kind (A := pk2 a b) hC hI hi (by omega) hl (by omega) (fun j hj => ?_) (fun _ hs => absurd h0 hs) hp
    have : j = 0 ∨ j = 1 := by omega
    rcases this with rfl | rfl
    · exact ha
    · exact hb
  | own _ _ h0 _ _ _ hp => exact h.ownEq hC hI hi hop (by rw [← sa]; exact h0) ha.1 hb.1 (.inl ⟨ha.2, hb.2⟩) hp
  | int _ _ h1 => exact absurd (sa.symm.trans h1) k1
theorem base0 {i : Nat} (hc : CheckP n N) (hi : i < n) (hs : (N i).sort = 1) (h1 : (N i).op ≠ 11) (h2 : (N i).op ≠ 10) : OfT n N i i 0 0 := .ok hc i hi rfl hs i 0 (.base h1 h2)
theorem zero0 (hc : CheckP n N) : OfT n N (1 : Nat) 1 0 0 := by
  have h2 := hc.two
  refine .ok hc 1 (by omega) rfl (by rw [hc.zz]; rfl) 1 0 ?_
  have := OfR.num (N := N) (i := 1) (k := 0) (by rw [hc.zz]; rfl) (by rw [hc.zz]; decide)
  rw [show 0 + (N 1).num = 0 by rw [hc.zz]; rfl] at this
  exact this
theorem Dn.num (hC : CoreP n N) (hI : MadeI most (-1) n N) (h : Dn n N s ps) {i : Nat} (hi : i < n) (hop : (N i).op = 10) {m : Nat} {M : Nat → Nd} {er : Int} (hr : OPutR s.n s.N 1 (N i).num most m M x er) : er = 0 ∧ ∃ ps', Sn n N s ps ⟨m, M, 0⟩ ps' x i := by
  have hst := hC.chk.all i hi
  have h2 := h.chk.two
  have hl : (N i).len = (0 : Nat) := by rw [hst.len (by rw [hop]; decide), hop]; decide
  have ht := fit_of (hC.ok i hi).fit (by omega)
  rw [hop] at ht
  have hso : (N i).sort = 1 := (opT_ok ht (by decide)).2.1
  have hfn : (N i).fn = 0 := Classical.byContradiction fun hh => by have := hst.app hh; omega
  have hmay := hst.num (.inl hop)
  have of1 : ∀ {b k er : Int}, OfT s.n s.N 1 b k er → er = 0 ∧ b = 1 := fun {b k er} ho => by
    obtain ⟨e, r, e1, _⟩ := h.ofT (a := 1) (by omega) ho (by rw [show (1 : Int).toNat = 1 from rfl, h.p1]; exact zero0 hC.chk)
    have := h.inj hC b.toNat (by omega) 1 (by omega) (by rw [h.p1]; omega)
    exact ⟨e, by omega⟩
  cases hr with
  | of _ _ _ ho he => exact absurd (of1 ho).1 he
  | own _ _ ho hb => exact absurd (of1 ho).2 hb
  | over _ _ hk => rw [hmay] at hk; cases hk
  | same _ _ _ hz => exact absurd rfl hz
  | add _ _ _ hz => exact absurd rfl hz
  | zero _ _ _ _ _ _ _ _ hp =>
    have hal : AlikeN (numNd (N i).num) (N i) := ⟨hop.symm, hl.symm, hso.symm, hfn.symm, rfl⟩
    exact h.put hC hI hi ⟨hal, .inl fun k _ hk => by have hk : (k : Int) < 0 := hk; omega⟩ (hst.re hal fun j hj => by
      have : j = 0 ∨ j = 1 ∨ j = 2 := by omega
      rcases this with rfl | rfl | rfl
      · exact ⟨fun h => absurd h (by show ¬ ((0 : Int) < 0); decide), fun _ => rfl⟩
      · exact ⟨fun h => absurd h (by show ¬ ((1 : Int) < 0); decide), fun _ => rfl⟩
      · exact ⟨fun h => absurd h (by show ¬ ((2 : Int) < 0); decide), fun _ => rfl⟩) (fun o => absurd o (by show ¬ ((10 : Int) = 6); decide)) hp
end
end Go.Proofs.Ytecmoahadckomaa
