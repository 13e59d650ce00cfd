/- Plain: each way keeps a table core, and its image has the node's sort. No program in sight. -/
import Derived.Test.YtecmoahadckomaaZMkOMkQ
import Derived.Test.YtecmoahadckomaaZOffH
namespace Go.Proofs.Ytecmoahadckomaa
open Go.RowKit

theorem opT_fst {op : Int} {m : Nat} {F : Nat → Int} (h : (opT op m F).2 = 0) (h7 : op ≠ 7) : (opT op m F).1 = tyR op ∧ (m : Int) = tyN op ∧ (tyA op ≠ -1 → ∀ i, i < m → F i = tyA op) := by
  obtain ⟨h1, h2, h3⟩ := opT_ok (op := op) (m := m) (F := F) (s := (opT op m F).1) (Prod.ext rfl h) h7
  exact ⟨h2, h1, h3⟩
theorem fit_of {N : Nat → Nd} {e : Nd} (h : fitN N e = true) (h13 : e.op ≠ 13) : opT e.op e.len.toNat (sortsN N e) = (e.sort, 0) := by
  unfold fitN at h
  rw [if_neg h13] at h
  exact of_decide_eq_true h
theorem PutOpR.fine {most : Int} {s s' : CSt} {op : Int} {k : Nat} {A : Nat → Int} {x : Int} (h : PutOpR most s op k A s' x) (he : s'.e = 0) : s.e = 0 ∧ (opT op k (sortsA s A)).2 = 0 := by
  cases h with
  | err h => exact absurd he h
  | sort h hs => exact absurd (show (33 : Int) = 0 from he) (by decide)
  | put h hs s' x hp => exact ⟨h, hs⟩
theorem fitN_mk {N : Nat → Nd} {e : Nd} (h13 : e.op ≠ 13) (h : opT e.op e.len.toNat (sortsN N e) = (e.sort, 0)) : fitN N e = true := by
  unfold fitN
  rw [if_neg h13]
  exact decide_eq_true h
theorem ofR_baseP {n : Nat} {N : Nat → Nd} (h : CoreP n N) {i : Nat} {k : Int} {r : Option (Nat × Int)} (hr : OfR N i k r) : i < n → (N i).sort = 1 → ∀ b s, r = some (b, s) → BaseP n N b := by
  induction hr with
  | @add i k r h11 ok t ih =>
    intro hi hs b s e
    obtain ⟨hl, ha, _⟩ := h.chk.add hi h11
    have hf := fit_of (h.ok i hi).fit (by omega)
    rw [hl, h11] at hf
    obtain ⟨_, _, hA⟩ := opT_ok hf (by decide)
    have h0 : (N (N i).a0.toNat).sort = 1 := hA (by decide) 0 (by decide)
    exact ih (by omega) h0 b s e
  | addNo => intro _ _ b s e; cases e
  | @num i k h10 ok =>
    intro hi hs b s e
    injection e with e
    injection e with e1 e2
    subst e1
    have h2 := h.chk.two
    refine ⟨1, rfl, by omega, by rw [h.chk.zz]; rfl, ?_⟩
    have h1 : (N 1).op = 10 := by rw [h.chk.zz]; rfl
    have hn : (N 1).num = 0 := by rw [h.chk.zz]; rfl
    have := OfR.num (N := N) (i := 1) (k := 0) h1 (by rw [hn]; decide)
    rw [hn] at this
    exact this
  | numNo => intro _ _ b s e; cases e
  | @base i k h1 h2 =>
    intro hi hs b s e
    injection e with e
    injection e with e1 e2
    subst e1
    exact ⟨i, rfl, hi, hs, .base h1 h2⟩
theorem zero_sort {n : Nat} {N : Nat → Nd} (h : CheckP n N) : (N (0 : Int).toNat).sort = 0 := by show (N 0).sort = 0; rw [h.tt]; rfl
theorem notNd_ok {n : Nat} {N : Nat → Nd} (h : CheckP n N) : NodeOk n N notNd := by
  have e0 : notNd.a0.toNat = 0 := rfl
  refine ⟨fun o => absurd o (by decide), fun o => absurd o (by decide), ⟨by decide, by decide, by decide, by decide⟩, fun _ => ?_, fun o => absurd o (by decide), ?_⟩
  · rw [e0, h.tt]; decide
  · unfold fitN
    rw [if_neg (by decide)]
    refine decide_eq_true ?_
    have : opT notNd.op notNd.len.toNat (sortsN N notNd) = opT 1 1 (fun _ => 0) := opT_congr fun i hi => by
      have hi : i < 1 := hi
      have : i = 0 := by omega
      subst this
      show (N 0).sort = 0
      rw [h.tt]; rfl
    rw [this]; decide
theorem diffNd_ok {n : Nat} {N : Nat → Nd} {x y d : Int} (hx : BaseP n N x) (hy : BaseP n N y) (hne : x ≠ y) : NodeOk n N (diffNd x y d) := by
  refine ⟨fun o => absurd o (show (12 : Int) ≠ 11 by decide), fun _ => ⟨hx, hy, hne⟩, ⟨show (12 : Int) ≠ 4 by decide, show (12 : Int) ≠ 5 by decide, show (12 : Int) ≠ 8 by decide, show (12 : Int) ≠ 9 by decide⟩, fun o => absurd o (show (12 : Int) ≠ 1 by decide), fun o => absurd o (show (12 : Int) ≠ 6 by decide), ?_⟩
  refine fitN_mk (show (12 : Int) ≠ 13 by decide) ?_
  obtain ⟨b, rfl, _, hb, _⟩ := hx
  obtain ⟨c, rfl, _, hc, _⟩ := hy
  have : opT (diffNd b c d).op (diffNd b c d).len.toNat (sortsN N (diffNd b c d)) = opT 12 2 (fun _ => 1) := opT_congr fun i hi => by
    have hi : i < 2 := hi
    have : i = 0 ∨ i = 1 := by omega
    rcases this with rfl | rfl
    · show (N (b : Int).toNat).sort = 1; rw [Int.toNat_natCast]; exact hb
    · show (N (c : Int).toNat).sort = 1; rw [Int.toNat_natCast]; exact hc
  rw [this]
  show opT 12 2 (fun _ => 1) = (0, 0)
  decide
theorem numNd_ok {n : Nat} {N : Nat → Nd} {k : Int} : NodeOk n N (numNd k) := by
  refine ⟨fun o => absurd o (show (10 : Int) ≠ 11 by decide), fun o => absurd o (show (10 : Int) ≠ 12 by decide), ⟨show (10 : Int) ≠ 4 by decide, show (10 : Int) ≠ 5 by decide, show (10 : Int) ≠ 8 by decide, show (10 : Int) ≠ 9 by decide⟩, fun o => absurd o (show (10 : Int) ≠ 1 by decide), fun o => absurd o (show (10 : Int) ≠ 6 by decide), ?_⟩
  refine fitN_mk (show (10 : Int) ≠ 13 by decide) ?_
  have : opT (numNd k).op (numNd k).len.toNat (sortsN N (numNd k)) = opT 10 0 (fun _ => 1) := opT_congr fun i hi => by
    have hi : i < 0 := hi
    omega
  rw [this]
  show opT 10 0 (fun _ => 1) = (1, 0)
  decide
theorem addNd_ok {n : Nat} {N : Nat → Nd} {b : Nat} {k : Int} (hk : k ≠ 0) (h1 : (N b).op ≠ 11) (h2 : (N b).op ≠ 10) (hs : (N b).sort = 1) : NodeOk n N (addNd b k) := by
  refine ⟨fun _ => ⟨hk, ?_, ?_⟩, fun o => absurd o (show (11 : Int) ≠ 12 by decide), ⟨show (11 : Int) ≠ 4 by decide, show (11 : Int) ≠ 5 by decide, show (11 : Int) ≠ 8 by decide, show (11 : Int) ≠ 9 by decide⟩, fun o => absurd o (show (11 : Int) ≠ 1 by decide), fun o => absurd o (show (11 : Int) ≠ 6 by decide), ?_⟩
  · show (N (b : Int).toNat).op ≠ 11; rw [Int.toNat_natCast]; exact h1
  · show (N (b : Int).toNat).op ≠ 10; rw [Int.toNat_natCast]; exact h2
  · refine fitN_mk (show (11 : Int) ≠ 13 by decide) ?_
    have : opT (addNd b k).op (addNd b k).len.toNat (sortsN N (addNd b k)) = opT 11 1 (fun _ => 1) := opT_congr fun i hi => by
      have hi : i < 1 := hi
      have : i = 0 := by omega
      subst this
      show (N (b : Int).toNat).sort = 1; rw [Int.toNat_natCast]; exact hs
    rw [this]
    show opT 11 1 (fun _ => 1) = (1, 0)
    decide
section
variable {most : Int} {s s' : CSt} {x : Int}
theorem DiffMR.gd (hc : CoreP s.n s.N) {a b c : Int} (h : DiffMR most s a b c s' x) : Gd s' x 0 := by
  cases h with
  | err h => exact fun h0 => absurd h0 h
  | put h m M x is er hp =>
    refine kept_gd fun he => ?_
    subst he
    cases hp with
    | err x y d er h hn => exact absurd rfl hn
    | tru x d h hd => exact ⟨hc, zero_sort hc.chk⟩
    | fls x d h hd m M id er hp =>
      obtain ⟨h1, h2⟩ := hc.put (fun _ => notNd_ok hc.chk) hp
      exact ⟨h1, by rw [h2]; rfl⟩
    | diff x y d h hxy m M id er hp =>
      obtain ⟨_, i, j, p, q, k, l, _, hi, si, hpi, rfl, _, hj, sj, hqj, rfl, _⟩ := h.good rfl
      obtain ⟨h1, h2⟩ := hc.put (fun _ => diffNd_ok (ofR_baseP hc hpi hi si _ _ rfl) (ofR_baseP hc hqj hj sj _ _ rfl) hxy) hp
      exact ⟨h1, by rw [h2]; rfl⟩
end
end Go.Proofs.Ytecmoahadckomaa

namespace Go.Proofs.Ytecmoahadckomaa
open Go.RowKit

section
variable {most : Int} {s s' : CSt} {x : Int}
theorem NotMR.gd (hc : s.e = 0 → CoreP s.n s.N) {a : Int} (ha : s.e = 0 → (0 ≤ a ∧ a < s.n) ∧ (s.N a.toNat).sort = 0) (h : NotMR most s a s' x) : Gd s' x 0 := by
  intro he
  cases h with
  | back h ho =>
    obtain ⟨⟨a0, a1⟩, _⟩ := ha h
    have hc := hc h
    refine ⟨hc, ?_⟩
    have hf := fit_of (hc.ok a.toNat (by omega)).fit (by rw [ho]; decide)
    rw [ho] at hf
    obtain ⟨hm, _, hA⟩ := opT_ok hf (by decide)
    have hm : (((s.N a.toNat).len.toNat : Nat) : Int) = 1 := hm
    exact hA (by decide) 0 (by omega)
  | put h s' x hp =>
    obtain ⟨h0, ht⟩ := hp.fine he
    have := (hp.gd (hc h0) (by omega) (by decide) (fun _ _ e => h ⟨h0, e⟩) (fun _ o => absurd o (by decide))) he
    rw [(opT_fst ht (by decide)).1] at this
    exact this
theorem SameMR.gd (hc : s.e = 0 → CoreP s.n s.N) {a b : Int} (hs : s.e = 0 → (s.N a.toNat).sort = (s.N b.toNat).sort ∧ (s.N a.toNat).sort ≠ 1) (h : SameMR most s a b s' x) : Gd s' x 0 := by
  intro he
  cases h with
  | one h => exact ⟨hc he, zero_sort (hc he).chk⟩
  | put h s' x hp =>
    obtain ⟨h0, ht⟩ := hp.fine he
    have := (hp.gd (hc h0) (by omega) (by decide) (fun _ o => absurd o (by decide)) (fun h0 _ => by
      obtain ⟨h1, h2⟩ := hs h0
      show (s.N (min a b).toNat).sort ≠ 1 ∧ ((s.N (min a b).toNat).sort = 0 ∨ min a b ≠ max a b)
      rcases Int.le_total a b with hl | hl
      · rw [Int.min_eq_left hl, Int.max_eq_right hl]; exact ⟨h2, .inr h⟩
      · rw [Int.min_eq_right hl, Int.max_eq_left hl]; exact ⟨by rw [← h1]; exact h2, .inr fun e => h e.symm⟩)) he
    rw [(opT_fst ht (by decide)).1] at this
    exact this
theorem EqualMR.gd (hk : CheckP s.n s.N) (hc : s.e = 0 → CoreP s.n s.N) {a b : Int} (h : EqualMR most s a b s' x) : Gd s' x 0 := by
  intro he
  cases h with
  | err h => exact absurd he h
  | sort h hs => exact absurd (show (33 : Int) = 0 from he) (by decide)
  | bool h hs h0 s' x hp =>
    obtain ⟨h0', ht⟩ := hp.fine he
    have := (hp.gd (hc h0') (by omega) (by decide) (fun _ o => absurd o (by decide)) (fun _ _ => by
      show (s.N a.toNat).sort ≠ 1 ∧ _
      exact ⟨by rw [h0]; decide, .inl h0⟩)) he
    rw [(opT_fst ht (by decide)).1] at this
    exact this
  | own h hs h0 h1 s' x hp => exact (hp.gd hc (fun _ => ⟨hs, h1⟩)) he
  | int h hs h1 s1 x hx s2 y hy s' z hp =>
    obtain ⟨he2, ht⟩ := hp.fine he
    have g1 := hx.grow hk
    have g2 := hy.grow g1.st.chk
    have he1 : s1.e = 0 := Classical.byContradiction fun hh => g2.st.bad hh he2
    have c1 := (hx.gd (hc h)) he1
    have c2 := (hy.gd c1.1) he2
    have := (hp.gd c2.1 (by omega) (by decide) (fun _ o => absurd o (by decide)) (fun _ o => absurd o (by decide))) he
    rw [(opT_fst ht (by decide)).1] at this
    exact this
theorem BehindR.gd (hk : CheckP s.n s.N) (hc : s.e = 0 → CoreP s.n s.N) {so i y : Int} (hs : s.e = 0 → (s.N i.toNat).sort = so ∧ (s.N y.toNat).sort = so) (h : BehindR most so s i y s') (he : s'.e = 0) : CoreP s'.n s'.N := by
  cases h with
  | bool h => exact hc he
  | int h s1 u hu s2 v hv =>
    have g1 := hu.grow hk
    have he1 : s1.e = 0 := Classical.byContradiction fun hh => (hv.grow g1.st.chk).st.bad hh he
    have he0 : s.e = 0 := Classical.byContradiction fun hh => g1.st.bad hh he1
    exact ((hv.gd ((hu.gd (hc he0)) he1).1) he).1
  | own h0 h1 s' u hu =>
    exact ((hu.gd hc (fun h => by
      obtain ⟨e1, e2⟩ := hs h
      exact ⟨by rw [e1, e2], by rw [e1]; exact h1⟩)) he).1
theorem IteMR.gd (hk : CheckP s.n s.N) (hc : s.e = 0 → CoreP s.n s.N) {a b c : Int} (hin : s.e = 0 → (0 ≤ b ∧ b < s.n) ∧ (0 ≤ c ∧ c < s.n)) (h : IteMR most s a b c s' x) : s'.e = 0 → CoreP s'.n s'.N ∧ (s'.N x.toNat).sort = (s.N b.toNat).sort := by
  intro he
  cases h with
  | err h => exact absurd he h
  | sort h hs => exact absurd (show (33 : Int) = 0 from he) (by decide)
  | one h hs hbc => exact ⟨hc h, rfl⟩
  | put h hs hbc s1 i hi s2 h2 s3 h3 =>
    have g1 := hi.grow hk
    have g2 := h2.grow g1.st.chk
    have g3 := h3.grow g2.chk
    have he2 : s2.e = 0 := Classical.byContradiction fun hh => g3.bad hh he
    have he1 : s1.e = 0 := Classical.byContradiction fun hh => g2.bad hh he2
    obtain ⟨_, ht⟩ := hi.fine he1
    obtain ⟨_, _, hF2, hF1⟩ := opT_ite (m := 3) (F := sortsA s (pk3' a b c)) (s := (opT 7 3 (sortsA s (pk3' a b c))).1) (Prod.ext rfl ht)
    have e1 : sortsA s (pk3' a b c) 1 = (s.N b.toNat).sort := rfl
    have e2 : sortsA s (pk3' a b c) 2 = (s.N c.toNat).sort := rfl
    rw [e1] at hF1 hF2
    rw [e2] at hF2
    obtain ⟨c1, so1⟩ := (hi.gd (hc h) (by omega) (by decide) (fun _ o => absurd o (by decide)) (fun _ o => absurd o (by decide))) he1
    rw [hF1] at so1
    obtain ⟨⟨b0, b1⟩, c0, c1'⟩ := hin h
    have hm1 := g1.st.more
    have hx0 := g1.x0
    have hx1 := g1.x1
    have sb1 : (s1.N b.toNat).sort = (s.N b.toNat).sort := by rw [g1.st.old _ (by omega)]
    have sc1 : (s1.N c.toNat).sort = (s.N b.toNat).sort := by rw [g1.st.old _ (by omega), hF2]
    have c2 := h2.gd g1.st.chk (fun _ => c1) (fun _ => ⟨so1, sb1⟩) he2
    have so2 : (s2.N x.toNat).sort = (s.N b.toNat).sort := by rw [g2.old _ (by omega), so1]
    have sc2 : (s2.N c.toNat).sort = (s.N b.toNat).sort := by rw [g2.old _ (by omega), sc1]
    have c3 := h3.gd g2.chk (fun _ => c2) (fun _ => ⟨so2, sc2⟩) he
    have hm2 := g2.more
    exact ⟨c3, by rw [g3.old _ (by omega), so2]⟩
theorem ofR_le {n : Nat} {N : Nat → Nd} (h : CheckP n N) {i : Nat} {k : Int} {r : Option (Nat × Int)} (hr : OfR N i k r) : i < n → ∀ b t, r = some (b, t) → b ≤ i ∧ ((N i).op = 11 → b < i) := by
  induction hr with
  | @add i k r h11 ok t ih =>
    intro hi b t e
    obtain ⟨_, ha, _⟩ := h.add hi h11
    have := (ih (by omega) b t e).1
    exact ⟨by omega, fun _ => by omega⟩
  | addNo => intro _ b t e; cases e
  | @num i k h10 ok =>
    intro hi b t e
    injection e with e
    injection e with e1 e2
    subst e1
    have : i ≠ 0 := fun h0 => by
      subst h0
      rw [h.tt] at h10
      exact absurd h10 (by decide)
    exact ⟨by omega, fun h11 => by omega⟩
  | numNo => intro _ b t e; cases e
  | @base i k h1 h2 =>
    intro hi b t e
    injection e with e
    injection e with e1 e2
    subst e1
    exact ⟨Nat.le_refl _, fun h => absurd h h1⟩
theorem OPutR.gd {n : Nat} {N : Nat → Nd} (hc : CoreP n N) {base k : Int} {m : Nat} {M : Nat → Nd} {er : Int} (h : OPutR n N base k most m M x er) (he : er = 0) : CoreP m M ∧ (M x.toNat).sort = 1 := by
  cases h with
  | of _ _ _ _ hn => exact absurd he hn
  | own => exact absurd he (by decide)
  | over => exact absurd he (by decide)
  | zero _ _ _ _ _ _ _ _ hp =>
    subst he
    obtain ⟨h1, h2⟩ := hc.put (fun _ => numNd_ok) hp
    exact ⟨h1, by rw [h2]; rfl⟩
  | same m h hk hz h0 =>
    obtain ⟨_, i, b', e, hi, hs, _⟩ := h.good rfl
    exact ⟨hc, by rw [e, Int.toNat_natCast]; exact hs⟩
  | add m h hk hz h0 m' M a er hp =>
    subst he
    obtain ⟨_, i, b', e, hi, hs, e', ho⟩ := h.good rfl
    have hbi : b' = i := by omega
    subst hbi
    have hle := ofR_le hc.chk ho hi b' m rfl
    have h11 : (N b').op ≠ 11 := fun h => by have := hle.2 h; omega
    have h10 : (N b').op ≠ 10 := fun h10' => by
      cases ho with
      | add h' => omega
      | num => exact hz (by rw [e]; rfl)
      | base _ h2 => exact h2 h10'
    obtain ⟨h1, h2⟩ := hc.put (fun _ => by rw [e]; exact addNd_ok h0 h11 h10 hs) hp
    exact ⟨h1, by rw [h2]; rfl⟩
theorem OAddR.gd {n : Nat} {N : Nat → Nd} (hc : CoreP n N) {id k : Int} {m : Nat} {M : Nat → Nd} {er : Int} (h : OAddR n N id k most m M x er) (he : er = 0) : CoreP m M ∧ (M x.toNat).sort = 1 := by
  cases h with
  | of _ _ _ _ hn => exact absurd he hn
  | over => exact absurd he (by decide)
  | put _ _ _ _ _ _ _ _ hp => exact hp.gd hc he
theorem WayR.gd {nd : Nd} {V : Nat → Int} (hc : CoreP s.n s.N) (_ : s.e = 0) (hV : ∀ i, i < nd.len.toNat → 0 ≤ V i ∧ V i < s.n) (har : nd.op ≠ 13 → nd.len = ar nd.op) (ht : nd.op ≠ 13 → opT nd.op nd.len.toNat (sortsA s V) = (nd.sort, 0)) (h : WayR most s nd V s' x) : Gd s' x nd.sort := by
  have al : ∀ {op : Int} {k : Nat}, nd.op = op → op ≠ 13 → ar op = k → nd.len.toNat = k := fun ho h13 hk => by
    have := har (by rw [ho]; exact h13)
    rw [this, ho, hk]; simp
  have so : ∀ {op : Int}, nd.op = op → op ≠ 13 → op ≠ 7 → nd.sort = tyR op ∧ (tyA op ≠ -1 → ∀ i, i < nd.len.toNat → (s.N (V i).toNat).sort = tyA op) := fun ho h13 h7 => by
    have := ht (by rw [ho]; exact h13)
    rw [ho] at this
    obtain ⟨_, h2, h3⟩ := opT_ok this h7
    exact ⟨h2, h3⟩
  cases h with
  | tru ho =>
    rw [(so ho (by decide) (by decide)).1]
    exact fun _ => ⟨hc, zero_sort hc.chk⟩
  | neg ho s' x hp =>
    obtain ⟨e, hA⟩ := so ho (by decide) (by decide)
    have hl := al ho (by decide) (k := 1) rfl
    rw [e]
    exact hp.gd (fun _ => hc) (fun _ => ⟨hV 0 (by omega), hA (by decide) 0 (by omega)⟩)
  | kind ho s' x hp =>
    have h13 : nd.op ≠ 13 := by omega
    have hl : nd.len.toNat = 2 := by rcases ho with e | e; exact al e (by decide) rfl; exact al e (by decide) rfl
    have := hp.gd hc (by omega) (by omega) (fun _ o => absurd o (by omega)) (fun _ o => absurd o (by omega))
    rw [ht h13] at this
    exact this
  | xor ho s1 y hy s' x hp =>
    obtain ⟨e, hA⟩ := so ho (by decide) (by decide)
    have hl := al ho (by decide) (k := 2) rfl
    have g1 := hy.grow hc.chk
    rw [e]
    have hy' := hy.gd hc (by omega) (by decide) (fun _ o => absurd o (by decide)) (fun _ _ => by
      have := hA (by decide) 0 (by omega)
      have h0 : (s.N (V 0).toNat).sort = 0 := this
      exact ⟨by rw [h0]; decide, .inl h0⟩)
    refine hp.gd (fun he => (hy' he).1) (fun he => ⟨⟨g1.x0, g1.x1⟩, ?_⟩)
    rw [(hy' he).2, (opT_fst (hy.fine he).2 (by decide)).1]
    rfl
  | imp ho s1 y hy s' x hp =>
    obtain ⟨e, hA⟩ := so ho (by decide) (by decide)
    have hl := al ho (by decide) (k := 2) rfl
    rw [e]
    intro he
    obtain ⟨he1, ht1⟩ := hp.fine he
    have c1 := (hy.gd (fun _ => hc) (fun _ => ⟨hV 0 (by omega), hA (by decide) 0 (by omega)⟩)) he1
    have := (hp.gd c1.1 (by omega) (by decide) (fun _ o => absurd o (by decide)) (fun _ o => absurd o (by decide))) he
    rw [(opT_fst ht1 (by decide)).1] at this
    exact this
  | eq ho s' x hp => rw [(so ho (by decide) (by decide)).1]; exact hp.gd hc.chk (fun _ => hc)
  | ite ho s' x hp =>
    have hl := al ho (by decide) (k := 3) rfl
    have h7 := ht (by rw [ho]; decide)
    rw [ho] at h7
    obtain ⟨_, _, _, e⟩ := opT_ite h7
    have e : nd.sort = (s.N (V 1).toNat).sort := e
    rw [e]
    exact hp.gd hc.chk (fun _ => hc) (fun _ => ⟨hV 1 (by omega), hV 2 (by omega)⟩)
  | le ho s' x hp => rw [(so ho (by decide) (by decide)).1]; exact hp.gd hc
  | lt ho s' x hp => rw [(so ho (by decide) (by decide)).1]; exact hp.gd hc
  | num ho m M x er hp => rw [(so ho (by decide) (by decide)).1]; exact kept_gd fun he => hp.gd hc he
  | add ho m M x er hp => rw [(so ho (by decide) (by decide)).1]; exact kept_gd fun he => hp.gd hc he
  | diff ho s' x hp => rw [(so ho (by decide) (by decide)).1]; exact hp.gd hc
  | app ho s' x hp =>
    have o13 : (appNd nd V).op = 13 := ho
    show Gd s' x (appNd nd V).sort
    exact hp.gd hc (fun _ => ⟨fun o => by omega, fun o => by omega, ⟨by omega, by omega, by omega, by omega⟩, fun o => by omega, fun o => by omega, by unfold fitN; rw [if_pos o13]⟩)
end
end Go.Proofs.Ytecmoahadckomaa
