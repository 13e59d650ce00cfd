/- Plain words: what a maker's methods come to. No program is walked here. -/
import Derived.Test.YtecmoahadckomaaZSetBoxMkM
import Derived.Test.YtecmoahadckomaaZTyWR6OpR6OpB
import Derived.Test.YtecmoahadckomaaZOffDOffGR11Of
namespace Go.Proofs.Ytecmoahadckomaa

/-- What a put left is kept, or its error. -/
def keptS (s : CSt) (m : Nat) (M : Nat → Nd) (er : Int) : CSt := if er = 0 then ⟨m, M, 0⟩ else ⟨s.n, s.N, er⟩
theorem keptS_ok (s : CSt) (m : Nat) (M : Nat → Nd) : keptS s m M 0 = ⟨m, M, 0⟩ := if_pos rfl
theorem keptS_no {s : CSt} {m : Nat} {M : Nat → Nd} {er : Int} (h : er ≠ 0) : keptS s m M er = ⟨s.n, s.N, er⟩ := if_neg h
/-- A node put. -/
inductive NodeR (most : Int) (s : CSt) (nd : Nd) : CSt → Int → Prop
  | err (h : s.e ≠ 0) : NodeR most s nd s 0
  | put (h : s.e = 0) (m : Nat) (M : Nat → Nd) (x er : Int) (hp : PutR s.n s.N nd most m M x er) : NodeR most s nd (keptS s m M er) x
/-- A node of kind op and of the places A. -/
def opNd (op : Int) (k : Nat) (A : Nat → Int) (so : Int) : Nd := ⟨op, k, if 0 < k then A 0 else 0, if 1 < k then A 1 else 0, if 2 < k then A 2 else 0, so, 0, 0⟩
def sortsA (s : CSt) (A : Nat → Int) (i : Nat) : Int := (s.N (A i).toNat).sort
inductive PutOpR (most : Int) (s : CSt) (op : Int) (k : Nat) (A : Nat → Int) : CSt → Int → Prop
  | err (h : s.e ≠ 0) : PutOpR most s op k A s 0
  | sort (h : s.e = 0) (hs : (opT op k (sortsA s A)).2 ≠ 0) : PutOpR most s op k A ⟨s.n, s.N, 33⟩ 0
  | put (h : s.e = 0) (hs : (opT op k (sortsA s A)).2 = 0) (s' : CSt) (x : Int) (hp : NodeR most s (opNd op k A (opT op k (sortsA s A)).1) s' x) : PutOpR most s op k A s' x
inductive DiffMR (most : Int) (s : CSt) (a b c : Int) : CSt → Int → Prop
  | err (h : s.e ≠ 0) : DiffMR most s a b c s 0
  | put (h : s.e = 0) (m : Nat) (M : Nat → Nd) (x : Int) (is : Bool) (er : Int) (hp : LeT s.n s.N a b c most m M x is er) : DiffMR most s a b c (keptS s m M er) x
def pk2 (a b : Int) (i : Nat) : Int := if i = 0 then a else b
def pk1 (a : Int) (_ : Nat) : Int := a
def pk3' (a b c : Int) (i : Nat) : Int := if i = 0 then a else if i = 1 then b else c
inductive NotMR (most : Int) (s : CSt) (a : Int) : CSt → Int → Prop
  | back (h : s.e = 0) (ho : (s.N a.toNat).op = 1) : NotMR most s a s (s.N a.toNat).a0
  | put (h : ¬ (s.e = 0 ∧ (s.N a.toNat).op = 1)) (s' : CSt) (x : Int) (hp : PutOpR most s 1 1 (pk1 a) s' x) : NotMR most s a s' x
inductive SameMR (most : Int) (s : CSt) (a b : Int) : CSt → Int → Prop
  | one (h : a = b) : SameMR most s a b s 0
  | put (h : a ≠ b) (s' : CSt) (x : Int) (hp : PutOpR most s 6 2 (pk2 (min a b) (max a b)) s' x) : SameMR most s a b s' x
inductive EqualMR (most : Int) (s : CSt) (a b : Int) : CSt → Int → Prop
  | err (h : s.e ≠ 0) : EqualMR most s a b s 0
  | sort (h : s.e = 0) (hs : (s.N a.toNat).sort ≠ (s.N b.toNat).sort) : EqualMR most s a b ⟨s.n, s.N, 33⟩ 0
  | bool (h : s.e = 0) (hs : (s.N a.toNat).sort = (s.N b.toNat).sort) (h0 : (s.N a.toNat).sort = 0) (s' : CSt) (x : Int) (hp : PutOpR most s 6 2 (pk2 a b) s' x) : EqualMR most s a b s' x
  | own (h : s.e = 0) (hs : (s.N a.toNat).sort = (s.N b.toNat).sort) (h0 : (s.N a.toNat).sort ≠ 0) (h1 : (s.N a.toNat).sort ≠ 1) (s' : CSt) (x : Int) (hp : SameMR most s a b s' x) : EqualMR most s a b s' x
  | int (h : s.e = 0) (hs : (s.N a.toNat).sort = (s.N b.toNat).sort) (h1 : (s.N a.toNat).sort = 1) (s1 : CSt) (x : Int) (hx : DiffMR most s a b 0 s1 x) (s2 : CSt) (y : Int) (hy : DiffMR most s1 b a 0 s2 y) (s' : CSt) (z : Int) (hp : PutOpR most s2 2 2 (pk2 x y) s' z) : EqualMR most s a b s' z
/-- What stands behind a choice i, for the place x. -/
inductive BehindR (most : Int) (so : Int) (s : CSt) (i x : Int) : CSt → Prop
  | bool (h : so = 0) : BehindR most so s i x s
  | int (h : so = 1) (s1 : CSt) (y : Int) (hy : DiffMR most s i x 0 s1 y) (s2 : CSt) (z : Int) (hz : DiffMR most s1 x i 0 s2 z) : BehindR most so s i x s2
  | own (h0 : so ≠ 0) (h1 : so ≠ 1) (s' : CSt) (y : Int) (hy : SameMR most s i x s' y) : BehindR most so s i x s'
inductive IteMR (most : Int) (s : CSt) (a b c : Int) : CSt → Int → Prop
  | err (h : s.e ≠ 0) : IteMR most s a b c s 0
  | sort (h : s.e = 0) (hs : (opT 7 3 (sortsA s (pk3' a b c))).2 ≠ 0) : IteMR most s a b c ⟨s.n, s.N, 33⟩ 0
  | one (h : s.e = 0) (hs : (opT 7 3 (sortsA s (pk3' a b c))).2 = 0) (hb : b = c) : IteMR most s a b c s b
  | put (h : s.e = 0) (hs : (opT 7 3 (sortsA s (pk3' a b c))).2 = 0) (hb : b ≠ c) (s1 : CSt) (i : Int) (hi : PutOpR most s 7 3 (pk3' a b c) s1 i) (s2 : CSt) (h2 : BehindR most (s.N b.toNat).sort s1 i b s2) (s3 : CSt) (h3 : BehindR most (s.N b.toNat).sort s2 i c s3) : IteMR most s a b c s3 i
/-- An application's node of the images V. -/
def appNd (nd : Nd) (V : Nat → Int) : Nd := ⟨nd.op, nd.len, if 0 < nd.len then V 0 else 0, if 1 < nd.len then V 1 else 0, if 2 < nd.len then V 2 else 0, nd.sort, nd.fn, nd.num⟩
/-- A node's image, its Args' images being V. -/
inductive WayR (most : Int) (s : CSt) (nd : Nd) (V : Nat → Int) : CSt → Int → Prop
  | tru (h : nd.op = 0) : WayR most s nd V s 0
  | neg (h : nd.op = 1) (s' : CSt) (x : Int) (hp : NotMR most s (V 0) s' x) : WayR most s nd V s' x
  | kind (h : nd.op = 2 ∨ nd.op = 3) (s' : CSt) (x : Int) (hp : PutOpR most s nd.op nd.len.toNat V s' x) : WayR most s nd V s' x
  | xor (h : nd.op = 4) (s1 : CSt) (y : Int) (hy : PutOpR most s 6 nd.len.toNat V s1 y) (s' : CSt) (x : Int) (hp : NotMR most s1 y s' x) : WayR most s nd V s' x
  | imp (h : nd.op = 5) (s1 : CSt) (y : Int) (hy : NotMR most s (V 0) s1 y) (s' : CSt) (x : Int) (hp : PutOpR most s1 3 2 (pk2 y (V 1)) s' x) : WayR most s nd V s' x
  | eq (h : nd.op = 6) (s' : CSt) (x : Int) (hp : EqualMR most s (V 0) (V 1) s' x) : WayR most s nd V s' x
  | ite (h : nd.op = 7) (s' : CSt) (x : Int) (hp : IteMR most s (V 0) (V 1) (V 2) s' x) : WayR most s nd V s' x
  | le (h : nd.op = 8) (s' : CSt) (x : Int) (hp : DiffMR most s (V 0) (V 1) 0 s' x) : WayR most s nd V s' x
  | lt (h : nd.op = 9) (s' : CSt) (x : Int) (hp : DiffMR most s (V 0) (V 1) (-1) s' x) : WayR most s nd V s' x
  | num (h : nd.op = 10) (m : Nat) (M : Nat → Nd) (x er : Int) (hp : OPutR s.n s.N 1 nd.num most m M x er) : WayR most s nd V (keptS s m M er) x
  | add (h : nd.op = 11) (m : Nat) (M : Nat → Nd) (x er : Int) (hp : OAddR s.n s.N (V 0) nd.num most m M x er) : WayR most s nd V (keptS s m M er) x
  | diff (h : nd.op = 12) (s' : CSt) (x : Int) (hp : DiffMR most s (V 0) (V 1) nd.num s' x) : WayR most s nd V s' x
  | app (h : nd.op = 13) (s' : CSt) (x : Int) (hp : NodeR most s (appNd nd V) s' x) : WayR most s nd V s' x
end Go.Proofs.Ytecmoahadckomaa

namespace Go.Proofs.Ytecmoahadckomaa
open Go.RowKit

structure PutG (n : Nat) (N : Nat → Nd) (m : Nat) (M : Nat → Nd) (x er : Int) : Prop where
  ok : er = 0 → (n ≤ m ∧ m ≤ n + 1) ∧ (∀ i, i < n → M i = N i) ∧ CheckP m M ∧ 0 ≤ x ∧ x < m
  no : er ≠ 0 → x = 0
theorem PutR.grow {n : Nat} {N : Nat → Nd} {e : Nd} {most : Int} {m : Nat} {M : Nat → Nd} {x er : Int} (h : PutR n N e most m M x er) : PutG n N m M x er := by
  refine ⟨fun he => ?_, fun he => ?_⟩
  · subst he
    obtain ⟨j, rfl, hj, _, hc, hm, hold, _⟩ := h.good
    exact ⟨hm, hold, hc, by omega, by omega⟩
  · cases h with
    | arg => rfl
    | many => rfl
    | there => exact absurd rfl he
    | put => exact absurd rfl he
theorem LeT.grow {n : Nat} {N : Nat → Nd} {a b c most : Int} {m : Nat} {M : Nat → Nd} {id : Int} {is : Bool} {er : Int} (hc : CheckP n N) (h : LeT n N a b c most m M id is er) : PutG n N m M id er := by
  have h2 := hc.two
  cases h with
  | err x y d er h he => exact ⟨fun h => absurd h he, fun _ => rfl⟩
  | tru => exact ⟨fun _ => ⟨⟨Nat.le_refl _, by omega⟩, fun _ _ => rfl, hc, by omega, by omega⟩, fun h => absurd rfl h⟩
  | fls _ _ _ _ _ _ _ _ hp => exact hp.grow
  | diff _ _ _ _ _ _ _ _ _ hp => exact hp.grow
theorem OPutR.grow {n : Nat} {N : Nat → Nd} {b k most : Int} {m : Nat} {M : Nat → Nd} {id er : Int} (h : OPutR n N b k most m M id er) : PutG n N m M id er := by
  cases h with
  | of _ _ _ _ he => exact ⟨fun h => absurd h he, fun _ => rfl⟩
  | own => exact ⟨fun h => absurd h (by decide), fun _ => rfl⟩
  | over => exact ⟨fun h => absurd h (by decide), fun _ => rfl⟩
  | zero _ _ _ _ _ _ _ _ hp => exact hp.grow
  | same m h hk hz h0 =>
    obtain ⟨hc, i, b', e, hi, _⟩ := h.good rfl
    exact ⟨fun _ => ⟨⟨Nat.le_refl _, by omega⟩, fun _ _ => rfl, hc, by omega, by omega⟩, fun h => absurd rfl h⟩
  | add _ _ _ _ _ _ _ _ _ hp => exact hp.grow
theorem OAddR.grow {n : Nat} {N : Nat → Nd} {i x most : Int} {m : Nat} {M : Nat → Nd} {id er : Int} (h : OAddR n N i x most m M id er) : PutG n N m M id er := by
  cases h with
  | of _ _ _ _ he => exact ⟨fun h => absurd h he, fun _ => rfl⟩
  | over => exact ⟨fun h => absurd h (by decide), fun _ => rfl⟩
  | put _ _ _ _ _ _ _ _ hp => exact hp.grow
/-- How a maker's table grows. -/
structure StG (k : Nat) (s s' : CSt) : Prop where
  more : s.n ≤ s'.n
  size : s'.n ≤ s.n + k
  old : ∀ i, i < s.n → s'.N i = s.N i
  chk : CheckP s'.n s'.N
  bad : s.e ≠ 0 → s'.e ≠ 0
structure GrowsR (k : Nat) (s s' : CSt) (x : Int) : Prop where
  st : StG k s s'
  x0 : 0 ≤ x
  x1 : x < s'.n
theorem StG.refl {s : CSt} (h : CheckP s.n s.N) : StG 0 s s := ⟨Nat.le_refl _, Nat.le_refl _, fun _ _ => rfl, h, fun h => h⟩
theorem StG.trans {k l : Nat} {s t u : CSt} (h : StG k s t) (h' : StG l t u) : StG (k + l) s u :=
  ⟨Nat.le_trans h.more h'.more, by have := h.size; have := h'.size; omega, fun i hi => (h'.old i (Nat.lt_of_lt_of_le hi h.more)).trans (h.old i hi), h'.chk, fun e => h'.bad (h.bad e)⟩
theorem StG.mono {k l : Nat} {s t : CSt} (h : StG k s t) (hl : k ≤ l) : StG l s t := ⟨h.more, by have := h.size; omega, h.old, h.chk, h.bad⟩
theorem GrowsR.mono {k l : Nat} {s t : CSt} {x : Int} (h : GrowsR k s t x) (hl : k ≤ l) : GrowsR l s t x := ⟨h.st.mono hl, h.x0, h.x1⟩
theorem GrowsR.after {k l : Nat} {s t u : CSt} {x : Int} (h : StG k s t) (h' : GrowsR l t u x) : GrowsR (k + l) s u x := ⟨h.trans h'.st, h'.x0, h'.x1⟩
theorem GrowsR.zero {s : CSt} (h : CheckP s.n s.N) : GrowsR 0 s s 0 := ⟨StG.refl h, Int.le_refl _, by have := h.two; omega⟩
theorem kept_grow {s : CSt} (hc : CheckP s.n s.N) {m : Nat} {M : Nat → Nd} {x er : Int} (h : PutG s.n s.N m M x er) (h0 : s.e = 0) : GrowsR 1 s (keptS s m M er) x := by
  have h2 := hc.two
  by_cases he : er = 0
  · subst he
    obtain ⟨hm, hold, hc', x0, x1⟩ := h.ok rfl
    rw [keptS_ok]
    exact ⟨⟨hm.1, hm.2, hold, hc', fun h => absurd h0 h⟩, x0, x1⟩
  · rw [h.no he, keptS_no he]
    exact ⟨⟨Nat.le_refl _, by show s.n ≤ s.n + 1; omega, fun _ _ => rfl, hc, fun _ => he⟩, Int.le_refl _, by show (0 : Int) < s.n; omega⟩
section
variable {most : Int} {s s' : CSt} {x : Int}
theorem fail_grow (hc : CheckP s.n s.N) (er : Int) (he : er ≠ 0) : GrowsR 0 s ⟨s.n, s.N, er⟩ 0 := by
  have h2 := hc.two
  exact ⟨⟨Nat.le_refl _, Nat.le_refl _, fun _ _ => rfl, hc, fun _ => he⟩, Int.le_refl _, by show (0 : Int) < s.n; omega⟩
theorem NodeR.grow (hc : CheckP s.n s.N) {nd : Nd} (h : NodeR most s nd s' x) : GrowsR 1 s s' x := by
  cases h with
  | err h => exact (GrowsR.zero hc).mono (by omega)
  | put h m M x er hp => exact kept_grow hc hp.grow h
theorem PutOpR.grow (hc : CheckP s.n s.N) {op : Int} {k : Nat} {A : Nat → Int} (h : PutOpR most s op k A s' x) : GrowsR 1 s s' x := by
  cases h with
  | err h => exact (GrowsR.zero hc).mono (by omega)
  | sort h hs => exact (fail_grow hc 33 (by decide)).mono (by omega)
  | put h hs s' x hp => exact hp.grow hc
theorem DiffMR.grow (hc : CheckP s.n s.N) {a b c : Int} (h : DiffMR most s a b c s' x) : GrowsR 1 s s' x := by
  cases h with
  | err h => exact (GrowsR.zero hc).mono (by omega)
  | put h m M x is er hp => exact kept_grow hc (hp.grow hc) h
theorem NotMR.grow (hc : CheckP s.n s.N) {a : Int} (ha : s.e = 0 → 0 ≤ a ∧ a < s.n) (h : NotMR most s a s' x) : GrowsR 1 s s' x := by
  cases h with
  | back h ho =>
    obtain ⟨a0, a1⟩ := ha h
    have hs := hc.all a.toNat (by omega)
    have hl := hs.len (by rw [ho]; decide)
    have hl : (s.N a.toNat).len = 1 := by rw [hl, ho]; decide
    have h0 : 0 ≤ (s.N a.toNat).a0 ∧ (s.N a.toNat).a0 < (a.toNat : Int) := hs.arg0.1 (by show ((0 : Nat) : Int) < _; omega)
    exact ⟨(StG.refl hc).mono (by omega), h0.1, by omega⟩
  | put h s' x hp => exact hp.grow hc
theorem SameMR.grow (hc : CheckP s.n s.N) {a b : Int} (h : SameMR most s a b s' x) : GrowsR 1 s s' x := by
  cases h with
  | one h => exact (GrowsR.zero hc).mono (by omega)
  | put h s' x hp => exact hp.grow hc
theorem EqualMR.grow (hc : CheckP s.n s.N) {a b : Int} (h : EqualMR most s a b s' x) : GrowsR 3 s s' x := by
  cases h with
  | err h => exact (GrowsR.zero hc).mono (by omega)
  | sort h hs => exact (fail_grow hc 33 (by decide)).mono (by omega)
  | bool h hs h0 s' x hp => exact (hp.grow hc).mono (by omega)
  | own h hs h0 h1 s' x hp => exact (hp.grow hc).mono (by omega)
  | int h hs h1 s1 x hx s2 y hy s' z hp =>
    have g1 := hx.grow hc
    have g2 := hy.grow g1.st.chk
    have g3 := hp.grow g2.st.chk
    exact GrowsR.after (g1.st.trans g2.st) g3
theorem BehindR.grow (hc : CheckP s.n s.N) {so i x : Int} (h : BehindR most so s i x s') : StG 2 s s' := by
  cases h with
  | bool h => exact (StG.refl hc).mono (by omega)
  | int h s1 y hy s2 z hz =>
    have g1 := hy.grow hc
    exact g1.st.trans (hz.grow g1.st.chk).st
  | own h0 h1 s' y hy => exact (hy.grow hc).st.mono (by omega)
theorem IteMR.grow (hc : CheckP s.n s.N) {a b c : Int} (hb : s.e = 0 → 0 ≤ b ∧ b < s.n) (h : IteMR most s a b c s' x) : GrowsR 5 s s' x := by
  cases h with
  | err h => exact (GrowsR.zero hc).mono (by omega)
  | sort h hs => exact (fail_grow hc 33 (by decide)).mono (by omega)
  | one h hs hbc => exact ⟨(StG.refl hc).mono (by omega), (hb h).1, (hb h).2⟩
  | put h hs hbc s1 i hi s2 h2 s3 h3 =>
    have g1 := hi.grow hc
    have g2 := h2.grow g1.st.chk
    have g3 := h3.grow g2.chk
    exact ⟨(g1.st.trans g2).trans g3, g1.x0, by have := g2.more; have := g3.more; have := g1.x1; omega⟩
end
end Go.Proofs.Ytecmoahadckomaa
