/- Plain: a table whose nodes are copies of a core table's. No program in sight. -/
import Derived.Test.YtecmoahadckomaaZAgAAgB
namespace Go.Proofs.Ytecmoahadckomaa
open Go.RowKit

/-- s's nodes are copies of N's: j of ps j. -/
structure Dn (n : Nat) (N : Nat → Nd) (s : CSt) (ps : Nat → Nat) : Prop where
  chk : CheckP s.n s.N
  own : ∀ j, j < s.n → OwnOk s.N (s.N j)
  ok : s.e = 0
  lt : ∀ j, j < s.n → ps j < n
  cp : ∀ j, j < s.n → CopyP N ps (s.N j) (N (ps j))
  p0 : ps 0 = 0
  p1 : ps 1 = 1
/-- What a step comes to: the copies so far stay, and x is the copy of i. -/
structure Sn (n : Nat) (N : Nat → Nd) (s : CSt) (ps : Nat → Nat) (s' : CSt) (ps' : Nat → Nat) (x : Int) (i : Nat) : Prop where
  dn : Dn n N s' ps'
  more : s.n ≤ s'.n
  old : ∀ j, j < s.n → s'.N j = s.N j
  same : ∀ j, j < s.n → ps' j = ps j
  x0 : 0 ≤ x
  x1 : x < s'.n
  img : ps' x.toNat = i
theorem CopyP.congr {N : Nat → Nd} {ps ps' : Nat → Nat} {e f : Nd} {t : Int} {m : Nat} (h : CopyP N ps e f) (hs : StandsP e t) (ht : t ≤ m) (hm : 0 < m) (hp : ∀ j, j < m → ps' j = ps j) : CopyP N ps' e f := by
  obtain ⟨al, a⟩ := h
  refine ⟨al, ?_⟩
  rcases a with a | ⟨a1, a2, a3, a4⟩
  · exact .inl fun k hk hl => by rw [hp _ (arg_ltE hs ht hm k)]; exact a k hk hl
  · exact .inr ⟨a1, a2, by rw [show ps' e.a0.toNat = ps e.a0.toNat from hp _ (arg_ltE hs ht hm 0)]; exact a3, by rw [show ps' e.a1.toNat = ps e.a1.toNat from hp _ (arg_ltE hs ht hm 1)]; exact a4⟩
section
variable {n : Nat} {N : Nat → Nd} {s : CSt} {ps : Nat → Nat}
theorem Dn.sort (h : Dn n N s ps) {j : Nat} (hj : j < s.n) : (s.N j).sort = (N (ps j)).sort := (h.cp j hj).1.sort
theorem Dn.argSort (h : Dn n N s ps) {e : Nd} {t : Int} (hs : StandsP e t) (ht : t ≤ s.n) (k : Nat) : (s.N (e.arg k).toNat).sort = (N (ps (e.arg k).toNat)).sort :=
  h.sort (arg_ltE hs ht (by have := h.chk.two; omega) k)
theorem Dn.inj (hC : CoreP n N) (h : Dn n N s ps) : ∀ j, j < s.n → ∀ j', j' < s.n → ps j = ps j' → j = j' := by
  intro j
  induction j using Nat.strongRecOn with
  | _ j ih =>
    intro hj j' hj' e
    have h2 := h.chk.two
    have hs := h.chk.all j hj
    have hs' := h.chk.all j' hj'
    have hc' := h.cp j' hj'
    rw [← e] at hc'
    have hp := h.lt j hj
    refine h.chk.inj hj hj' ((h.cp j hj).uni_d hc' hs hs' (hC.chk.all _ hp) (h.own j hj) (h.own j' hj') (hC.ok _ hp).fit (fun k _ => h.argSort hs (by omega) k) (fun k _ => h.argSort hs' (by omega) k) fun k l hk hl hkl hll he => ?_)
    have lt : (((s.N j).arg k).toNat : Int) < j := by
      have : k = 0 ∨ k = 1 ∨ k = 2 := by omega
      rcases this with rfl | rfl | rfl
      · have := hs.arg0.1 hkl; omega
      · have := hs.arg1.1 hkl; omega
      · have := hs.arg2.1 hkl; omega
    exact ih _ (by omega) (by omega) _ (arg_ltE hs' (by omega) (by omega) l) he
theorem Dn.put (hC : CoreP n N) {most : Int} (hI : MadeI most (-1) n N) (h : Dn n N s ps) {e : Nd} {i : Nat} (hi : i < n) (hc : CopyP N ps e (N i)) (hs : StandsP e s.n) (ho : OwnOk s.N e) {m : Nat} {M : Nat → Nd} {x er : Int} (hp : PutR s.n s.N e most m M x er) :
    er = 0 ∧ ∃ ps', Sn n N s ps ⟨m, M, 0⟩ ps' x i := by
  have h2 := h.chk.two
  have hst := hC.chk.all i hi
  have back : ∀ j, j < s.n → ps j = i → s.N j = e := fun j hj hji => by
    have hcj := h.cp j hj
    rw [hji] at hcj
    have hsj := h.chk.all j hj
    exact hcj.uni_d hc hsj hs hst (h.own j hj) ho (hC.ok i hi).fit (fun k _ => h.argSort hsj (by omega) k) (fun k _ => h.argSort hs (by omega) k) fun k l _ _ _ _ he => h.inj hC _ (arg_ltE hsj (by omega) (by omega) k) _ (arg_ltE hs (by omega) (by omega) l) he
  cases hp with
  | arg hn => exact absurd ⟨h.chk, hs⟩ hn
  | there _ _ j hj hje =>
    have hcj := h.cp j hj
    rw [hje] at hcj
    have hpj := h.lt j hj
    have hji : ps j = i := hC.chk.inj hpj hi (hcj.uni_c hc (hC.chk.all _ hpj) hst (hI.own _ hpj) (hI.own i hi) (hC.ok _ hpj).fit (hC.ok i hi).fit)
    exact ⟨rfl, ps, ⟨h.chk, h.own, rfl, h.lt, h.cp, h.p0, h.p1⟩, Nat.le_refl _, fun _ _ => rfl, fun _ _ => rfl, by omega, by show (j : Int) < (s.n : Int); omega, by rw [Int.toNat_natCast]; exact hji⟩
  | many _ _ hne hm =>
    exfalso
    have := inj_le n (s.n + 1) (fun j => if j < s.n then ps j else i) (fun j hj => by
      show (if j < s.n then ps j else i) < n
      split
      · exact h.lt j (by omega)
      · exact hi) (fun j j' hj hj' e => by
      have e : (if j < s.n then ps j else i) = (if j' < s.n then ps j' else i) := e
      split at e <;> split at e
      · exact h.inj hC j (by omega) j' (by omega) e
      · exact absurd (back j (by omega) e) (hne j (by omega))
      · exact absurd (back j' (by omega) e.symm) (hne j' (by omega))
      · omega)
    have := hI.few
    omega
  | put _ _ hne hm =>
    have old : ∀ j, j < s.n → (if j < s.n then ps j else i) = ps j := fun j hj => if_pos hj
    have hM : ∀ j, j < s.n → extN s.N s.n e j = s.N j := fun j hj => extN_lt hj
    refine ⟨rfl, fun j => if j < s.n then ps j else i, ⟨h.chk.ext hs hne, fun j hj => ?_, rfl, fun j hj => ?_, fun j hj => ?_, ?_, ?_⟩, by show s.n ≤ s.n + 1; omega, hM, old, by omega, by show (s.n : Int) < ((s.n + 1 : Nat) : Int); omega, by rw [Int.toNat_natCast]; exact if_neg (Nat.lt_irrefl _)⟩
    · have hj : j < s.n + 1 := hj
      show OwnOk (extN s.N s.n e) (extN s.N s.n e j)
      by_cases hjn : j < s.n
      · rw [hM j hjn]
        exact (h.own j hjn).more (h.chk.all j hjn) (by omega) (by omega) hM
      · obtain rfl : j = s.n := by omega
        rw [extN_at]
        exact ho.more hs (Int.le_refl _) (by omega) hM
    · show (if j < s.n then ps j else i) < n
      split
      · exact h.lt j (by omega)
      · exact hi
    · have hj : j < s.n + 1 := hj
      show CopyP N (fun j => if j < s.n then ps j else i) (extN s.N s.n e j) (N (if j < s.n then ps j else i))
      by_cases hjn : j < s.n
      · rw [hM j hjn, if_pos hjn]
        exact (h.cp j hjn).congr (h.chk.all j hjn) (by omega) (by omega) old
      · obtain rfl : j = s.n := by omega
        rw [extN_at, if_neg hjn]
        exact hc.congr hs (Int.le_refl _) (by omega) old
    · show (if 0 < s.n then ps 0 else i) = 0
      rw [if_pos (by omega)]; exact h.p0
    · show (if 1 < s.n then ps 1 else i) = 1
      rw [if_pos (by omega)]; exact h.p1
theorem Dn.refl (h : Dn n N s ps) {x : Int} {i : Nat} (x0 : 0 ≤ x) (x1 : x < s.n) (hi : ps x.toNat = i) : Sn n N s ps s ps x i := ⟨h, Nat.le_refl _, fun _ _ => rfl, fun _ _ => rfl, x0, x1, hi⟩
theorem Sn.trans {s1 s2 : CSt} {p1 p2 : Nat → Nat} {x y : Int} {i k : Nat} (h : Sn n N s ps s1 p1 x i) (h' : Sn n N s1 p1 s2 p2 y k) : Sn n N s ps s2 p2 y k :=
  ⟨h'.dn, Nat.le_trans h.more h'.more, fun j hj => (h'.old j (Nat.lt_of_lt_of_le hj h.more)).trans (h.old j hj), fun j hj => (h'.same j (Nat.lt_of_lt_of_le hj h.more)).trans (h.same j hj), h'.x0, h'.x1, h'.img⟩
theorem Dn.few (hC : CoreP n N) (h : Dn n N s ps) : s.n ≤ n := inj_le n s.n ps h.lt fun i j hi hj e => h.inj hC i hi j hj e
end
end Go.Proofs.Ytecmoahadckomaa

namespace Go.Proofs.Ytecmoahadckomaa
open Go.RowKit

section
variable {n : Nat} {N : Nat → Nd} {s s' : CSt} {ps : Nat → Nat} {most x : Int}
theorem Dn.node (hC : CoreP n N) (hI : MadeI most (-1) n N) (h : Dn n N s ps) {nd : Nd} (hr : NodeR most s nd s' x) {i : Nat} (hi : i < n) (hc : CopyP N ps nd (N i)) (hs : StandsP nd s.n) (ho : OwnOk s.N nd) : ∃ ps', Sn n N s ps s' ps' x i := by
  cases hr with
  | err hh => exact absurd h.ok hh
  | put hh m M x er hp =>
    obtain ⟨rfl, ps', hS⟩ := h.put hC hI hi hc hs ho hp
    rw [keptS_ok]
    exact ⟨ps', hS⟩
theorem opNd_arg {op : Int} {k : Nat} {A : Nat → Int} {so : Int} (j : Nat) (hj : j < 3) : (opNd op k A so).arg j = if j < k then A j else 0 := by
  have : j = 0 ∨ j = 1 ∨ j = 2 := by omega
  rcases this with rfl | rfl | rfl <;> rfl
/-- A node of the images A, so the copy of a node whose Args these are images of. -/
theorem opNd_copy {f : Nd} {t : Int} {k : Nat} {A : Nat → Int} {m : Nat} (hst : StandsP f t) (hop : f.op ≠ 10 ∧ f.op ≠ 11 ∧ f.op ≠ 12 ∧ f.op ≠ 13) (hl : f.len = k) (hk : k ≤ 3) (hA : ∀ j, j < k → 0 ≤ A j ∧ A j < m) :
    AlikeN (opNd f.op k A f.sort) f ∧ StandsP (opNd f.op k A f.sort) m := by
  have hfn : f.fn = 0 := Classical.byContradiction fun h => hop.2.2.2 (hst.app h)
  have hnum := hst.num0 hop.1 hop.2.1 hop.2.2.1
  have ha : ∀ j : Nat, j < 3 → argP (opNd f.op k A f.sort) m j := fun j hj => by
    unfold argP
    rw [opNd_arg j hj]
    refine ⟨fun h => ?_, fun h => ?_⟩
    · have h : (j : Int) < (k : Int) := h
      rw [if_pos (by omega)]
      exact hA j (by omega)
    · have h : (k : Int) ≤ (j : Int) := h
      rw [if_neg (by omega)]
  refine ⟨⟨rfl, hl.symm, rfl, hfn.symm, hnum.symm⟩, hst.kind, fun h => ?_, by show (0 : Int) ≤ (k : Int); omega, by show (k : Int) ≤ 3; omega, hst.sort0, hst.sort6, ha 0 (by omega), ha 1 (by omega), ha 2 (by omega), by show (0 : Int) ≤ 0; decide, by show (0 : Int) < 12; decide, fun h => absurd rfl h, fun h => ?_, fun _ _ _ => rfl⟩
  · exact hl.symm.trans (hst.len h)
  · have h : f.op = 10 ∨ f.op = 11 ∨ f.op = 12 := h
    omega
theorem Dn.sorts (hC : CoreP n N) (h : Dn n N s ps) {i : Nat} (hi : i < n) (h13 : (N i).op ≠ 13) {k : Nat} {A : Nat → Int} (hl : (N i).len = k) (hA : ∀ j, j < k → (0 ≤ A j ∧ A j < s.n) ∧ ((ps (A j).toNat : Nat) : Int) = (N i).arg j) : opT (N i).op k (sortsA s A) = ((N i).sort, 0) := by
  have hf := fit_of (hC.ok i hi).fit h13
  rw [hl, Int.toNat_natCast] at hf
  rw [← hf]
  refine opT_congr fun j hj => ?_
  obtain ⟨⟨a0, a1⟩, a2⟩ := hA j hj
  show (s.N (A j).toNat).sort = (N ((N i).arg j).toNat).sort
  rw [h.sort (by omega), ← a2, Int.toNat_natCast]
theorem Dn.kind (hC : CoreP n N) (hI : MadeI most (-1) n N) (h : Dn n N s ps) {i : Nat} (hi : i < n) (hop : (N i).op ≠ 10 ∧ (N i).op ≠ 11 ∧ (N i).op ≠ 12 ∧ (N i).op ≠ 13) {k : Nat} {A : Nat → Int} (hl : (N i).len = k) (hk : k ≤ 3)
    (hA : ∀ j, j < k → (0 ≤ A j ∧ A j < s.n) ∧ ((ps (A j).toNat : Nat) : Int) = (N i).arg j) (ho : OwnOk s.N (opNd (N i).op k A (N i).sort)) (hr : PutOpR most s (N i).op k A s' x) : ∃ ps', Sn n N s ps s' ps' x i := by
  have ht := h.sorts hC hi hop.2.2.2 hl hA
  obtain ⟨al, hs⟩ := opNd_copy (m := s.n) (A := A) (hC.chk.all i hi) hop hl hk fun j hj => (hA j hj).1
  cases hr with
  | err hh => exact absurd h.ok hh
  | sort _ hs => rw [ht] at hs; exact absurd rfl hs
  | put _ _ _ _ hp =>
    rw [ht] at hp
    refine h.node hC hI hp hi ⟨al, .inl fun j hj hjl => ?_⟩ hs ho
    have hjl : (j : Int) < (k : Int) := hjl
    rw [opNd_arg j hj, if_pos (by omega)]
    exact (hA j (by omega)).2
theorem Dn.not (hC : CoreP n N) (hI : MadeI most (-1) n N) (h : Dn n N s ps) {i : Nat} (hi : i < n) (hop : (N i).op = 1) {a : Int} (ha : (0 ≤ a ∧ a < s.n) ∧ ((ps a.toNat : Nat) : Int) = (N i).a0) (hr : NotMR most s a s' x) : ∃ ps', Sn n N s ps s' ps' x i := by
  have hl : (N i).len = (1 : Nat) := by rw [(hC.chk.all i hi).len (by rw [hop]; decide), hop]; decide
  cases hr with
  | back _ hb =>
    exfalso
    have h1 := (h.cp a.toNat (by omega)).1.op
    rw [hb] at h1
    refine (hC.ok i hi).neg hop ?_
    rw [← ha.2, Int.toNat_natCast]
    exact h1.symm
  | put _ _ _ hp =>
    have e : (1 : Int) = (N i).op := hop.symm
    rw [e] at hp
    refine h.kind hC hI hi (by omega) hl (by omega) (fun j hj => ?_) (fun o => ?_) hp
    · obtain rfl : j = 0 := by omega
      exact ha
    · have o : (N i).op = 6 := o
      omega
/-- The equality of two of a sort of its own. -/
theorem Dn.ownEq (hC : CoreP n N) (hI : MadeI most (-1) n N) (h : Dn n N s ps) {i : Nat} (hi : i < n) (hop : (N i).op = 6) (h0 : (N (N i).a0.toNat).sort ≠ 0) {a b : Int} (ha : (0 ≤ a ∧ a < s.n)) (hb : 0 ≤ b ∧ b < s.n)
    (hab : (((ps a.toNat : Nat) : Int) = (N i).a0 ∧ ((ps b.toNat : Nat) : Int) = (N i).a1) ∨ (((ps a.toNat : Nat) : Int) = (N i).a1 ∧ ((ps b.toNat : Nat) : Int) = (N i).a0)) (hr : SameMR most s a b s' x) : ∃ ps', Sn n N s ps s' ps' x i := by
  have hst := hC.chk.all i hi
  have hl : (N i).len = (2 : Nat) := hst.eqLen hop
  have hlt := hI.own i hi hop h0
  have fs := eqFit hst (hC.ok i hi).fit hop
  cases hr with
  | one e =>
    exfalso
    subst e
    omega
  | put hne _ _ hp =>
    have hA : ∀ j, j < 2 → 0 ≤ pk2 (min a b) (max a b) j ∧ pk2 (min a b) (max a b) j < s.n := fun j hj => by
      have : j = 0 ∨ j = 1 := by omega
      rcases this with rfl | rfl
      · show 0 ≤ min a b ∧ min a b < s.n; omega
      · show 0 ≤ max a b ∧ max a b < s.n; omega
    obtain ⟨al, hs⟩ := opNd_copy (m := s.n) (A := pk2 (min a b) (max a b)) hst (by omega) hl (by omega) hA
    have ho : OwnOk s.N (opNd (N i).op 2 (pk2 (min a b) (max a b)) (N i).sort) := fun _ _ => by show min a b < max a b; omega
    have hso : ∀ c : Int, 0 ≤ c → c < s.n → (((ps c.toNat : Nat) : Int) = (N i).a0 ∨ ((ps c.toNat : Nat) : Int) = (N i).a1) → (s.N c.toNat).sort = (N (N i).a0.toNat).sort := fun c c0 c1 hc => by
      rw [h.sort (by omega)]
      rcases hc with e | e
      · rw [← e, Int.toNat_natCast]
      · rw [← fs, ← e, Int.toNat_natCast]
    have sa := hso a ha.1 ha.2 (by rcases hab with ⟨e, _⟩ | ⟨e, _⟩; exact .inl e; exact .inr e)
    have sb := hso b hb.1 hb.2 (by rcases hab with ⟨_, e⟩ | ⟨_, e⟩; exact .inr e; exact .inl e)
    have hf := fit_of (hC.ok i hi).fit (by omega)
    rw [hl, hop] at hf
    have ht : opT 6 2 (sortsA s (pk2 (min a b) (max a b))) = ((N i).sort, 0) := by
      rw [← hf]
      refine opT_congr fun j hj => ?_
      have : j = 0 ∨ j = 1 := by omega
      rcases this with rfl | rfl
      · show (s.N (min a b).toNat).sort = (N (N i).a0.toNat).sort
        rcases Int.le_total a b with e | e
        · rw [Int.min_eq_left e]; exact sa
        · rw [Int.min_eq_right e]; exact sb
      · show (s.N (max a b).toNat).sort = (N (N i).a1.toNat).sort
        rw [fs]
        rcases Int.le_total a b with e | e
        · rw [Int.max_eq_right e]; exact sb
        · rw [Int.max_eq_left e]; exact sa
    cases hp with
    | err hh => exact absurd h.ok hh
    | sort _ hs => rw [ht] at hs; exact absurd rfl hs
    | put _ _ _ _ hp =>
      rw [ht] at hp
      rw [hop] at al hs ho
      refine h.node hC hI hp hi ⟨al, ?_⟩ hs ho
      have key : ∀ p q : Int, ((ps p.toNat : Nat) : Int) = (N i).a0 → ((ps q.toNat : Nat) : Int) = (N i).a1 → ArgsS ps (opNd 6 2 (pk2 p q) (N i).sort) (N i) := fun p q hp hq j hj hjl => by
        have hjl : (j : Int) < ((2 : Nat) : Int) := hjl
        have : j = 0 ∨ j = 1 := by omega
        rcases this with rfl | rfl
        · exact hp
        · exact hq
      have keyX : ∀ p q : Int, ((ps p.toNat : Nat) : Int) = (N i).a1 → ((ps q.toNat : Nat) : Int) = (N i).a0 → ArgsX N ps (opNd 6 2 (pk2 p q) (N i).sort) (N i) := fun p q hp hq => ⟨hop, h0, hp, hq⟩
      rcases Int.le_total a b with e | e
      · rw [Int.min_eq_left e, Int.max_eq_right e]
        rcases hab with ⟨h1, h2⟩ | ⟨h1, h2⟩
        · exact .inl (key _ _ h1 h2)
        · exact .inr (keyX _ _ h1 h2)
      · rw [Int.min_eq_right e, Int.max_eq_left e]
        rcases hab with ⟨h1, h2⟩ | ⟨h1, h2⟩
        · exact .inr (keyX _ _ h2 h1)
        · exact .inl (key _ _ h2 h1)
end
end Go.Proofs.Ytecmoahadckomaa
