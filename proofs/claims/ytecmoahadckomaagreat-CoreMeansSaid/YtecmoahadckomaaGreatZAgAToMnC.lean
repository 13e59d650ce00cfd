/- Plain: what core.Of makes: an own equality's places stand in order, and behind each choice stands what it needs. No program in sight. -/
import Derived.Test.YtecmoahadckomaaGreatZMkTToMkWk
namespace Go.Proofs.YtecmoahadckomaaGreat
open Go.RowKit

def eqNd (a b : Int) : Nd := ⟨6, 2, a, b, 0, 0, 0, 0⟩
/-- What a difference put comes to is there. -/
def LeIn (n : Nat) (N : Nat → Nd) (a b c : Int) : Prop := ∃ x y d, DiffT n N a b c x y d 0 ∧ (x ≠ y → ∃ p, p < n ∧ N p = diffNd x y d) ∧ (x = y → d < 0 → ∃ p, p < n ∧ N p = notNd)
def SameIn (n : Nat) (N : Nat → Nd) (a b : Int) : Prop := a ≠ b → ∃ p, p < n ∧ N p = eqNd (min a b) (max a b)
def BehIn (n : Nat) (N : Nat → Nd) (so i x : Int) : Prop := (so = 1 → LeIn n N i x 0 ∧ LeIn n N x i 0) ∧ (so ≠ 0 → so ≠ 1 → SameIn n N i x)
def IteOk (n : Nat) (N : Nat → Nd) (p : Nat) : Prop := (N p).op = 7 → (N p).a1 ≠ (N p).a2 ∧ BehIn n N (N p).sort p (N p).a1 ∧ BehIn n N (N p).sort p (N p).a2
def OwnOk (N : Nat → Nd) (e : Nd) : Prop := e.op = 6 → (N e.a0.toNat).sort ≠ 0 → e.a0 < e.a1
structure MadeI (most E : Int) (n : Nat) (N : Nat → Nd) : Prop where
  few : (n : Int) ≤ max 2 most
  own : ∀ p, p < n → OwnOk N (N p)
  ite : ∀ p : Nat, p < n → (p : Int) ≠ E → IteOk n N p
section
variable {n m : Nat} {N M : Nat → Nd}
theorem OfT.more {id b k : Int} (h : OfT n N id b k 0) (hc' : CheckP m M) (hm : n ≤ m) (hM : ∀ i, i < n → M i = N i) : OfT m M id b k 0 := by
  obtain ⟨hc, i, b', rfl, hi, hs, rfl, ho⟩ := h.good rfl
  exact .ok hc' i (by omega) rfl (by rw [hM i hi]; exact hs) b' k (ho.congr hc hi hM)
theorem DiffT.more {a b c x y d : Int} (h : DiffT n N a b c x y d 0) (hc' : CheckP m M) (hm : n ≤ m) (hM : ∀ i, i < n → M i = N i) : DiffT m M a b c x y d 0 := by
  cases h with
  | e1 _ _ _ _ he => exact absurd rfl he
  | e2 _ _ _ _ _ _ _ he => exact absurd rfl he
  | ok x p h y q h' h1 h2 => exact .ok x p (h.more hc' hm hM) y q (h'.more hc' hm hM) h1 h2
theorem there_more {e : Nd} (h : ∃ p, p < n ∧ N p = e) (hm : n ≤ m) (hM : ∀ i, i < n → M i = N i) : ∃ p, p < m ∧ M p = e := by
  obtain ⟨p, hp, h⟩ := h
  exact ⟨p, by omega, (hM p hp).trans h⟩
theorem LeIn.more {a b c : Int} (h : LeIn n N a b c) (hc' : CheckP m M) (hm : n ≤ m) (hM : ∀ i, i < n → M i = N i) : LeIn m M a b c := by
  obtain ⟨x, y, d, h0, h1, h2⟩ := h
  exact ⟨x, y, d, h0.more hc' hm hM, fun e => there_more (h1 e) hm hM, fun e e' => there_more (h2 e e') hm hM⟩
theorem SameIn.more {a b : Int} (h : SameIn n N a b) (hm : n ≤ m) (hM : ∀ i, i < n → M i = N i) : SameIn m M a b := fun e => there_more (h e) hm hM
theorem BehIn.more {so i x : Int} (h : BehIn n N so i x) (hc' : CheckP m M) (hm : n ≤ m) (hM : ∀ i, i < n → M i = N i) : BehIn m M so i x :=
  ⟨fun e => ⟨(h.1 e).1.more hc' hm hM, (h.1 e).2.more hc' hm hM⟩, fun e e' => (h.2 e e').more hm hM⟩
theorem IteOk.more {p : Nat} (h : IteOk n N p) (hp : p < n) (hc' : CheckP m M) (hm : n ≤ m) (hM : ∀ i, i < n → M i = N i) : IteOk m M p := by
  unfold IteOk
  rw [hM p hp]
  exact fun e => ⟨(h e).1, (h e).2.1.more hc' hm hM, (h e).2.2.more hc' hm hM⟩
theorem OwnOk.more {e : Nd} {at_ : Int} (h : OwnOk N e) (hs : StandsP e at_) (ha : at_ ≤ n) (hn : 0 < n) (hM : ∀ i, i < n → M i = N i) : OwnOk M e := by
  intro o hh
  rw [show M e.a0.toNat = N e.a0.toNat from hM _ (arg_ltE hs ha hn 0)] at hh
  exact h o hh
theorem MadeI.any {most : Int} (h : MadeI most (-1) n N) (E : Int) : MadeI most E n N := ⟨h.few, h.own, fun p hp _ => h.ite p hp (by omega)⟩
theorem MadeI.close {most E : Int} (h : MadeI most E n N) (hE : ∀ p : Nat, p < n → (p : Int) = E → IteOk n N p) : MadeI most (-1) n N :=
  ⟨h.few, h.own, fun p hp _ => by
    by_cases e : (p : Int) = E
    · exact hE p hp e
    · exact h.ite p hp e⟩
theorem MadeI.put {most E : Int} {e : Nd} {x : Int} (h : MadeI most E n N) (hp : PutR n N e most m M x 0) (h6 : OwnOk N e) (h7 : e.op ≠ 7 ∨ E = x) : MadeI most E m M := by
  obtain ⟨hc, hs, ⟨i, hi, hie, rfl, rfl, rfl⟩ | ⟨hne, hm, rfl, rfl, rfl⟩⟩ := hp.ok
  · exact h
  · have h2 := hc.two
    have hc' := hc.ext hs hne
    have hM : ∀ i, i < n → extN N n e i = N i := fun i hi => extN_lt hi
    refine ⟨by omega, fun p hp => ?_, fun p hp hE => ?_⟩
    · by_cases hpn : p < n
      · rw [hM p hpn]
        exact (h.own p hpn).more (hc.all p hpn) (by omega) (by omega) hM
      · obtain rfl : p = n := by omega
        rw [extN_at]
        exact h6.more hs (Int.le_refl _) (by omega) hM
    · by_cases hpn : p < n
      · exact (h.ite p hpn hE).more hpn hc' (by omega) hM
      · obtain rfl : p = n := by omega
        intro o
        rw [extN_at] at o
        exact absurd h7 (by rintro (h | h); exact h o; exact hE h.symm)
theorem LeT.made {most E : Int} {a b c x : Int} {is : Bool} (h : MadeI most E n N) (hl : LeT n N a b c most m M x is 0) : MadeI most E m M ∧ LeIn m M a b c := by
  cases hl with
  | err _ _ _ _ _ he => exact absurd rfl he
  | tru x d hd h0 => exact ⟨h, x, x, d, hd, fun e => absurd rfl e, fun _ e => by omega⟩
  | fls x d hd h0 m M id er hp =>
    obtain ⟨j, rfl, hj, hje, hc', hm, hM, _⟩ := hp.good
    exact ⟨h.put hp (fun o => absurd o (by decide)) (.inl (by decide)), x, x, d, hd.more hc' hm.1 hM, fun e => absurd rfl e, fun _ _ => ⟨j, hj, hje⟩⟩
  | diff x y d hd hxy m M id er hp =>
    obtain ⟨j, rfl, hj, hje, hc', hm, hM, _⟩ := hp.good
    exact ⟨h.put hp (fun o => absurd o (by show ¬ ((12 : Int) = 6); decide)) (.inl (by show (12 : Int) ≠ 7; decide)), x, y, d, hd.more hc' hm.1 hM, fun _ => ⟨j, hj, hje⟩, fun e => absurd e hxy⟩
end
section
variable {most E : Int} {s s' : CSt} {x : Int}
theorem kept_ok {s : CSt} {m : Nat} {M : Nat → Nd} {er : Int} (he : (keptS s m M er).e = 0) : er = 0 := by
  by_cases h0 : er = 0
  · exact h0
  · rw [keptS_no h0] at he; exact absurd he h0
theorem NodeR.made {nd : Nd} (h : MadeI most E s.n s.N) (hr : NodeR most s nd s' x) (h6 : OwnOk s.N nd) (h7 : nd.op ≠ 7 ∨ E = x) (he : s'.e = 0) :
    MadeI most E s'.n s'.N ∧ ∃ i : Nat, x = i ∧ i < s'.n ∧ s'.N i = nd := by
  cases hr with
  | err hh => exact absurd he hh
  | put hh m M x er hp =>
    obtain rfl := kept_ok he
    rw [keptS_ok]
    obtain ⟨j, hj0, hj, hje, _⟩ := hp.good
    exact ⟨h.put hp h6 h7, j, hj0, hj, hje⟩
theorem PutOpR.made {op : Int} {k : Nat} {A : Nat → Int} (h : MadeI most E s.n s.N) (hr : PutOpR most s op k A s' x) (h6 : ∀ so, OwnOk s.N (opNd op k A so)) (h7 : op ≠ 7 ∨ E = x) (he : s'.e = 0) :
    MadeI most E s'.n s'.N ∧ ∃ i : Nat, x = i ∧ i < s'.n ∧ s'.N i = opNd op k A (opT op k (sortsA s A)).1 := by
  cases hr with
  | err hh => exact absurd he hh
  | sort hh hs => exact absurd (show (33 : Int) = 0 from he) (by decide)
  | put hh hs s' x hp => exact hp.made h (h6 _) h7 he
theorem own_no {N : Nat → Nd} {op : Int} {k : Nat} {A : Nat → Int} (h : op ≠ 6) (so : Int) : OwnOk N (opNd op k A so) := fun o => absurd o h
theorem DiffMR.made {a b c : Int} (h : MadeI most E s.n s.N) (hr : DiffMR most s a b c s' x) (he : s'.e = 0) : MadeI most E s'.n s'.N ∧ LeIn s'.n s'.N a b c := by
  cases hr with
  | err hh => exact absurd he hh
  | put hh m M x is er hp =>
    obtain rfl := kept_ok he
    rw [keptS_ok]
    exact hp.made h
theorem NotMR.made {a : Int} (h : MadeI most E s.n s.N) (hr : NotMR most s a s' x) (he : s'.e = 0) : MadeI most E s'.n s'.N := by
  cases hr with
  | back => exact h
  | put hh s' x hp => exact (hp.made h (own_no (by decide)) (.inl (by decide)) he).1
theorem SameMR.made {a b : Int} (h : MadeI most E s.n s.N) (hr : SameMR most s a b s' x) (he : s'.e = 0) : MadeI most E s'.n s'.N ∧ SameIn s'.n s'.N a b := by
  cases hr with
  | one hab => exact ⟨h, fun e => absurd hab e⟩
  | put hab s' x hp =>
    obtain ⟨_, ht⟩ := hp.fine he
    have hso := (opT_fst ht (by decide)).1
    obtain ⟨h1, i, _, hi, hie⟩ := hp.made h (fun so _ _ => by show min a b < max a b; omega) (.inl (by decide)) he
    refine ⟨h1, fun _ => ⟨i, hi, ?_⟩⟩
    rw [hie, hso]; rfl
theorem EqualMR.made {a b : Int} (hc : CheckP s.n s.N) (h : MadeI most E s.n s.N) (hr : EqualMR most s a b s' x) (he : s'.e = 0) : MadeI most E s'.n s'.N := by
  cases hr with
  | err hh => exact absurd he hh
  | sort hh hs => exact absurd (show (33 : Int) = 0 from he) (by decide)
  | bool hh hs h0 s' x hp => exact (hp.made h (fun so _ hs => absurd h0 hs) (.inl (by decide)) he).1
  | own hh hs h0 h1 s' x hp => exact (hp.made h he).1
  | int hh hs h1 s1 x hx s2 y hy s' z hp =>
    have g1 := hx.grow hc
    have g2 := hy.grow g1.st.chk
    have he2 := (hp.fine he).1
    have he1 : s1.e = 0 := Classical.byContradiction fun hh => g2.st.bad hh he2
    have m1 := (hx.made h he1).1
    have m2 := (hy.made m1 he2).1
    exact (hp.made m2 (own_no (by decide)) (.inl (by decide)) he).1
theorem BehindR.made {so i y : Int} (hc : CheckP s.n s.N) (h : MadeI most E s.n s.N) (hr : BehindR most so s i y s') (he : s'.e = 0) : MadeI most E s'.n s'.N ∧ BehIn s'.n s'.N so i y := by
  cases hr with
  | bool h0 => exact ⟨h, fun e => absurd (e.symm.trans h0) (by decide), fun e => absurd h0 e⟩
  | int h1 s1 y1 hy s2 z hz =>
    have g1 := hy.grow hc
    have g2 := hz.grow g1.st.chk
    have he1 : s1.e = 0 := Classical.byContradiction fun hh => g2.st.bad hh he
    obtain ⟨m1, l1⟩ := hy.made h he1
    obtain ⟨m2, l2⟩ := hz.made m1 he
    exact ⟨m2, fun _ => ⟨l1.more g2.st.chk g2.st.more g2.st.old, l2⟩, fun _ e => absurd h1 e⟩
  | own h0 h1 s' z hz =>
    obtain ⟨m1, l1⟩ := hz.made h he
    exact ⟨m1, fun e => absurd e h1, fun _ _ => l1⟩
theorem IteMR.made {a b c : Int} (hc : CheckP s.n s.N) (h : MadeI most (-1) s.n s.N) (hr : IteMR most s a b c s' x) (he : s'.e = 0) : MadeI most (-1) s'.n s'.N := by
  cases hr with
  | err hh => exact absurd he hh
  | sort hh hs => exact absurd (show (33 : Int) = 0 from he) (by decide)
  | one => exact h
  | put hh hs hbc s1 i hi s2 h2 s3 h3 =>
    have g1 := hi.grow hc
    have g2 := h2.grow g1.st.chk
    have g3 := h3.grow g2.chk
    have he2 : s2.e = 0 := Classical.byContradiction fun hh => g3.bad hh he
    have he1 : s1.e = 0 := Classical.byContradiction fun hh => g2.bad hh he2
    obtain ⟨_, ht⟩ := hi.fine he1
    obtain ⟨_, _, _, hF1⟩ := opT_ite (m := 3) (F := sortsA s (pk3' a b c)) (s := (opT 7 3 (sortsA s (pk3' a b c))).1) (Prod.ext rfl ht)
    have hF1 : (opT 7 3 (sortsA s (pk3' a b c))).1 = (s.N b.toNat).sort := hF1
    obtain ⟨m1, j, rfl, hj, hje⟩ := hi.made (h.any x) (own_no (by decide)) (.inr rfl) he1
    obtain ⟨m2, b2⟩ := h2.made g1.st.chk m1 he2
    obtain ⟨m3, b3⟩ := h3.made g2.chk m2 he
    have hj2 : j < s2.n := Nat.lt_of_lt_of_le hj g2.more
    have hn3 : s'.N j = opNd 7 3 (pk3' a b c) (s.N b.toNat).sort := by rw [g3.old j hj2, g2.old j hj, hje, hF1]
    refine m3.close fun p hp hpe => ?_
    obtain rfl : p = j := by omega
    intro _
    rw [hn3]
    exact ⟨hbc, b2.more g3.chk g3.more g3.old, b3⟩
end
theorem OPutR.made {n : Nat} {N : Nat → Nd} {most : Int} (h : MadeI most (-1) n N) {base k : Int} {m : Nat} {M : Nat → Nd} {x er : Int} (hr : OPutR n N base k most m M x er) (he : er = 0) : MadeI most (-1) m M := by
  cases hr with
  | of _ _ _ _ hn => exact absurd he hn
  | own => exact absurd he (by decide)
  | over => exact absurd he (by decide)
  | zero _ _ _ _ _ _ _ _ hp => subst he; exact h.put hp (fun o => absurd o (by show ¬ ((10 : Int) = 6); decide)) (.inl (by show (10 : Int) ≠ 7; decide))
  | same => exact h
  | add _ _ _ _ _ _ _ _ _ hp => subst he; exact h.put hp (fun o => absurd o (by show ¬ ((11 : Int) = 6); decide)) (.inl (by show (11 : Int) ≠ 7; decide))
theorem OAddR.made {n : Nat} {N : Nat → Nd} {most : Int} (h : MadeI most (-1) n N) {id k : Int} {m : Nat} {M : Nat → Nd} {x er : Int} (hr : OAddR n N id k most m M x er) (he : er = 0) : MadeI most (-1) m M := by
  cases hr with
  | of _ _ _ _ hn => exact absurd he hn
  | over => exact absurd he (by decide)
  | put _ _ _ _ _ _ _ _ hp => exact hp.made h he
theorem WayR.made {most : Int} {s s' : CSt} {x : Int} {nd : Nd} {V : Nat → Int} (hc : CheckP s.n s.N) (h : MadeI most (-1) s.n s.N) (har : nd.op ≠ 13 → nd.len = ar nd.op) (ht : nd.op ≠ 13 → opT nd.op nd.len.toNat (sortsA s V) = (nd.sort, 0)) (hr : WayR most s nd V s' x) (he : s'.e = 0) : MadeI most (-1) s'.n s'.N := by
  have al : ∀ {op : Int} {k : Nat}, nd.op = op → op ≠ 13 → ar op = k → nd.len.toNat = k := fun ho h13 hk => by
    have := har (by rw [ho]; exact h13)
    rw [this, ho, hk]; simp
  cases hr with
  | tru => exact h
  | neg _ _ _ hp => exact hp.made h he
  | kind ho _ _ hp => exact (hp.made h (own_no (by omega)) (.inl (by omega)) he).1
  | xor ho s1 y hy _ _ hp =>
    have hl := al ho (by decide) (k := 2) rfl
    have g1 := hy.grow hc
    have he1 : s1.e = 0 := Classical.byContradiction fun hh => (hp.grow g1.st.chk (fun _ => ⟨g1.x0, g1.x1⟩)).st.bad hh he
    have ht := ht (by rw [ho]; decide)
    rw [ho] at ht
    have hA := (opT_ok ht (by decide)).2.2 (by decide) 0 (by omega)
    rw [hl] at hy
    exact hp.made (hy.made h (fun so _ hs => absurd hA hs) (.inl (by decide)) he1).1 he
  | imp ho s1 y hy _ _ hp =>
    have hl := al ho (by decide) (k := 2) rfl
    have he1 := (hp.fine he).1
    exact (hp.made (hy.made h he1) (own_no (by decide)) (.inl (by decide)) he).1
  | eq _ _ _ hp => exact hp.made hc h he
  | ite _ _ _ hp => exact hp.made hc h he
  | le _ _ _ hp => exact (hp.made h he).1
  | lt _ _ _ hp => exact (hp.made h he).1
  | num _ _ _ _ _ hp =>
    have e0 := kept_ok he
    subst e0
    rw [keptS_ok]
    exact hp.made h rfl
  | add _ _ _ _ _ hp =>
    have e0 := kept_ok he
    subst e0
    rw [keptS_ok]
    exact hp.made h rfl
  | diff _ _ _ hp => exact (hp.made h he).1
  | app ho _ _ hp => exact (hp.made h (fun o => absurd (show nd.op = 6 from o) (by omega)) (.inl (by show nd.op ≠ 7; omega)) he).1
theorem WalkP.made {nt : Nat} {NT : Nat → Nd} {most : Int} (hc : CheckP nt NT) (hf : fitsB nt NT = true) : ∀ (f id : Nat) (s s' : CSt × CK) (x : Int), id < f → id < nt → WInv nt NT s → (s.1.e = 0 → MadeI most (-1) s.1.n s.1.N) →
    WalkP NT most f s id s' x → s'.1.e = 0 → MadeI most (-1) s'.1.n s'.1.N
  | 0, id, _, _, _, h, _, _, _, _ => by omega
  | f + 1, id, s, s', x, hidf, hid, hI, hM, h => by
    have h2 := hI.inv.chk.two
    rcases h with ⟨hk, rfl⟩ | ⟨hk, he, rfl, rfl⟩ | ⟨hk, he, s1, V, hA, hend⟩
    · exact hM
    · exact hM
    · have hst := hc.all id hid
      have args : ∀ (k : Nat) (t : CSt × CK), k ≤ (NT id).len.toNat → ArgsP (WalkP NT most f) (NT id) k s t V →
          WInv nt NT t ∧ ExtK s t ∧ (∀ i, i < k → 0 ≤ V i ∧ V i < t.1.n ∧ (t.1.e = 0 → (t.1.N (V i).toNat).sort = sortsN NT (NT id) i)) ∧ (t.1.e = 0 → MadeI most (-1) t.1.n t.1.N) := by
        intro k
        induction k with
        | zero =>
          intro t _ ht
          have ht : t = s := ht
          subst ht
          exact ⟨hI, ExtK.refl _, fun i hi => absurd hi (Nat.not_lt_zero i), hM⟩
        | succ k ih =>
          rintro t hk ⟨u, hu, hw⟩
          obtain ⟨iu, eu, vu, mu⟩ := ih u (by omega) hu
          have ha := hc.argB hid (k := k) (by omega)
          have hE := WalkP.fin hc hf f ((NT id).arg k).toNat u t (V k) (by omega) (by omega) iu hw
          refine ⟨hE.inv, eu.trans hE.ext, fun i hi => ?_, WalkP.made hc hf f ((NT id).arg k).toNat u t (V k) (by omega) (by omega) iu mu hw⟩
          by_cases e : i = k
          · subst e
            exact ⟨hE.x0, hE.x1, fun h0 => hE.so h0⟩
          · obtain ⟨v0, v1, v2⟩ := vu i (by omega)
            have hm := hE.ext.more
            exact ⟨v0, by omega, fun h0 => by rw [hE.ext.old _ (by omega)]; exact v2 (hE.ext.ok h0)⟩
      obtain ⟨i1, e1, v1, m1⟩ := args _ s1 (Nat.le_refl _) hA
      rcases hend with ⟨hne, rfl, rfl⟩ | ⟨h0, m', hW, rfl⟩
      · exact m1
      · obtain ⟨o, ho, ho14, hty⟩ := op_nat hst
        have hfit : fitN NT (NT id) = true := (upTo_iff _ _).1 hf id hid
        have ht : (NT id).op ≠ 13 → opT (NT id).op (NT id).len.toNat (sortsA s1.1 V) = ((NT id).sort, 0) := fun h13 => by
          rw [← fit_of hfit h13]
          exact opT_congr fun i hi => (v1 i hi).2.2 h0
        intro he
        exact hW.made i1.inv.chk (m1 h0) hty ht he
theorem RootsP.made {nt : Nat} {NT : Nat → Nd} {most : Int} {R : Nat → Int} (hc : CheckP nt NT) (hf : fitsB nt NT = true) {X : Nat → Int} : ∀ (k : Nat) (s : CSt × CK), (∀ i, i < k → 0 ≤ R i ∧ R i < nt) → RootsP (WalkP NT most nt) R k s012 s X →
    s.1.e = 0 → MadeI most (-1) s.1.n s.1.N
  | 0, s, _, h => by
    have h : s = s012 := h
    subst h
    intro _
    refine ⟨by show ((2 : Nat) : Int) ≤ max 2 most; omega, fun p hp o => ?_, fun p hp _ o => ?_⟩
    · have h := (show ∀ p, p < 2 → (newN p).op ≠ 6 by decide) p hp
      exact absurd o h
    · have h := (show ∀ p, p < 2 → (newN p).op ≠ 7 by decide) p hp
      exact absurd o h
  | k + 1, s, hR, ⟨u, hu, hw⟩ => by
    obtain ⟨iu, _⟩ := RootsP.fin hc hf k u (fun i hi => hR i (by omega)) hu
    have hr := hR k (by omega)
    exact WalkP.made hc hf nt (R k).toNat u s (X k) (by omega) (by omega) iu (RootsP.made hc hf k u (fun i hi => hR i (by omega)) hu) hw
theorem Of12.madeI {n : Nat} {N : Nat → Nd} {m : Nat} {R : Nat → Int} {most : Int} {m' : Nat} {M : Nat → Nd} {k : Nat} {X : Nat → Int} {er : Int} (h : Of12 n N m R most m' M k X er) (he : er = 0) : MadeI most (-1) m' M := by
  cases h with
  | arg => exact absurd he (by decide)
  | sort => exact absurd he (by decide)
  | no _ _ _ s Y _ h => exact absurd he h
  | ok hc hr hf s X hw he' hs hX => exact RootsP.made hc hf _ s hr hw he'
end Go.Proofs.YtecmoahadckomaaGreat

namespace Go.Proofs.YtecmoahadckomaaGreat
open Go.RowKit

/-- All applications are well sorted. -/
def AO (g : Sg) (n : Nat) (N : Nat → Nd) : Prop := ∀ i, i < n → (N i).op = 13 → okNd g N (N i) = true
def PA (g : Sg) (s : CSt) : Prop := s.e = 0 → AO g s.n s.N
theorem AO.put {g : Sg} {n m : Nat} {N M : Nat → Nd} {e : Nd} {most x : Int} (h : AO g n N) (hp : PutR n N e most m M x 0) (he : e.op = 13 → okNd g N e = true) : AO g m M := by
  obtain ⟨hc, hs, ⟨i, hi, hie, rfl, rfl, rfl⟩ | ⟨hne, _, rfl, rfl, rfl⟩⟩ := hp.ok
  · exact h
  · have h2 := hc.two
    have hM : ∀ i, i < n → extN N n e i = N i := fun i hi => extN_lt hi
    intro i hi o
    by_cases e1 : i < n
    · rw [hM i e1] at o ⊢
      rw [okNd_congrE (hc.all i e1) (by omega) (by omega) hM]
      exact h i e1 o
    · obtain rfl : i = n := by omega
      rw [extN_at] at o ⊢
      rw [okNd_congrE hs (Int.le_refl _) (by omega) hM]
      exact he o
theorem LeT.ao {g : Sg} {n m : Nat} {N M : Nat → Nd} {a b c most x : Int} {is : Bool} (h : AO g n N) (hl : LeT n N a b c most m M x is 0) : AO g m M := by
  cases hl with
  | err _ _ _ _ _ he => exact absurd rfl he
  | tru x d hd h0 => exact h
  | fls x d hd h0 m M id er hp => exact h.put hp (fun o => absurd o (by decide))
  | diff x y d hd hxy m M id er hp => exact h.put hp (fun o => absurd o (by show ¬ ((12 : Int) = 13); decide))
theorem OPutR.ao {g : Sg} {n : Nat} {N : Nat → Nd} {most : Int} (h : AO g n N) {base k : Int} {m : Nat} {M : Nat → Nd} {x er : Int} (hr : OPutR n N base k most m M x er) (he : er = 0) : AO g m M := by
  cases hr with
  | of _ _ _ _ hn => exact absurd he hn
  | own => exact absurd he (by decide)
  | over => exact absurd he (by decide)
  | zero _ _ _ _ _ _ _ _ hp => subst he; exact h.put hp (fun o => absurd o (by show ¬ ((10 : Int) = 13); decide))
  | same => exact h
  | add _ _ _ _ _ _ _ _ _ hp => subst he; exact h.put hp (fun o => absurd o (by show ¬ ((11 : Int) = 13); decide))
theorem OAddR.ao {g : Sg} {n : Nat} {N : Nat → Nd} {most : Int} (h : AO g n N) {id k : Int} {m : Nat} {M : Nat → Nd} {x er : Int} (hr : OAddR n N id k most m M x er) (he : er = 0) : AO g m M := by
  cases hr with
  | of _ _ _ _ hn => exact absurd he hn
  | over => exact absurd he (by decide)
  | put _ _ _ _ _ _ _ _ hp => exact hp.ao h he
section
variable {g : Sg} {most : Int} {s s' : CSt} {x : Int}
theorem PA.kept {m : Nat} {M : Nat → Nd} {er : Int} (h : er = 0 → AO g m M) : PA g (keptS s m M er) := by
  intro he
  have h0 := kept_ok he
  subst h0
  rw [keptS_ok]
  exact h rfl
theorem NodeR.ao {nd : Nd} (h : NodeR most s nd s' x) (hP : PA g s) (hn : s.e = 0 → nd.op = 13 → okNd g s.N nd = true) : PA g s' := by
  cases h with
  | err h => exact hP
  | put h m M x er hp => exact PA.kept fun he => by subst he; exact (hP h).put hp (hn h)
theorem PutOpR.ao {op : Int} {k : Nat} {A : Nat → Int} (h : PutOpR most s op k A s' x) (h13 : op ≠ 13) (hP : PA g s) : PA g s' := by
  cases h with
  | err h => exact hP
  | sort h hs => exact fun h0 => absurd (show (33 : Int) = 0 from h0) (by decide)
  | put h hs s' x hp => exact hp.ao hP (fun _ o => absurd o h13)
theorem DiffMR.ao {a b c : Int} (h : DiffMR most s a b c s' x) (hP : PA g s) : PA g s' := by
  cases h with
  | err h => exact hP
  | put h m M x is er hp => exact PA.kept fun he => by subst he; exact hp.ao (hP h)
theorem NotMR.ao {a : Int} (h : NotMR most s a s' x) (hP : PA g s) : PA g s' := by
  cases h with
  | back => exact hP
  | put h s' x hp => exact hp.ao (by decide) hP
theorem SameMR.ao {a b : Int} (h : SameMR most s a b s' x) (hP : PA g s) : PA g s' := by
  cases h with
  | one => exact hP
  | put h s' x hp => exact hp.ao (by decide) hP
theorem EqualMR.ao {a b : Int} (h : EqualMR most s a b s' x) (hP : PA g s) : PA g s' := by
  cases h with
  | err h => exact hP
  | sort h hs => exact fun h0 => absurd (show (33 : Int) = 0 from h0) (by decide)
  | bool h hs h0 s' x hp => exact hp.ao (by decide) hP
  | own h hs h0 h1 s' x hp => exact hp.ao hP
  | int h hs h1 s1 x hx s2 y hy s' z hp => exact hp.ao (by decide) (hy.ao (hx.ao hP))
theorem BehindR.ao {so i y : Int} (h : BehindR most so s i y s') (hP : PA g s) : PA g s' := by
  cases h with
  | bool => exact hP
  | int h1 s1 y1 hy s2 z hz => exact hz.ao (hy.ao hP)
  | own h0 h1 s' z hz => exact hz.ao hP
theorem IteMR.ao {a b c : Int} (h : IteMR most s a b c s' x) (hP : PA g s) : PA g s' := by
  cases h with
  | err h => exact hP
  | sort h hs => exact fun h0 => absurd (show (33 : Int) = 0 from h0) (by decide)
  | one => exact hP
  | put hh hs hbc s1 i hi s2 h2 s3 h3 => exact h3.ao (h2.ao (hi.ao (by decide) hP))
theorem WayR.ao {nd : Nd} {V : Nat → Int} (hr : WayR most s nd V s' x) (hP : PA g s) (h0 : s.e = 0) (happ : nd.op = 13 → okNd g s.N (appNd nd V) = true) : PA g s' := by
  cases hr with
  | tru => exact hP
  | neg _ _ _ hp => exact hp.ao hP
  | kind ho _ _ hp => exact hp.ao (by omega) hP
  | xor ho s1 y hy _ _ hp => exact hp.ao (hy.ao (by decide) hP)
  | imp ho s1 y hy _ _ hp => exact hp.ao (by decide) (hy.ao hP)
  | eq _ _ _ hp => exact hp.ao hP
  | ite _ _ _ hp => exact hp.ao hP
  | le _ _ _ hp => exact hp.ao hP
  | lt _ _ _ hp => exact hp.ao hP
  | num _ _ _ _ _ hp => exact PA.kept fun he => hp.ao (hP h0) he
  | add _ _ _ _ _ hp => exact PA.kept fun he => hp.ao (hP h0) he
  | diff _ _ _ hp => exact hp.ao hP
  | app ho _ _ hp => exact hp.ao hP (fun _ _ => happ ho)
end
/-- The errors that a well sorted table may come to. -/
def GoodE (e : Int) : Prop := e = 0 ∨ e = 2 ∨ e = 10 ∨ e = 40
theorem PutR.er {n m : Nat} {N M : Nat → Nd} {e : Nd} {most x er : Int} (h : PutR n N e most m M x er) : GoodE er := by
  cases h with
  | arg => exact .inr (.inl rfl)
  | many => exact .inr (.inr (.inr rfl))
  | there => exact .inl rfl
  | put => exact .inl rfl
theorem OfT.er {n : Nat} {N : Nat → Nd} {id b k er : Int} (h : OfT n N id b k er) (hs : (N id.toNat).sort = 1) : GoodE er := by
  cases h with
  | arg => exact .inr (.inl rfl)
  | sort h i hi e hn => subst e; rw [Int.toNat_natCast] at hs; exact absurd hs hn
  | over => exact .inr (.inr (.inl rfl))
  | ok => exact .inl rfl
theorem DiffT.er {n : Nat} {N : Nat → Nd} {a b c x y d er : Int} (h : DiffT n N a b c x y d er) (ha : (N a.toNat).sort = 1) (hb : (N b.toNat).sort = 1) : GoodE er := by
  cases h with
  | e1 _ _ _ h => exact h.er ha
  | e2 _ _ _ _ _ _ h => exact h.er hb
  | over => exact .inr (.inr (.inl rfl))
  | ok => exact .inl rfl
theorem LeT.er {n m : Nat} {N M : Nat → Nd} {a b c most x er : Int} {is : Bool} (hl : LeT n N a b c most m M x is er) (ha : (N a.toNat).sort = 1) (hb : (N b.toNat).sort = 1) : GoodE er := by
  cases hl with
  | err _ _ _ _ h => exact h.er ha hb
  | tru => exact .inl rfl
  | fls _ _ _ _ _ _ _ _ hp => exact hp.er
  | diff _ _ _ _ _ _ _ _ _ hp => exact hp.er
theorem OPutR.er {n : Nat} {N : Nat → Nd} {most : Int} {base k : Int} {m : Nat} {M : Nat → Nd} {x er : Int} (hr : OPutR n N base k most m M x er) (hs : (N base.toNat).sort = 1) : GoodE er := by
  cases hr with
  | of _ _ _ h => exact h.er hs
  | own => exact .inr (.inl rfl)
  | over => exact .inr (.inr (.inl rfl))
  | zero _ _ _ _ _ _ _ _ hp => exact hp.er
  | same => exact .inl rfl
  | add _ _ _ _ _ _ _ _ _ hp => exact hp.er
theorem OAddR.er {n : Nat} {N : Nat → Nd} (hc : CoreP n N) {most : Int} {id k : Int} {m : Nat} {M : Nat → Nd} {x er : Int} (hr : OAddR n N id k most m M x er) (hs : (N id.toNat).sort = 1) : GoodE er := by
  cases hr with
  | of _ _ _ h => exact h.er hs
  | over => exact .inr (.inr (.inl rfl))
  | put b k0 h ho _ _ _ _ hp =>
    obtain ⟨_, i, b', _, hi, hs, rfl, hr⟩ := h.good rfl
    obtain ⟨c, e, _, hs', _⟩ := ofR_baseP hc hr hi hs _ _ rfl
    refine hp.er ?_
    rw [e, Int.toNat_natCast]
    exact hs'
theorem opT_eq2 {F : Nat → Int} (h : F 1 = F 0) (h0 : 0 ≤ F 0) : opT 6 2 F = (0, 0) := by
  have hn : negS 2 F = false := neg_no fun i hi => by
    have : i = 0 ∨ i = 1 := by omega
    rcases this with rfl | rfl
    · exact h0
    · rw [h]; exact h0
  have hal : alikeB 2 F = true := alike_yes fun i hi => by
    have : i = 0 ∨ i = 1 := by omega
    rcases this with rfl | rfl
    · rfl
    · exact h
  unfold opT tailT
  rw [hn, hal]
  simp [tyK, tyN, tyA, tyR]
theorem opT_eqs {F : Nat → Int} {s : Int} (h : opT 6 2 F = (s, 0)) : F 1 = F 0 := by
  unfold opT tailT at h
  split at h
  · cases h
  · split at h
    · cases h
    · split at h
      · cases h
      · split at h
        · cases h
        · split at h
          · rename_i h'; exact absurd h' (by decide)
          · split at h
            · cases h
            · rename_i hal
              have hal' : alikeB 2 F = true := by simpa using hal
              exact alike_iff.1 hal' 1 (by decide)
theorem opT_not1 {F : Nat → Int} (h : F 0 = 0) : (opT 1 1 F).2 = 0 := by
  rw [show opT 1 1 F = opT 1 1 (fun _ => 0) from opT_congr fun i hi => by
    have : i = 0 := by omega
    subst this; exact h]
  decide
theorem opT_two {op : Int} {F : Nat → Int} (ho : op = 2 ∨ op = 3) (h0 : F 0 = 0) (h1 : F 1 = 0) : (opT op 2 F).2 = 0 := by
  rw [show opT op 2 F = opT op 2 (fun _ => 0) from opT_congr fun i hi => by
    have : i = 0 ∨ i = 1 := by omega
    rcases this with rfl | rfl
    · exact h0
    · exact h1]
  rcases ho with rfl | rfl <;> decide
section
variable {most : Int} {s s' : CSt} {x : Int}
theorem kept_er {m : Nat} {M : Nat → Nd} {er : Int} (h : GoodE er) : GoodE (keptS s m M er).e := by
  by_cases h0 : er = 0
  · subst h0; rw [keptS_ok]; exact .inl rfl
  · rw [keptS_no h0]; exact h
theorem NodeR.er {nd : Nd} (h : NodeR most s nd s' x) (hg : GoodE s.e) : GoodE s'.e := by
  cases h with
  | err h => exact hg
  | put h m M x er hp => exact kept_er hp.er
theorem PutOpR.er {op : Int} {k : Nat} {A : Nat → Int} (h : PutOpR most s op k A s' x) (hg : GoodE s.e) (ht : s.e = 0 → (opT op k (sortsA s A)).2 = 0) : GoodE s'.e := by
  cases h with
  | err h => exact hg
  | sort h hs => exact absurd (ht h) hs
  | put h hs s' x hp => exact hp.er hg
theorem DiffMR.er {a b c : Int} (h : DiffMR most s a b c s' x) (hg : GoodE s.e) (ht : s.e = 0 → (s.N a.toNat).sort = 1 ∧ (s.N b.toNat).sort = 1) : GoodE s'.e := by
  cases h with
  | err h => exact hg
  | put h m M x is er hp => exact kept_er (hp.er (ht h).1 (ht h).2)
theorem NotMR.er {a : Int} (h : NotMR most s a s' x) (hg : GoodE s.e) (ht : s.e = 0 → (s.N a.toNat).sort = 0) : GoodE s'.e := by
  cases h with
  | back => exact hg
  | put h s' x hp => exact hp.er hg (fun h0 => opT_not1 (ht h0))
theorem SameMR.er {a b : Int} (h : SameMR most s a b s' x) (hg : GoodE s.e) (ht : s.e = 0 → (s.N a.toNat).sort = (s.N b.toNat).sort ∧ 0 ≤ (s.N a.toNat).sort) : GoodE s'.e := by
  cases h with
  | one => exact hg
  | put h s' x hp =>
    refine hp.er hg (fun h0 => ?_)
    obtain ⟨h1, h2⟩ := ht h0
    rw [opT_eq2]
    · show (s.N (max a b).toNat).sort = (s.N (min a b).toNat).sort
      rcases Int.le_total a b with hl | hl
      · rw [Int.min_eq_left hl, Int.max_eq_right hl]; exact h1.symm
      · rw [Int.min_eq_right hl, Int.max_eq_left hl]; exact h1
    · show 0 ≤ (s.N (min a b).toNat).sort
      rcases Int.le_total a b with hl | hl
      · rw [Int.min_eq_left hl]; exact h2
      · rw [Int.min_eq_right hl, ← h1]; exact h2
theorem sort_in {n : Nat} {N : Nat → Nd} (hc : CheckP n N) {i : Int} (h0 : 0 ≤ i) (h1 : i < n) : 0 ≤ (N i.toNat).sort := (hc.all i.toNat (by omega)).sort0
theorem EqualMR.er {a b : Int} (hc : s.e = 0 → CoreP s.n s.N) (hk : CheckP s.n s.N) (hin : s.e = 0 → (0 ≤ a ∧ a < s.n) ∧ (0 ≤ b ∧ b < s.n)) (h : EqualMR most s a b s' x) (hg : GoodE s.e) (ht : s.e = 0 → (s.N a.toNat).sort = (s.N b.toNat).sort) : GoodE s'.e := by
  cases h with
  | err h => exact hg
  | sort h hs => exact absurd (ht h) hs
  | bool h hs h0 s' x hp => exact hp.er hg (fun _ => by rw [opT_eq2 (F := sortsA s (pk2 a b)) hs.symm (by show 0 ≤ (s.N a.toNat).sort; omega)])
  | own h hs h0 h1 s' x hp => exact hp.er hg (fun _ => ⟨hs, sort_in hk (hin h).1.1 (hin h).1.2⟩)
  | int h hs h1 s1 x hx s2 y hy s' z hp =>
    obtain ⟨⟨a0, a1⟩, b0, b1⟩ := hin h
    have g1 := hx.grow hk
    have g2 := hy.grow g1.st.chk
    have e1 := hx.er hg (fun _ => ⟨h1, by rw [← hs]; exact h1⟩)
    have e2 := hy.er e1 (fun _ => ⟨by rw [g1.st.old _ (by omega), ← hs]; exact h1, by rw [g1.st.old _ (by omega)]; exact h1⟩)
    refine hp.er e2 (fun he2 => ?_)
    have he1 : s1.e = 0 := Classical.byContradiction fun hh => g2.st.bad hh he2
    obtain ⟨c1, x1⟩ := hx.gd (hc h) he1
    obtain ⟨c2, y1⟩ := hy.gd c1 he2
    have x0 := g1.x0
    have x2 := g1.x1
    refine opT_two (.inl rfl) ?_ y1
    show (s2.N x.toNat).sort = 0
    rw [g2.st.old _ (by omega)]
    exact x1
theorem BehindR.er {so i y : Int} (hk : CheckP s.n s.N) (hin : s.e = 0 → (0 ≤ i ∧ i < s.n) ∧ (0 ≤ y ∧ y < s.n)) (h : BehindR most so s i y s') (hg : GoodE s.e) (ht : s.e = 0 → (s.N i.toNat).sort = so ∧ (s.N y.toNat).sort = so) : GoodE s'.e := by
  cases h with
  | bool => exact hg
  | int h1 s1 u hu s2 v hv =>
    have g1 := hu.grow hk
    have e1 := hu.er hg (fun h => by obtain ⟨p, q⟩ := ht h; rw [p, q]; exact ⟨h1, h1⟩)
    refine hv.er e1 (fun h => ?_)
    have h0 : s.e = 0 := Classical.byContradiction fun hh => g1.st.bad hh h
    obtain ⟨⟨a0, a1⟩, b0, b1⟩ := hin h0
    obtain ⟨p, q⟩ := ht h0
    rw [g1.st.old _ (by omega), g1.st.old _ (by omega), p, q]
    exact ⟨h1, h1⟩
  | own h0 h1 s' u hu =>
    refine hu.er hg (fun h => ?_)
    obtain ⟨p, q⟩ := ht h
    exact ⟨by rw [p, q], sort_in hk (hin h).1.1 (hin h).1.2⟩
theorem IteMR.er {a b c : Int} (hk : CheckP s.n s.N) (hc : s.e = 0 → CoreP s.n s.N) (hin : s.e = 0 → (0 ≤ b ∧ b < s.n) ∧ (0 ≤ c ∧ c < s.n)) (h : IteMR most s a b c s' x) (hg : GoodE s.e) (ht : s.e = 0 → (opT 7 3 (sortsA s (pk3' a b c))).2 = 0) : GoodE s'.e := by
  cases h with
  | err h => exact hg
  | sort h hs => exact absurd (ht h) hs
  | one => exact hg
  | put h hs hbc s1 i hi s2 h2 s3 h3 =>
    have g1 := hi.grow hk
    have g2 := h2.grow g1.st.chk
    obtain ⟨⟨b0, b1⟩, c0, c1⟩ := hin h
    obtain ⟨_, _, hF2, hF1⟩ := opT_ite (m := 3) (F := sortsA s (pk3' a b c)) (s := (opT 7 3 (sortsA s (pk3' a b c))).1) (Prod.ext rfl hs)
    have f1 : sortsA s (pk3' a b c) 1 = (s.N b.toNat).sort := rfl
    have f2 : sortsA s (pk3' a b c) 2 = (s.N c.toNat).sort := rfl
    rw [f1] at hF1 hF2
    rw [f2] at hF2
    have hm1 := g1.st.more
    have hm2 := g2.more
    have x0 := g1.x0
    have x1 := g1.x1
    have so : s1.e = 0 → (s1.N x.toNat).sort = (s.N b.toNat).sort := fun h1 => by
      rw [((hi.gd (hc h) (by omega) (by decide) (fun _ o => absurd o (by decide)) (fun _ o => absurd o (by decide))) h1).2, hF1]
    have e1 := hi.er hg ht
    have e2 := h2.er g1.st.chk (fun _ => ⟨⟨x0, x1⟩, b0, by omega⟩) e1 (fun h1 => ⟨so h1, by rw [g1.st.old _ (by omega)]⟩)
    refine h3.er g2.chk (fun _ => ⟨⟨x0, by omega⟩, c0, by omega⟩) e2 (fun h2 => ?_)
    have h1 : s1.e = 0 := Classical.byContradiction fun hh => g2.bad hh h2
    exact ⟨by rw [g2.old _ (by omega)]; exact so h1, by rw [g2.old _ (by omega), g1.st.old _ (by omega), hF2]⟩
theorem WayR.er {nd : Nd} {V : Nat → Int} (hc : CoreP s.n s.N) (h0 : s.e = 0) (hV : ∀ i, i < nd.len.toNat → 0 ≤ V i ∧ V i < s.n) (har : nd.op ≠ 13 → nd.len = ar nd.op) (ht : nd.op ≠ 13 → opT nd.op nd.len.toNat (sortsA s V) = (nd.sort, 0)) (h : WayR most s nd V s' x) : GoodE s'.e := by
  have hg : GoodE s.e := .inl h0
  have hk := hc.chk
  have h2 := hk.two
  have al : ∀ {op : Int} {k : Nat}, nd.op = op → op ≠ 13 → ar op = k → nd.len.toNat = k := fun ho h13 hk => by
    have := har (by rw [ho]; exact h13)
    rw [this, ho, hk]; simp
  have so : ∀ {op : Int}, nd.op = op → op ≠ 13 → op ≠ 7 → nd.sort = tyR op ∧ (tyA op ≠ -1 → ∀ i, i < nd.len.toNat → (s.N (V i).toNat).sort = tyA op) := fun ho h13 h7 => by
    have := ht (by rw [ho]; exact h13)
    rw [ho] at this
    obtain ⟨_, h2, h3⟩ := opT_ok this h7
    exact ⟨h2, h3⟩
  cases h with
  | tru => exact hg
  | neg ho s' x hp =>
    have hl := al ho (by decide) (k := 1) rfl
    exact hp.er hg (fun _ => (so ho (by decide) (by decide)).2 (by decide) 0 (by omega))
  | kind ho s' x hp => exact hp.er hg (fun _ => by rw [ht (by omega)])
  | xor ho s1 y hy s' x hp =>
    obtain ⟨_, hA⟩ := so ho (by decide) (by decide)
    have hl := al ho (by decide) (k := 2) rfl
    rw [hl] at hy
    have s0 : (s.N (V 0).toNat).sort = 0 := hA (by decide) 0 (by omega)
    have s1' : (s.N (V 1).toNat).sort = 0 := hA (by decide) 1 (by omega)
    have hq : opT 6 2 (sortsA s V) = (0, 0) := opT_eq2 (s1'.trans s0.symm) (by show 0 ≤ (s.N (V 0).toNat).sort; omega)
    refine hp.er (hy.er hg (fun _ => by rw [hq])) (fun he => ?_)
    rw [((hy.gd hc (by omega) (by decide) (fun _ o => absurd o (by decide)) (fun _ _ => ⟨by rw [s0]; decide, .inl s0⟩)) he).2, hq]
  | imp ho s1 y hy s' x hp =>
    obtain ⟨_, hA⟩ := so ho (by decide) (by decide)
    have hl := al ho (by decide) (k := 2) rfl
    have s0 : (s.N (V 0).toNat).sort = 0 := hA (by decide) 0 (by omega)
    have s1' : (s.N (V 1).toNat).sort = 0 := hA (by decide) 1 (by omega)
    have g1 := hy.grow hk (fun _ => hV 0 (by omega))
    obtain ⟨v0, v1⟩ := hV 1 (by omega)
    refine hp.er (hy.er hg (fun _ => s0)) (fun he => opT_two (.inr rfl) ?_ ?_)
    · exact ((hy.gd (fun _ => hc) (fun _ => ⟨hV 0 (by omega), s0⟩)) he).2
    · show (s1.N (V 1).toNat).sort = 0
      rw [g1.st.old _ (by omega)]; exact s1'
  | eq ho s' x hp =>
    have hl := al ho (by decide) (k := 2) rfl
    have hq := ht (by rw [ho]; decide)
    rw [hl, ho] at hq
    have hq2 : (s.N (V 0).toNat).sort = (s.N (V 1).toNat).sort := (opT_eqs hq).symm
    exact hp.er (fun _ => hc) hk (fun _ => ⟨hV 0 (by omega), hV 1 (by omega)⟩) hg (fun _ => hq2)
  | ite ho s' x hp =>
    have hl := al ho (by decide) (k := 3) rfl
    have h7 := ht (by rw [ho]; decide)
    rw [ho, hl] at h7
    refine hp.er hk (fun _ => hc) (fun _ => ⟨hV 1 (by omega), hV 2 (by omega)⟩) hg (fun _ => ?_)
    rw [show opT 7 3 (sortsA s (pk3' (V 0) (V 1) (V 2))) = opT 7 3 (sortsA s V) from opT_congr fun i hi => by
      have : i = 0 ∨ i = 1 ∨ i = 2 := by omega
      rcases this with rfl | rfl | rfl <;> rfl, h7]
  | le ho s' x hp =>
    have hl := al ho (by decide) (k := 2) rfl
    have hA := (so ho (by decide) (by decide)).2 (by decide)
    exact hp.er hg (fun _ => ⟨hA 0 (by omega), hA 1 (by omega)⟩)
  | lt ho s' x hp =>
    have hl := al ho (by decide) (k := 2) rfl
    have hA := (so ho (by decide) (by decide)).2 (by decide)
    exact hp.er hg (fun _ => ⟨hA 0 (by omega), hA 1 (by omega)⟩)
  | num ho m M x er hp => exact kept_er (hp.er (by show (s.N 1).sort = 1; rw [hk.zz]; rfl))
  | add ho m M x er hp =>
    have hl := al ho (by decide) (k := 1) rfl
    exact kept_er (hp.er hc ((so ho (by decide) (by decide)).2 (by decide) 0 (by omega)))
  | diff ho s' x hp =>
    have hl := al ho (by decide) (k := 2) rfl
    have hA := (so ho (by decide) (by decide)).2 (by decide)
    exact hp.er hg (fun _ => ⟨hA 0 (by omega), hA 1 (by omega)⟩)
  | app ho s' x hp => exact hp.er hg
end
end Go.Proofs.YtecmoahadckomaaGreat

namespace Go.Proofs.YtecmoahadckomaaGreat
open Go.RowKit

/-- The table of s is the beginning of the m nodes M. -/
structure ExP (n : Nat) (N : Nat → Nd) (m : Nat) (M : Nat → Nd) : Prop where
  le : n ≤ m
  eq : ∀ i, i < n → M i = N i
theorem ExP.of {k : Nat} {s s' : CSt} {m : Nat} {M : Nat → Nd} (h : ExP s'.n s'.N m M) (g : StG k s s') : ExP s.n s.N m M :=
  ⟨Nat.le_trans g.more h.le, fun i hi => (h.eq i (Nat.lt_of_lt_of_le hi g.more)).trans (g.old i hi)⟩
section
variable {g : Sg} {W : Wd} {m : Nat} {M : Nat → Nd}
theorem val_one (hc : CheckP m M) {i : Nat} (hi : i < m) {a so : Int} (hn : M i = ⟨1, 1, a, 0, 0, so, 0, 0⟩) {u : Int} (hu : evF g W M m a.toNat = (u, false)) : evF g W M m i = (1 - u, false) := by
  have hl : (M i).len = 1 := by rw [hn]
  have ho : (M i).op = 1 := by rw [hn]
  have ha : (M i).arg 0 = a := by rw [hn]; rfl
  have := ev_at (g := g) (W := W) hc hi (fun j hj => by
    have : j = 0 := by omega
    subst this
    rw [ha, hu]) (by rw [way_not ho])
  rw [this, way_not ho]
  show (1 - (evF g W M m ((M i).arg 0).toNat).1, false) = _
  rw [ha, hu]
theorem way_two {e : Nd} {k : Nat} {V : Nat → Int} (h : e.op = 2 ∨ e.op = 3 ∨ e.op = 6) : wayT g W e k V = (if e.op = 2 then bI (V 0 == 1 && V 1 == 1) else if e.op = 3 then bI (V 0 == 1 || V 1 == 1) else bI (V 0 == V 1), true) := by
  rcases h with h | h | h <;> simp [wayT, h]
theorem val_two (hc : CheckP m M) {i : Nat} (hi : i < m) {op a b so : Int} (h : op = 2 ∨ op = 3 ∨ op = 6) (hn : M i = ⟨op, 2, a, b, 0, so, 0, 0⟩) {u v : Int} (hu : evF g W M m a.toNat = (u, false)) (hv : evF g W M m b.toNat = (v, false)) :
    evF g W M m i = (if op = 2 then bI (u == 1 && v == 1) else if op = 3 then bI (u == 1 || v == 1) else bI (u == v), false) := by
  have hl : (M i).len = 2 := by rw [hn]
  have ho : (M i).op = op := by rw [hn]
  have h' : (M i).op = 2 ∨ (M i).op = 3 ∨ (M i).op = 6 := by rw [ho]; exact h
  have ha : (M i).arg 0 = a := by rw [hn]; rfl
  have hb : (M i).arg 1 = b := by rw [hn]; rfl
  have := ev_at (g := g) (W := W) hc hi (fun j hj => by
    have : j = 0 ∨ j = 1 := by omega
    rcases this with rfl | rfl
    · rw [ha, hu]
    · rw [hb, hv]) (by rw [way_two h'])
  rw [this, way_two h', ho]
  show (if op = 2 then bI ((evF g W M m ((M i).arg 0).toNat).1 == 1 && (evF g W M m ((M i).arg 1).toNat).1 == 1) else if op = 3 then bI ((evF g W M m ((M i).arg 0).toNat).1 == 1 || (evF g W M m ((M i).arg 1).toNat).1 == 1) else bI ((evF g W M m ((M i).arg 0).toNat).1 == (evF g W M m ((M i).arg 1).toNat).1), false) = _
  rw [ha, hb, hu, hv]
theorem val_ite (hc : CheckP m M) {i : Nat} (hi : i < m) {a b c so : Int} (hn : M i = ⟨7, 3, a, b, c, so, 0, 0⟩) {u v y : Int} (hu : evF g W M m a.toNat = (u, false)) (hv : evF g W M m b.toNat = (v, false)) (hy : evF g W M m c.toNat = (y, false)) :
    evF g W M m i = (if u = 1 then v else y, false) := by
  have hl : (M i).len = 3 := by rw [hn]
  have ho : (M i).op = 7 := by rw [hn]
  have ha : (M i).arg 0 = a := by rw [hn]; rfl
  have hb : (M i).arg 1 = b := by rw [hn]; rfl
  have hcc : (M i).arg 2 = c := by rw [hn]; rfl
  have hw : ∀ k V, wayT g W (M i) k V = (if V 0 = 1 then V 1 else V 2, true) := fun k V => by simp [wayT, ho]
  have := ev_at (g := g) (W := W) hc hi (fun j hj => by
    have : j = 0 ∨ j = 1 ∨ j = 2 := by omega
    rcases this with rfl | rfl | rfl
    · rw [ha, hu]
    · rw [hb, hv]
    · rw [hcc, hy]) (by rw [hw])
  rw [this, hw]
  show (if (evF g W M m ((M i).arg 0).toNat).1 = 1 then (evF g W M m ((M i).arg 1).toNat).1 else (evF g W M m ((M i).arg 2).toNat).1, false) = _
  rw [ha, hb, hcc, hu, hv, hy]
theorem val_diff (hE : EvOk g W m M) {i : Nat} (hi : i < m) {a b d : Int} (hn : M i = diffNd a b d) {u v : Int} (hu : evF g W M m a.toNat = (u, false)) (hv : evF g W M m b.toNat = (v, false)) :
    evF g W M m i = (bI (decide (u - v ≤ d)), false) := by
  have hl : (M i).len = 2 := by rw [hn]; rfl
  have ho : (M i).op = 12 := by rw [hn]; rfl
  have ha : (M i).arg 0 = a := by rw [hn]; rfl
  have hb : (M i).arg 1 = b := by rw [hn]; rfl
  have := ev_at (g := g) (W := W) hE.chk hi (fun j hj => by
    have : j = 0 ∨ j = 1 := by omega
    rcases this with rfl | rfl
    · rw [ha, hu]
    · rw [hb, hv]) (by rw [way_diff ho])
  have h2 : (evF g W M m i).2 = false := by rw [this]
  have hd := ev_diff hE hi ho h2
  refine Prod.ext ?_ h2
  rw [hd, hn]
  show bI (decide ((evF g W M m a.toNat).1 - (evF g W M m b.toNat).1 ≤ d)) = _
  rw [hu, hv]
theorem val_num (hc : CheckP m M) {i : Nat} (hi : i < m) {k : Int} (hn : M i = numNd k) : evF g W M m i = (k, false) := by
  have hl : (M i).len = 0 := by rw [hn]; rfl
  have ho : (M i).op = 10 := by rw [hn]; rfl
  have := ev_at (g := g) (W := W) hc hi (fun j hj => by omega) (by rw [way_num ho])
  rw [this, way_num ho, hn]
  rfl
theorem val_add (hc : CheckP m M) {i : Nat} (hi : i < m) {b k : Int} (hn : M i = addNd b k) {u : Int} (hu : evF g W M m b.toNat = (u, false)) (hk : addOk u k = true) : evF g W M m i = (u + k, false) := by
  have hl : (M i).len = 1 := by rw [hn]; rfl
  have ho : (M i).op = 11 := by rw [hn]; rfl
  have hm : (M i).num = k := by rw [hn]; rfl
  have ha : (M i).arg 0 = b := by rw [hn]; rfl
  have hV : argV (evF g W M m) (M i) 0 = u := by unfold argV; rw [ha, hu]
  have hw : wayT g W (M i) (M i).len.toNat (argV (evF g W M m) (M i)) = (u + k, true) := by
    have : wayT g W (M i) (M i).len.toNat (argV (evF g W M m) (M i)) = if addOk (argV (evF g W M m) (M i) 0) (M i).num then (argV (evF g W M m) (M i) 0 + (M i).num, true) else (0, false) := by simp [wayT, ho]
    rw [this, hV, hm, if_pos hk]
  have := ev_at (g := g) (W := W) hc hi (fun j hj => by
    have : j = 0 := by omega
    subst this
    rw [ha, hu]) (by rw [hw])
  rw [this, hw]
/-- A base's value. -/
theorem val_base (hE : EvOk g W m M) {n : Nat} {N : Nat → Nd} (hx : ExP n N m M) {id b k : Int} (h : OfT n N id b k 0) {u : Int} (hu : evF g W M m id.toNat = (u, false)) :
    ∃ p : Nat, b = p ∧ p < m ∧ evF g W M m p = (u - k, false) := by
  obtain ⟨hc, i, b', rfl, hi, hs, rfl, ho⟩ := h.good rfl
  rw [Int.toNat_natCast] at hu
  have hle := hx.le
  obtain ⟨hp, hpo, hv⟩ := ofR_value hE.chk (ho.congr hc hi hx.eq) (by omega) (by rw [hu]) b' k rfl
  rw [hu] at hv
  exact ⟨b', rfl, hp, Prod.ext (by show (evF g W M m b').1 = u - k; have hv : u = (evF g W M m b').1 + (k - 0) := hv; omega) hpo⟩
theorem val_int (hE : EvOk g W m M) {i : Nat} (hi : i < m) (hs : (M i).sort = 1) : mayB (evF g W M m i).1 = true := by
  have := ev_is hE hi
  rw [hs, isB_int (mayW_nz hE.may)] at this
  exact this
theorem OfT.int {n : Nat} {N : Nat → Nd} (hx : ExP n N m M) {id b k : Int} (h : OfT n N id b k 0) : (0 ≤ id ∧ id < m) ∧ (M id.toNat).sort = 1 := by
  obtain ⟨hc, i, b', rfl, hi, hs, rfl, ho⟩ := h.good rfl
  have hle := hx.le
  exact ⟨by omega, by rw [Int.toNat_natCast, hx.eq i hi]; exact hs⟩
section
variable {most : Int} {s s' : CSt} {x : Int}
theorem NodeR.at_ {nd : Nd} (h : NodeR most s nd s' x) (he : s'.e = 0) : ∃ i : Nat, x = i ∧ i < s'.n ∧ s'.N i = nd := by
  cases h with
  | err hh => exact absurd he hh
  | put hh k K x er hp =>
    obtain rfl := kept_ok he
    rw [keptS_ok]
    obtain ⟨j, hj0, hj, hje, _⟩ := hp.good
    exact ⟨j, hj0, hj, hje⟩
theorem PutOpR.at_ {op : Int} {k : Nat} {A : Nat → Int} (h : PutOpR most s op k A s' x) (he : s'.e = 0) (hx : ExP s'.n s'.N m M) : ∃ (i : Nat) (so : Int), x = i ∧ i < m ∧ M i = opNd op k A so := by
  cases h with
  | err hh => exact absurd he hh
  | sort hh hs => exact absurd (show (33 : Int) = 0 from he) (by decide)
  | put hh hs s' x hp =>
    obtain ⟨i, rfl, hi, hn⟩ := hp.at_ he
    have hle := hx.le
    exact ⟨i, _, rfl, by omega, (hx.eq i hi).trans hn⟩
theorem DiffMR.val (hE : EvOk g W m M) (hk : CheckP s.n s.N) {a b c : Int} (h : DiffMR most s a b c s' x) (he : s'.e = 0) (hx : ExP s'.n s'.N m M) {u v : Int} (hu : evF g W M m a.toNat = (u, false)) (hv : evF g W M m b.toNat = (v, false)) :
    evF g W M m x.toNat = (bI (decide (u - v ≤ c)), false) := by
  have hx0 := hx.of (h.grow hk).st
  cases h with
  | err hh => exact absurd he hh
  | put hh k K x is er hp =>
    obtain rfl := kept_ok he
    rw [keptS_ok] at hx
    have hx : ExP k K m M := hx
    have hle := hx.le
    obtain ⟨⟨p, q, d, hd, hcs⟩, hm, hold⟩ := hp.good rfl
    cases hd with
    | e1 _ _ _ _ hn => exact absurd rfl hn
    | e2 _ _ _ _ _ _ _ hn => exact absurd rfl hn
    | ok _ k1 h1 _ k2 h2 o1 o2 =>
      obtain ⟨p', rfl, hp', hvp⟩ := val_base hE hx0 h1 hu
      obtain ⟨q', rfl, hq', hvq⟩ := val_base hE hx0 h2 hv
      rcases hcs with ⟨e, hd0, rfl⟩ | ⟨e, hd0, hid, hn⟩ | ⟨hne, hid, hn⟩
      · have : p' = q' := by omega
        subst this
        rw [hvp] at hvq
        injection hvq with hvq _
        rw [show (0 : Int).toNat = 0 from rfl, ev_true hE.chk, decide_eq_true (by omega : u - v ≤ c)]
        rfl
      · have : p' = q' := by omega
        subst this
        rw [hvp] at hvq
        injection hvq with hvq _
        have hn' : M x.toNat = ⟨1, 1, 0, 0, 0, 0, 0, 0⟩ := (hx.eq _ (by omega)).trans hn
        rw [val_one hE.chk (by omega) hn' (u := 1) (ev_true hE.chk), decide_eq_false (by omega : ¬ u - v ≤ c)]
        rfl
      · have hn' : M x.toNat = diffNd p' q' (c - k1 + k2) := (hx.eq _ (by omega)).trans hn
        rw [val_diff hE (by omega) hn' (by rw [Int.toNat_natCast]; exact hvp) (by rw [Int.toNat_natCast]; exact hvq)]
        by_cases hlt : u - v ≤ c
        · rw [decide_eq_true hlt, decide_eq_true (by omega)]
        · rw [decide_eq_false hlt, decide_eq_false (by omega)]
theorem NotMR.val (hE : EvOk g W m M) {a : Int} (ha : s.e = 0 → 0 ≤ a ∧ a < s.n) (h : NotMR most s a s' x) (he : s'.e = 0) (hx : ExP s'.n s'.N m M) {u : Int} (hu : evF g W M m a.toNat = (u, false)) :
    evF g W M m x.toNat = (1 - u, false) := by
  cases h with
  | back hh ho =>
    obtain ⟨a0, a1⟩ := ha hh
    have hle := hx.le
    have e0 : M a.toNat = s.N a.toNat := hx.eq _ (by omega)
    have ho' : (M a.toNat).op = 1 := by rw [e0]; exact ho
    have hst := hE.chk.all a.toNat (by omega)
    have hl : (M a.toNat).len = 1 := by rw [hst.len (by rw [ho']; decide), ho']; decide
    obtain ⟨hov, _, hv⟩ := ev_back hE.chk (j := a.toNat) (by omega) (by rw [hu])
    rw [way_not ho', hu] at hv
    have hv : u = 1 - (evF g W M m (M a.toNat).a0.toNat).1 := hv
    have h0 : (evF g W M m (M a.toNat).a0.toNat).2 = false := hov 0 (by omega)
    rw [← e0]
    exact Prod.ext (by show _ = 1 - u; omega) h0
  | put hh s' x hp =>
    obtain ⟨i, so, rfl, hi, hn⟩ := hp.at_ he hx
    rw [Int.toNat_natCast]
    exact val_one hE.chk hi hn hu
theorem put_two (hE : EvOk g W m M) {op : Int} {A : Nat → Int} (h : op = 2 ∨ op = 3 ∨ op = 6) (hp : PutOpR most s op 2 A s' x) (he : s'.e = 0) (hx : ExP s'.n s'.N m M) {u v : Int} (hu : evF g W M m (A 0).toNat = (u, false)) (hv : evF g W M m (A 1).toNat = (v, false)) :
    evF g W M m x.toNat = (if op = 2 then bI (u == 1 && v == 1) else if op = 3 then bI (u == 1 || v == 1) else bI (u == v), false) := by
  obtain ⟨i, so, rfl, hi, hn⟩ := hp.at_ he hx
  rw [Int.toNat_natCast]
  exact val_two hE.chk hi h hn hu hv
theorem SameMR.val (hE : EvOk g W m M) {a b : Int} (h : SameMR most s a b s' x) (he : s'.e = 0) (hx : ExP s'.n s'.N m M) {u v : Int} (hu : evF g W M m a.toNat = (u, false)) (hv : evF g W M m b.toNat = (v, false)) :
    evF g W M m x.toNat = (bI (u == v), false) := by
  cases h with
  | one hab =>
    subst hab
    rw [hu] at hv
    injection hv with hv _
    subst hv
    rw [show (0 : Int).toNat = 0 from rfl, ev_true hE.chk]
    simp [bI]
  | put hab s' x hp =>
    rcases Int.le_total a b with hl | hl
    · exact put_two hE (.inr (.inr rfl)) hp he hx (by show evF g W M m (min a b).toNat = _; rw [Int.min_eq_left hl]; exact hu) (by show evF g W M m (max a b).toNat = _; rw [Int.max_eq_right hl]; exact hv)
    · have := put_two hE (.inr (.inr rfl)) hp he hx (u := v) (v := u) (by show evF g W M m (min a b).toNat = _; rw [Int.min_eq_right hl]; exact hv) (by show evF g W M m (max a b).toNat = _; rw [Int.max_eq_left hl]; exact hu)
      rw [this]
      have e : (v == u) = (u == v) := by rw [Bool.eq_iff_iff, beq_iff_eq, beq_iff_eq]; exact ⟨Eq.symm, Eq.symm⟩
      show (bI (v == u), false) = _
      rw [e]
theorem EqualMR.val (hE : EvOk g W m M) (hk : CheckP s.n s.N) {a b : Int} (h : EqualMR most s a b s' x) (he : s'.e = 0) (hx : ExP s'.n s'.N m M) {u v : Int} (hu : evF g W M m a.toNat = (u, false)) (hv : evF g W M m b.toNat = (v, false)) :
    evF g W M m x.toNat = (bI (u == v), false) := by
  cases h with
  | err h => exact absurd he h
  | sort h hs => exact absurd (show (33 : Int) = 0 from he) (by decide)
  | bool h hs h0 s' x hp => exact put_two hE (.inr (.inr rfl)) hp he hx hu hv
  | own h hs h0 h1 s' x hp => exact hp.val hE he hx hu hv
  | int h hs h1 s1 x hx1 s2 y hy s' z hp =>
    have g1 := hx1.grow hk
    have g2 := hy.grow g1.st.chk
    have g3 := hp.grow g2.st.chk
    have he2 := (hp.fine he).1
    have he1 : s1.e = 0 := Classical.byContradiction fun hh => g2.st.bad hh he2
    have x2 := hx.of g3.st
    have x1 := x2.of g2.st
    have v1 := hx1.val hE hk he1 x1 hu hv
    have v2 := hy.val hE g1.st.chk he2 x2 hv hu
    have := put_two hE (.inl rfl) hp he hx v1 v2
    rw [this]
    show (bI (bI (decide (u - v ≤ 0)) == 1 && bI (decide (v - u ≤ 0)) == 1), false) = _
    rw [bI_one, bI_one]
    by_cases e : u = v
    · subst e; simp [bI]
    · have e1 : (u == v) = false := by simpa using e
      rw [e1]
      by_cases h1 : u - v ≤ 0
      · rw [decide_eq_false (by omega : ¬ v - u ≤ 0), Bool.and_false]
      · rw [decide_eq_false h1, Bool.false_and]
theorem IteMR.val (hE : EvOk g W m M) (hk : CheckP s.n s.N) {a b c : Int} (h : IteMR most s a b c s' x) (he : s'.e = 0) (hx : ExP s'.n s'.N m M) {u v y : Int} (hu : evF g W M m a.toNat = (u, false)) (hv : evF g W M m b.toNat = (v, false)) (hy : evF g W M m c.toNat = (y, false)) :
    evF g W M m x.toNat = (if u = 1 then v else y, false) := by
  cases h with
  | err h => exact absurd he h
  | sort h hs => exact absurd (show (33 : Int) = 0 from he) (by decide)
  | one h hs hbc =>
    subst hbc
    rw [hv] at hy
    injection hy with hy _
    subst hy
    rw [hv]
    by_cases e : u = 1
    · rw [if_pos e]
    · rw [if_neg e]
  | put h hs hbc s1 i hi s2 h2 s3 h3 =>
    have g1 := hi.grow hk
    have g2 := h2.grow g1.st.chk
    have g3 := h3.grow g2.chk
    have he2 : s2.e = 0 := Classical.byContradiction fun hh => g3.bad hh he
    have he1 : s1.e = 0 := Classical.byContradiction fun hh => g2.bad hh he2
    obtain ⟨j, so, rfl, hj, hn⟩ := hi.at_ he1 ((hx.of g3).of g2)
    rw [Int.toNat_natCast]
    exact val_ite hE.chk hj hn hu hv hy
end
theorem OPutR.val (hE : EvOk g W m M) {n : Nat} {N : Nat → Nd} {most base k : Int} {m' : Nat} {M' : Nat → Nd} {x er : Int} (hr : OPutR n N base k most m' M' x er) (he : er = 0) (hx : ExP m' M' m M) {u : Int} (hu : evF g W M m base.toNat = (u, false)) (ho : mayB (u + k) = true) :
    evF g W M m x.toNat = (u + k, false) := by
  have hle := hx.le
  cases hr with
  | of _ _ _ _ hn => exact absurd he hn
  | own => exact absurd he (by decide)
  | over => exact absurd he (by decide)
  | zero _ h hk hz _ _ _ _ hp =>
    subst he
    subst hz
    have e1 : evF g W M m 1 = (u, false) := hu
    rw [ev_zero hE.chk] at e1
    injection e1 with e1 _
    obtain ⟨j, rfl, hj, hje, _⟩ := hp.good
    rw [Int.toNat_natCast, val_num hE.chk (by omega) ((hx.eq j hj).trans hje)]
    exact Prod.ext (by show k = u + k; omega) rfl
  | same _ h hk hz h0 => rw [hu]; exact Prod.ext (by show u = u + k; omega) rfl
  | add _ h hk hz h0 _ _ _ _ hp =>
    subst he
    obtain ⟨j, rfl, hj, hje, _, hm, hold, _⟩ := hp.good
    have hx0 : ExP n N m M := ⟨by omega, fun i hi => (hx.eq i (by omega)).trans (hold i hi)⟩
    obtain ⟨⟨b0, b1⟩, hs⟩ := h.int hx0
    have hmu := val_int hE (i := base.toNat) (by omega) hs
    rw [hu] at hmu
    rw [Int.toNat_natCast]
    refine val_add hE.chk (by omega) ((hx.eq j hj).trans hje) hu ?_
    unfold addOk
    rw [show mayB u = true from hmu, hk, ho]; rfl
theorem OAddR.val (hE : EvOk g W m M) {n : Nat} {N : Nat → Nd} {most id k : Int} {m' : Nat} {M' : Nat → Nd} {x er : Int} (hr : OAddR n N id k most m' M' x er) (he : er = 0) (hx0 : ExP n N m M) (hx : ExP m' M' m M) {u : Int} (hu : evF g W M m id.toNat = (u, false)) (ho : mayB (u + k) = true) :
    evF g W M m x.toNat = (u + k, false) := by
  cases hr with
  | of _ _ _ _ hn => exact absurd he hn
  | over => exact absurd he (by decide)
  | put b k0 h hk _ _ _ _ hp =>
    obtain ⟨p, rfl, hp', hv⟩ := val_base hE hx0 h hu
    have := hp.val hE he hx (u := u - k0) (by rw [Int.toNat_natCast]; exact hv) (by rw [show u - k0 + (k0 + k) = u + k by omega]; exact ho)
    rw [this, show u - k0 + (k0 + k) = u + k by omega]
end
end Go.Proofs.YtecmoahadckomaaGreat

namespace Go.Proofs.YtecmoahadckomaaGreat
open Go.RowKit

/-- What is known where a node's image is put. -/
structure StepH (nt : Nat) (NT : Nat → Nd) (id : Nat) (s : CSt × CK) (V : Nat → Int) : Prop where
  inv : WInv nt NT s
  ok : s.1.e = 0
  lt : id < nt
  ins : ∀ i, i < (NT id).len.toNat → 0 ≤ V i ∧ V i < s.1.n
  srt : ∀ i, i < (NT id).len.toNat → (s.1.N (V i).toNat).sort = sortsN NT (NT id) i
  har : (NT id).op ≠ 13 → (NT id).len = ar (NT id).op
  typ : (NT id).op ≠ 13 → opT (NT id).op (NT id).len.toNat (sortsA s.1 V) = ((NT id).sort, 0)
/-- What every step keeps, the walk keeps. -/
theorem WalkP.keep {nt : Nat} {NT : Nat → Nd} {most : Int} (hc : CheckP nt NT) (hf : fitsB nt NT = true) {P : CSt → Prop} (step : ∀ id s V m' x, StepH nt NT id s V → P s.1 → WayR most s.1 (NT id) V m' x → P m') : ∀ (f id : Nat) (s s' : CSt × CK) (x : Int), id < f → id < nt → WInv nt NT s → P s.1 →
    WalkP NT most f s id s' x → P s'.1
  | 0, id, _, _, _, h, _, _, _, _ => by omega
  | f + 1, id, s, s', x, hidf, hid, hI, hP, h => by
    have h2 := hI.inv.chk.two
    rcases h with ⟨hk, rfl⟩ | ⟨hk, he, rfl, rfl⟩ | ⟨hk, he, s1, V, hA, hend⟩
    · exact hP
    · exact hP
    · have hst := hc.all id hid
      have args : ∀ (k : Nat) (t : CSt × CK), k ≤ (NT id).len.toNat → ArgsP (WalkP NT most f) (NT id) k s t V →
          WInv nt NT t ∧ ExtK s t ∧ (∀ i, i < k → 0 ≤ V i ∧ V i < t.1.n ∧ (t.1.e = 0 → (t.1.N (V i).toNat).sort = sortsN NT (NT id) i)) ∧ P t.1 := by
        intro k
        induction k with
        | zero =>
          intro t _ ht
          have ht : t = s := ht
          subst ht
          exact ⟨hI, ExtK.refl _, fun i hi => absurd hi (Nat.not_lt_zero i), hP⟩
        | succ k ih =>
          rintro t hk ⟨u, hu, hw⟩
          obtain ⟨iu, eu, vu, pu⟩ := ih u (by omega) hu
          have ha := hc.argB hid (k := k) (by omega)
          have hE := WalkP.fin hc hf f ((NT id).arg k).toNat u t (V k) (by omega) (by omega) iu hw
          refine ⟨hE.inv, eu.trans hE.ext, fun i hi => ?_, WalkP.keep hc hf step f ((NT id).arg k).toNat u t (V k) (by omega) (by omega) iu pu hw⟩
          by_cases e : i = k
          · subst e
            exact ⟨hE.x0, hE.x1, fun h0 => hE.so h0⟩
          · obtain ⟨v0, v1, v2⟩ := vu i (by omega)
            have hm := hE.ext.more
            exact ⟨v0, by omega, fun h0 => by rw [hE.ext.old _ (by omega)]; exact v2 (hE.ext.ok h0)⟩
      obtain ⟨i1, e1, v1, p1⟩ := args _ s1 (Nat.le_refl _) hA
      rcases hend with ⟨hne, rfl, rfl⟩ | ⟨h0, m', hW, rfl⟩
      · exact p1
      · obtain ⟨o, ho, ho14, hty⟩ := op_nat hst
        have hfit : fitN NT (NT id) = true := (upTo_iff _ _).1 hf id hid
        have ht : (NT id).op ≠ 13 → opT (NT id).op (NT id).len.toNat (sortsA s1.1 V) = ((NT id).sort, 0) := fun h13 => by
          rw [← fit_of hfit h13]
          exact opT_congr fun i hi => (v1 i hi).2.2 h0
        exact step id s1 V m' x ⟨i1, h0, hid, fun i hi => ⟨(v1 i hi).1, (v1 i hi).2.1⟩, fun i hi => (v1 i hi).2.2 h0, hty, ht⟩ p1 hW
theorem RootsP.keep {nt : Nat} {NT : Nat → Nd} {most : Int} {R : Nat → Int} (hc : CheckP nt NT) (hf : fitsB nt NT = true) {P : CSt → Prop} (step : ∀ id s V m' x, StepH nt NT id s V → P s.1 → WayR most s.1 (NT id) V m' x → P m') (hs : P s012.1) {X : Nat → Int} : ∀ (k : Nat) (s : CSt × CK), (∀ i, i < k → 0 ≤ R i ∧ R i < nt) → RootsP (WalkP NT most nt) R k s012 s X → P s.1
  | 0, s, _, h => by
    have h : s = s012 := h
    subst h
    exact hs
  | k + 1, s, hR, ⟨u, hu, hw⟩ => by
    obtain ⟨iu, _⟩ := RootsP.fin hc hf k u (fun i hi => hR i (by omega)) hu
    have hr := hR k (by omega)
    exact WalkP.keep hc hf step nt (R k).toNat u s (X k) (by omega) (by omega) iu (RootsP.keep hc hf step hs k u (fun i hi => hR i (by omega)) hu) hw
/-- A table that is well sorted fits. -/
theorem EvOk.fits {g : Sg} {W : Wd} {n : Nat} {N : Nat → Nd} (h : EvOk g W n N) : fitsB n N = true := by
  refine (upTo_iff _ _).2 fun i hi => ?_
  by_cases h13 : (N i).op = 13
  · unfold fitN; rw [if_pos h13]
  · refine fitN_mk h13 ?_
    have := okNd_iff (h.srt i hi)
    unfold nodeT at this
    rwa [if_neg h13] at this
theorem AO.start (g : Sg) : PA g s012.1 := fun _ i hi o => absurd o ((show ∀ p, p < 2 → (newN p).op ≠ 13 by decide) i hi)
theorem app_ok {g : Sg} {W : Wd} {nt : Nat} {NT : Nat → Nd} (hE : EvOk g W nt NT) {id : Nat} {s : CSt × CK} {V : Nat → Int} (h : StepH nt NT id s V) (h13 : (NT id).op = 13) : okNd g s.1.N (appNd (NT id) V) = true := by
  have hn := okNd_iff (hE.srt id h.lt)
  have hl3 := (hE.chk.all id h.lt).len3
  unfold nodeT at hn
  rw [if_pos h13] at hn
  have e : appT g (NT id).fn (NT id).len.toNat (sortsN s.1.N (appNd (NT id) V)) = appT g (NT id).fn (NT id).len.toNat (sortsN NT (NT id)) := by
    have hb : argsB (g.F (NT id).fn.toNat) (NT id).len.toNat (sortsN s.1.N (appNd (NT id) V)) = argsB (g.F (NT id).fn.toNat) (NT id).len.toNat (sortsN NT (NT id)) := by
      have hq : ∀ i, i < (NT id).len.toNat → sortsN s.1.N (appNd (NT id) V) i = sortsN NT (NT id) i := fun i hi => by
        rw [← h.srt i hi]
        have : i = 0 ∨ i = 1 ∨ i = 2 := by omega
        unfold sortsN
        rcases this with rfl | rfl | rfl
        · show (s.1.N (if 0 < (NT id).len then V 0 else 0).toNat).sort = _; rw [if_pos (by omega)]
        · show (s.1.N (if 1 < (NT id).len then V 1 else 0).toNat).sort = _; rw [if_pos (by omega)]
        · show (s.1.N (if 2 < (NT id).len then V 2 else 0).toNat).sort = _; rw [if_pos (by omega)]
      by_cases hb : argsB (g.F (NT id).fn.toNat) (NT id).len.toNat (sortsN NT (NT id)) = true
      · rw [hb]
        refine args_yes fun i hi => ?_
        rw [hq i hi]
        by_cases e : sortsN NT (NT id) i = (g.F (NT id).fn.toNat).arg i
        · exact e
        · rw [args_no hi e] at hb; cases hb
      · obtain ⟨_, _, ha, _⟩ := appT_ok hn
        exact absurd (args_yes ha) hb
    unfold appT
    rw [hb]
  unfold okNd nodeT
  have o13 : (appNd (NT id) V).op = 13 := h13
  rw [if_pos o13]
  show ((appT g (NT id).fn (NT id).len.toNat (sortsN s.1.N (appNd (NT id) V))).2 == 0 && (appT g (NT id).fn (NT id).len.toNat (sortsN s.1.N (appNd (NT id) V))).1 == (NT id).sort) = true
  rw [e, hn]
  simp
section
variable {g : Sg} {W : Wd} {m : Nat} {M : Nat → Nd}
theorem bI_inj {b c : Bool} (h : b = c) : (bI b, false) = (bI c, false) := by rw [h]
/-- A node's image is worth what the node is worth. -/
theorem WayR.val {most : Int} {s s' : CSt} {x : Int} (hE : EvOk g W m M) (hc : CoreP s.n s.N) (h0 : s.e = 0) {nd : Nd} {at_ : Int} (hst : StandsP nd at_) {V U : Nat → Int} (hV : ∀ i, i < nd.len.toNat → 0 ≤ V i ∧ V i < s.n) (har : nd.op ≠ 13 → nd.len = ar nd.op)
    (hpre : WayPre nd U) (hint : nd.op = 12 → mayB (U 0) = true ∧ mayB (U 1) = true) (hU : ∀ i, i < nd.len.toNat → evF g W M m (V i).toNat = (U i, false)) {r : Int} (hr : wayT g W nd nd.len.toNat U = (r, true))
    (h : WayR most s nd V s' x) (he : s'.e = 0) (hx : ExP s'.n s'.N m M) : evF g W M m x.toNat = (r, false) := by
  have hk := hc.chk
  have al : ∀ {op : Int} {k : Nat}, nd.op = op → op ≠ 13 → ar op = k → nd.len.toNat = k := fun ho h13 hk => by
    have := har (by rw [ho]; exact h13)
    rw [this, ho, hk]; simp
  have hl0 := hst.len0
  have hg := (h.grow hk h0 hV har)
  have hx0 := hx.of hg.st
  cases h with
  | tru ho =>
    have : r = 1 := by simp [wayT, ho] at hr; exact hr.symm
    subst this
    exact ev_true hE.chk
  | neg ho s' x hp =>
    have hl := al ho (by decide) (k := 1) rfl
    have : r = 1 - U 0 := by simp [wayT, ho] at hr; exact hr.symm
    subst this
    exact hp.val hE (fun _ => hV 0 (by omega)) he hx (hU 0 (by omega))
  | kind ho s' x hp =>
    have hl : nd.len.toNat = 2 := by rcases ho with e | e; exact al e (by decide) rfl; exact al e (by decide) rfl
    rw [hl] at hp
    have := put_two hE (by omega) hp he hx (hU 0 (by omega)) (hU 1 (by omega))
    rw [this]
    rcases ho with e | e
    · have : r = bI (U 0 == 1 && U 1 == 1) := by simp [wayT, e] at hr; simp [hr]
      rw [this, e]; rfl
    · have : r = bI (U 0 == 1 || U 1 == 1) := by simp [wayT, e] at hr; simp [hr]
      rw [this, e]; rfl
  | xor ho s1 y hy s' x hp =>
    have hl := al ho (by decide) (k := 2) rfl
    rw [hl] at hy
    have g1 := hy.grow hk
    have g2 := hp.grow g1.st.chk (fun _ => ⟨g1.x0, g1.x1⟩)
    have he1 : s1.e = 0 := Classical.byContradiction fun hh => g2.st.bad hh he
    have v1 := put_two hE (.inr (.inr rfl)) hy he1 (hx.of g2.st) (hU 0 (by omega)) (hU 1 (by omega))
    have v2 := hp.val hE (fun _ => ⟨g1.x0, g1.x1⟩) he hx v1
    have : r = bI (U 0 != U 1) := by simp [wayT, ho] at hr; simp [hr]
    rw [v2, this]
    show (1 - bI (U 0 == U 1), false) = _
    by_cases e : U 0 = U 1
    · simp [e, bI]
    · have e1 : (U 0 == U 1) = false := by simpa using e
      have e2 : (U 0 != U 1) = true := by simpa using e
      rw [e1, e2]; rfl
  | imp ho s1 y hy s' x hp =>
    have hl := al ho (by decide) (k := 2) rfl
    have g1 := hy.grow hk (fun _ => hV 0 (by omega))
    have g2 := hp.grow g1.st.chk
    have he1 := (hp.fine he).1
    have v1 := hy.val hE (fun _ => hV 0 (by omega)) he1 (hx.of g2.st) (hU 0 (by omega))
    have v2 := put_two hE (.inr (.inl rfl)) hp he hx v1 (hU 1 (by omega))
    have : r = bI (!(U 0 == 1 && U 1 == 0)) := by simp [wayT, ho] at hr; simp [hr]
    rw [v2, this]
    obtain ⟨b0, b1⟩ := hpre.two (by omega)
    rcases b0 with e0 | e0 <;> rcases b1 with e1 | e1 <;> rw [e0, e1] <;> rfl
  | eq ho s' x hp =>
    have hl := al ho (by decide) (k := 2) rfl
    have : r = bI (U 0 == U 1) := by simp [wayT, ho] at hr; simp [hr]
    subst this
    exact hp.val hE hk he hx (hU 0 (by omega)) (hU 1 (by omega))
  | ite ho s' x hp =>
    have hl := al ho (by decide) (k := 3) rfl
    have : r = if U 0 = 1 then U 1 else U 2 := by simp [wayT, ho] at hr; exact hr.symm
    subst this
    exact hp.val hE hk he hx (hU 0 (by omega)) (hU 1 (by omega)) (hU 2 (by omega))
  | le ho s' x hp =>
    have hl := al ho (by decide) (k := 2) rfl
    have : r = bI (decide (U 0 ≤ U 1)) := by simp [wayT, ho] at hr; simp [hr]
    subst this
    rw [hp.val hE hk he hx (hU 0 (by omega)) (hU 1 (by omega))]
    exact bI_inj (decide_eq_decide.2 (by omega))
  | lt ho s' x hp =>
    have hl := al ho (by decide) (k := 2) rfl
    have : r = bI (decide (U 0 < U 1)) := by simp [wayT, ho] at hr; simp [hr]
    subst this
    rw [hp.val hE hk he hx (hU 0 (by omega)) (hU 1 (by omega))]
    exact bI_inj (decide_eq_decide.2 (by omega))
  | num ho k K x er hp =>
    obtain rfl := kept_ok he
    rw [keptS_ok] at hx
    have : r = nd.num := by simp [wayT, ho] at hr; exact hr.symm
    subst this
    have := hp.val hE rfl hx (u := 0) (ev_zero hE.chk) (by rw [Int.zero_add]; exact hst.num (.inl ho))
    rwa [Int.zero_add] at this
  | add ho k K x er hp =>
    obtain rfl := kept_ok he
    rw [keptS_ok] at hx
    have hl := al ho (by decide) (k := 1) rfl
    obtain ⟨ha, hv⟩ := way_add ho (V := U) (by rw [hr])
    rw [hr] at hv
    have hv : r = U 0 + nd.num := hv
    subst hv
    unfold addOk at ha
    simp only [Bool.and_eq_true] at ha
    exact hp.val hE rfl hx0 hx (hU 0 (by omega)) ha.2
  | diff ho s' x hp =>
    have hl := al ho (by decide) (k := 2) rfl
    have : r = bI (atMB (U 0) (U 1) nd.num) := by rw [way_diff ho] at hr; injection hr with hr _; exact hr.symm
    subst this
    rw [hp.val hE hk he hx (hU 0 (by omega)) (hU 1 (by omega)), atMB_may (hint ho).1 (hint ho).2 (hst.num (.inr (.inr ho)))]
  | app ho s' x hp =>
    obtain ⟨i, rfl, hi, hn⟩ := hp.at_ he
    have hle := hx.le
    have hn : M i = appNd nd V := (hx.eq i hi).trans hn
    have h3 := hst.len3
    have hlen : (M i).len = nd.len := by rw [hn]; rfl
    have hop : (M i).op = 13 := by rw [hn]; exact ho
    have hfn : (M i).fn = nd.fn := by rw [hn]; rfl
    have harg : ∀ j : Nat, (j : Int) < nd.len → (M i).arg j = V j := fun j hj => by
      have : j = 0 ∨ j = 1 ∨ j = 2 := by omega
      rw [hn]
      rcases this with rfl | rfl | rfl
      · show (if 0 < nd.len then V 0 else 0) = _; rw [if_pos (by omega)]
      · show (if 1 < nd.len then V 1 else 0) = _; rw [if_pos (by omega)]
      · show (if 2 < nd.len then V 2 else 0) = _; rw [if_pos (by omega)]
    have hw : wayT g W (M i) (M i).len.toNat (argV (evF g W M m) (M i)) = (r, true) := by
      have e1 : ∀ (e : Nd) (k : Nat) (Z : Nat → Int), e.op = 13 → wayT g W e k Z = ((valT g W e.fn k Z).1, true) := fun e k Z h => by simp [wayT, h]
      rw [e1 _ _ _ hop, hlen, hfn, ← hr, e1 _ _ _ ho]
      rw [valT_congr (V' := U) fun j hj => by unfold argV; rw [harg j (by omega), hU j hj]]
    rw [Int.toNat_natCast, ev_at hE.chk (by omega) (fun j hj => by rw [hlen] at hj; rw [harg j hj, hU j (by omega)]) (by rw [hw]), hw]
/-- The images so far are worth what their nodes are worth. -/
def KV (g : Sg) (W : Wd) (nt : Nat) (NT : Nat → Nd) (m : Nat) (M : Nat → Nd) (K : CK) : Prop := ∀ i x, K i = some x → (evF g W NT nt i).2 = false → evF g W M m x.toNat = evF g W NT nt i
theorem WalkP.val {nt : Nat} {NT : Nat → Nd} {most : Int} (hT : EvOk g W nt NT) (hE : EvOk g W m M) : ∀ (f id : Nat) (s s' : CSt × CK) (x : Int), id < f → id < nt → WInv nt NT s → KV g W nt NT m M s.2 →
    WalkP NT most f s id s' x → s'.1.e = 0 → ExP s'.1.n s'.1.N m M → KV g W nt NT m M s'.2 ∧ ((evF g W NT nt id).2 = false → evF g W M m x.toNat = evF g W NT nt id)
  | 0, id, _, _, _, h, _, _, _, _, _, _ => by omega
  | f + 1, id, s, s', x, hidf, hid, hI, hP, h, hfin, hxx => by
    have hc := hT.chk
    have hf := hT.fits
    have h2 := hI.inv.chk.two
    rcases h with ⟨hk, rfl⟩ | ⟨hk, he, rfl, rfl⟩ | ⟨hk, he, s1, V, hA, hend⟩
    · exact ⟨hP, hP id x hk⟩
    · exact absurd hfin he
    · have hst := hc.all id hid
      have args : ∀ (k : Nat) (t : CSt × CK), k ≤ (NT id).len.toNat → ArgsP (WalkP NT most f) (NT id) k s t V → t.1.e = 0 → ExP t.1.n t.1.N m M →
          WInv nt NT t ∧ ExtK s t ∧ (∀ i, i < k → 0 ≤ V i ∧ V i < t.1.n ∧ (t.1.e = 0 → (t.1.N (V i).toNat).sort = sortsN NT (NT id) i)) ∧ KV g W nt NT m M t.2 ∧ ∀ i, i < k → (evF g W NT nt ((NT id).arg i).toNat).2 = false → evF g W M m (V i).toNat = evF g W NT nt ((NT id).arg i).toNat := by
        intro k
        induction k with
        | zero =>
          intro t _ ht _ _
          have ht : t = s := ht
          subst ht
          exact ⟨hI, ExtK.refl _, fun i hi => absurd hi (Nat.not_lt_zero i), hP, fun i hi => absurd hi (Nat.not_lt_zero i)⟩
        | succ k ih =>
          rintro t hk ⟨u, hu, hw⟩ ht hxt
          have ha := hc.argB hid (k := k) (by omega)
          have hu0 : WInv nt NT u := by
            have : ∀ (k : Nat) (t : CSt × CK), k ≤ (NT id).len.toNat → ArgsP (WalkP NT most f) (NT id) k s t V → WInv nt NT t := by
              intro k
              induction k with
              | zero => intro t _ ht; have ht : t = s := ht; subst ht; exact hI
              | succ k ih =>
                rintro t hk ⟨u, hu, hw⟩
                have ha := hc.argB hid (k := k) (by omega)
                exact (WalkP.fin hc hf f ((NT id).arg k).toNat u t (V k) (by omega) (by omega) (ih u (by omega) hu) hw).inv
            exact this k u (by omega) hu
          have hE1 := WalkP.fin hc hf f ((NT id).arg k).toNat u t (V k) (by omega) (by omega) hu0 hw
          have hxu : ExP u.1.n u.1.N m M := ⟨Nat.le_trans hE1.ext.more hxt.le, fun i hi => (hxt.eq i (Nat.lt_of_lt_of_le hi hE1.ext.more)).trans (hE1.ext.old i hi)⟩
          obtain ⟨iu, eu, vu, pu, wu⟩ := ih u (by omega) hu (hE1.ext.ok ht) hxu
          obtain ⟨pt, wt⟩ := WalkP.val hT hE f ((NT id).arg k).toNat u t (V k) (by omega) (by omega) iu pu hw ht hxt
          refine ⟨hE1.inv, eu.trans hE1.ext, fun i hi => ?_, pt, fun i hi => ?_⟩
          · by_cases e : i = k
            · subst e
              exact ⟨hE1.x0, hE1.x1, fun h0 => hE1.so h0⟩
            · obtain ⟨v0, v1, v2⟩ := vu i (by omega)
              have hm := hE1.ext.more
              exact ⟨v0, by omega, fun h0 => by rw [hE1.ext.old _ (by omega)]; exact v2 (hE1.ext.ok h0)⟩
          · by_cases e : i = k
            · subst e; exact wt
            · exact wu i (by omega)
      rcases hend with ⟨hne, rfl, rfl⟩ | ⟨h0, m', hW, rfl⟩
      · exact absurd hfin hne
      · have hs1 : WInv nt NT s1 := by
          have : ∀ (k : Nat) (t : CSt × CK), k ≤ (NT id).len.toNat → ArgsP (WalkP NT most f) (NT id) k s t V → WInv nt NT t ∧ ∀ i, i < k → 0 ≤ V i ∧ V i < t.1.n := by
            intro k
            induction k with
            | zero => intro t _ ht; have ht : t = s := ht; subst ht; exact ⟨hI, fun i hi => absurd hi (Nat.not_lt_zero i)⟩
            | succ k ih =>
              rintro t hk ⟨u, hu, hw⟩
              have ha := hc.argB hid (k := k) (by omega)
              obtain ⟨iu, vu⟩ := ih u (by omega) hu
              have hE1 := WalkP.fin hc hf f ((NT id).arg k).toNat u t (V k) (by omega) (by omega) iu hw
              have hm := hE1.ext.more
              refine ⟨hE1.inv, fun i hi => ?_⟩
              by_cases e : i = k
              · subst e; exact ⟨hE1.x0, hE1.x1⟩
              · have := vu i (by omega); omega
          exact (this _ s1 (Nat.le_refl _) hA).1
        have hV0 : ∀ i, i < (NT id).len.toNat → 0 ≤ V i ∧ V i < s1.1.n := by
          have : ∀ (k : Nat) (t : CSt × CK), k ≤ (NT id).len.toNat → ArgsP (WalkP NT most f) (NT id) k s t V → WInv nt NT t ∧ ∀ i, i < k → 0 ≤ V i ∧ V i < t.1.n := by
            intro k
            induction k with
            | zero => intro t _ ht; have ht : t = s := ht; subst ht; exact ⟨hI, fun i hi => absurd hi (Nat.not_lt_zero i)⟩
            | succ k ih =>
              rintro t hk ⟨u, hu, hw⟩
              have ha := hc.argB hid (k := k) (by omega)
              obtain ⟨iu, vu⟩ := ih u (by omega) hu
              have hE1 := WalkP.fin hc hf f ((NT id).arg k).toNat u t (V k) (by omega) (by omega) iu hw
              have hm := hE1.ext.more
              refine ⟨hE1.inv, fun i hi => ?_⟩
              by_cases e : i = k
              · subst e; exact ⟨hE1.x0, hE1.x1⟩
              · have := vu i (by omega); omega
          exact (this _ s1 (Nat.le_refl _) hA).2
        obtain ⟨o, ho, ho14, hty⟩ := op_nat hst
        have g := hW.grow hs1.inv.chk h0 hV0 hty
        have hx1 : ExP s1.1.n s1.1.N m M := hxx.of g.st
        obtain ⟨i1, e1, v1, p1, w1⟩ := args _ s1 (Nat.le_refl _) hA h0 hx1
        have hres : (evF _ W NT nt id).2 = false → evF _ W M m x.toNat = evF _ W NT nt id := fun hov => by
          obtain ⟨hovA, hw2, hv⟩ := ev_back hc hid hov
          have hl0 := hst.len0
          have hpre := way_pre hT hid (V := argV (evF _ W NT nt) (NT id)) fun i hi => by
            have ha := hc.argB hid (k := i) hi
            exact ev_is hT (by omega)
          have hU : ∀ i, i < (NT id).len.toNat → evF _ W M m (V i).toNat = (argV (evF _ W NT nt) (NT id) i, false) := fun i hi => by
            rw [w1 i hi (hovA i (by omega))]
            exact Prod.ext rfl (hovA i (by omega))
          have := hW.val hE (i1.core h0) h0 hst hV0 hty hpre (fun h12 => by
            obtain ⟨_, _, _, m0, m1, _⟩ := diff_may hT hid h12
            exact ⟨m0, m1⟩) hU (r := (evF _ W NT nt id).1) (Prod.ext hv.symm hw2) hfin hxx
          rw [this]
          exact Prod.ext rfl hov.symm
        refine ⟨fun i y hy => ?_, hres⟩
        have hy : updK s1.2 id x i = some y := hy
        unfold updK at hy
        by_cases e : i = id
        · rw [if_pos e] at hy
          injection hy with hy
          subst hy; rw [e]
          exact hres
        · rw [if_neg e] at hy
          exact p1 i y hy
theorem RootsP.val {nt : Nat} {NT : Nat → Nd} {most : Int} {R : Nat → Int} (hT : EvOk g W nt NT) (hE : EvOk g W m M) {X : Nat → Int} : ∀ (k : Nat) (s : CSt × CK), (∀ i, i < k → 0 ≤ R i ∧ R i < nt) → RootsP (WalkP NT most nt) R k s012 s X → s.1.e = 0 → ExP s.1.n s.1.N m M →
    KV g W nt NT m M s.2 ∧ ∀ i, i < k → (evF g W NT nt (R i).toNat).2 = false → evF g W M m (X i).toNat = evF g W NT nt (R i).toNat
  | 0, s, _, h, _, _ => by
    have h : s = s012 := h
    subst h
    exact ⟨fun i x h => (by cases h), fun i hi => absurd hi (Nat.not_lt_zero i)⟩
  | k + 1, s, hR, ⟨u, hu, hw⟩, hs, hx => by
    obtain ⟨iu, _⟩ := RootsP.fin hT.chk hT.fits k u (fun i hi => hR i (by omega)) hu
    have hr := hR k (by omega)
    have hE1 := WalkP.fin hT.chk hT.fits nt (R k).toNat u s (X k) (by omega) (by omega) iu hw
    have hxu : ExP u.1.n u.1.N m M := ⟨Nat.le_trans hE1.ext.more hx.le, fun i hi => (hx.eq i (Nat.lt_of_lt_of_le hi hE1.ext.more)).trans (hE1.ext.old i hi)⟩
    obtain ⟨ku, vu⟩ := RootsP.val hT hE k u (fun i hi => hR i (by omega)) hu (hE1.ext.ok hs) hxu
    obtain ⟨ks, vs⟩ := WalkP.val hT hE nt (R k).toNat u s (X k) (by omega) (by omega) iu ku hw hs hx
    refine ⟨ks, fun i hi => ?_⟩
    by_cases e : i = k
    · subst e; exact vs
    · exact vu i (by omega)
end
/-- The law of CoreMeans: what comes is well sorted, and a root's image is worth what the root is worth. -/
theorem Of12.means {g : Sg} {W : Wd} {n : Nat} {N : Nat → Nd} {nr : Nat} {R : Nat → Int} {most : Int} {m : Nat} {M : Nat → Nd} {k : Nat} {X : Nat → Int} {er : Int} (h : Of12 n N nr R most m M k X er) (he : er = 0) (hT : EvOk g W n N) :
    EvOk g W m M ∧ ∀ i, i < nr → (evF g W N n (R i).toNat).2 = false → evF g W M m (X i).toNat = evF g W N n (R i).toNat := by
  cases h with
  | arg => exact absurd he (by decide)
  | sort => exact absurd he (by decide)
  | no _ _ _ s Y _ h => exact absurd he h
  | ok hc hr hf s X hw he' hs hX =>
    obtain ⟨hI, _⟩ := RootsP.fin hc hf _ s hr hw
    have hcore := hI.core he'
    have hao : PA g s.1 := RootsP.keep hc hf (P := PA g) (fun id s V m' x hS hP hW => hW.ao hP hS.ok (app_ok hT hS)) (AO.start g) nr s hr hw
    have hE : EvOk g W s.1.n s.1.N := by
      refine ⟨hT.may, hcore.chk, fun i hi => ?_⟩
      by_cases h13 : (s.1.N i).op = 13
      · exact hao he' i hi h13
      · have := fit_of (hcore.ok i hi).fit h13
        unfold okNd nodeT
        rw [if_neg h13, this]
        simp
    exact ⟨hE, (RootsP.val hT hE nr s hr hw he' ⟨Nat.le_refl _, fun _ _ => rfl⟩).2⟩
/-- The errors that come of a well sorted table. -/
theorem Of12.errs {g : Sg} {W : Wd} {n : Nat} {N : Nat → Nd} {nr : Nat} {R : Nat → Int} {most : Int} {m : Nat} {M : Nat → Nd} {k : Nat} {X : Nat → Int} {er : Int} (h : Of12 n N nr R most m M k X er) (hT : EvOk g W n N) : GoodE er := by
  cases h with
  | arg => exact .inr (.inl rfl)
  | sort _ _ hf => rw [hT.fits] at hf; cases hf
  | no hc hr hf s Y hw _ => exact RootsP.keep hc hf (P := fun s => GoodE s.e) (fun id s V m' x hS _ hW => hW.er (hS.inv.core hS.ok) hS.ok hS.ins hS.har hS.typ) (.inl rfl) nr s hr hw
  | ok => exact .inl rfl
end Go.Proofs.YtecmoahadckomaaGreat
