/- Plain: what core.Of makes: an own equality's places stand in order, and behind each choice stands what it needs. No program in sight. -/
import Derived.Test.YtecmoahadckomaaZMkTMkX
namespace Go.Proofs.Ytecmoahadckomaa
open Go.RowKit

def eqNd (a b : Int) : Nd := ⟨6, 2, a, b, 0, 0, 0, 0⟩
/-- What a difference put comes to is there. -/
def LeIn (n : Nat) (N : Nat → Nd) (a b c : Int) : Prop := ∃ x y d, DiffT n N a b c x y d 0 ∧ (x ≠ y → ∃ p, p < n ∧ N p = diffNd x y d) ∧ (x = y → d < 0 → ∃ p, p < n ∧ N p = notNd)
def SameIn (n : Nat) (N : Nat → Nd) (a b : Int) : Prop := a ≠ b → ∃ p, p < n ∧ N p = eqNd (min a b) (max a b)
def BehIn (n : Nat) (N : Nat → Nd) (so i x : Int) : Prop := (so = 1 → LeIn n N i x 0 ∧ LeIn n N x i 0) ∧ (so ≠ 0 → so ≠ 1 → SameIn n N i x)
def IteOk (n : Nat) (N : Nat → Nd) (p : Nat) : Prop := (N p).op = 7 → (N p).a1 ≠ (N p).a2 ∧ BehIn n N (N p).sort p (N p).a1 ∧ BehIn n N (N p).sort p (N p).a2
def OwnOk (N : Nat → Nd) (e : Nd) : Prop := e.op = 6 → (N e.a0.toNat).sort ≠ 0 → e.a0 < e.a1
structure MadeI (most E : Int) (n : Nat) (N : Nat → Nd) : Prop where
  few : (n : Int) ≤ max 2 most
  own : ∀ p, p < n → OwnOk N (N p)
  ite : ∀ p : Nat, p < n → (p : Int) ≠ E → IteOk n N p
section
variable {n m : Nat} {N M : Nat → Nd}
theorem OfT.more {id b k : Int} (h : OfT n N id b k 0) (hc' : CheckP m M) (hm : n ≤ m) (hM : ∀ i, i < n → M i = N i) : OfT m M id b k 0 := by
  obtain ⟨hc, i, b', rfl, hi, hs, rfl, ho⟩ := h.good rfl
  exact .ok hc' i (by omega) rfl (by rw [hM i hi]; exact hs) b' k (ho.congr hc hi hM)
theorem DiffT.more {a b c x y d : Int} (h : DiffT n N a b c x y d 0) (hc' : CheckP m M) (hm : n ≤ m) (hM : ∀ i, i < n → M i = N i) : DiffT m M a b c x y d 0 := by
  cases h with
  | e1 _ _ _ _ he => exact absurd rfl he
  | e2 _ _ _ _ _ _ _ he => exact absurd rfl he
  | ok x p h y q h' h1 h2 => exact .ok x p (h.more hc' hm hM) y q (h'.more hc' hm hM) h1 h2
theorem there_more {e : Nd} (h : ∃ p, p < n ∧ N p = e) (hm : n ≤ m) (hM : ∀ i, i < n → M i = N i) : ∃ p, p < m ∧ M p = e := by
  obtain ⟨p, hp, h⟩ := h
  exact ⟨p, by omega, (hM p hp).trans h⟩
theorem LeIn.more {a b c : Int} (h : LeIn n N a b c) (hc' : CheckP m M) (hm : n ≤ m) (hM : ∀ i, i < n → M i = N i) : LeIn m M a b c := by
  obtain ⟨x, y, d, h0, h1, h2⟩ := h
  exact ⟨x, y, d, h0.more hc' hm hM, fun e => there_more (h1 e) hm hM, fun e e' => there_more (h2 e e') hm hM⟩
theorem SameIn.more {a b : Int} (h : SameIn n N a b) (hm : n ≤ m) (hM : ∀ i, i < n → M i = N i) : SameIn m M a b := fun e => there_more (h e) hm hM
theorem BehIn.more {so i x : Int} (h : BehIn n N so i x) (hc' : CheckP m M) (hm : n ≤ m) (hM : ∀ i, i < n → M i = N i) : BehIn m M so i x :=
  ⟨fun e => ⟨(h.1 e).1.more hc' hm hM, (h.1 e).2.more hc' hm hM⟩, fun e e' => (h.2 e e').more hm hM⟩
theorem IteOk.more {p : Nat} (h : IteOk n N p) (hp : p < n) (hc' : CheckP m M) (hm : n ≤ m) (hM : ∀ i, i < n → M i = N i) : IteOk m M p := by
  unfold IteOk
  rw [hM p hp]
  exact fun e => ⟨(h e).1, (h e).2.1.more hc' hm hM, (h e).2.2.more hc' hm hM⟩
theorem OwnOk.more {e : Nd} {at_ : Int} (h : OwnOk N e) (hs : StandsP e at_) (ha : at_ ≤ n) (hn : 0 < n) (hM : ∀ i, i < n → M i = N i) : OwnOk M e := by
  intro o hh
  rw [show M e.a0.toNat = N e.a0.toNat from hM _ (arg_ltE hs ha hn 0)] at hh
  exact h o hh
theorem MadeI.any {most : Int} (h : MadeI most (-1) n N) (E : Int) : MadeI most E n N := ⟨h.few, h.own, fun p hp _ => h.ite p hp (by omega)⟩
theorem MadeI.close {most E : Int} (h : MadeI most E n N) (hE : ∀ p : Nat, p < n → (p : Int) = E → IteOk n N p) : MadeI most (-1) n N :=
  ⟨h.few, h.own, fun p hp _ => by
    by_cases e : (p : Int) = E
    · exact hE p hp e
    · exact h.ite p hp e⟩
theorem MadeI.put {most E : Int} {e : Nd} {x : Int} (h : MadeI most E n N) (hp : PutR n N e most m M x 0) (h6 : OwnOk N e) (h7 : e.op ≠ 7 ∨ E = x) : MadeI most E m M := by
  obtain ⟨hc, hs, ⟨i, hi, hie, rfl, rfl, rfl⟩ | ⟨hne, hm, rfl, rfl, rfl⟩⟩ := hp.ok
  · exact h
  · have h2 := hc.two
    have hc' := hc.ext hs hne
    have hM : ∀ i, i < n → extN N n e i = N i := fun i hi => extN_lt hi
    refine ⟨by omega, fun p hp => ?_, fun p hp hE => ?_⟩
    · by_cases hpn : p < n
      · rw [hM p hpn]
        exact (h.own p hpn).more (hc.all p hpn) (by omega) (by omega) hM
      · obtain rfl : p = n := by omega
        rw [extN_at]
        exact h6.more hs (Int.le_refl _) (by omega) hM
    · by_cases hpn : p < n
      · exact (h.ite p hpn hE).more hpn hc' (by omega) hM
      · obtain rfl : p = n := by omega
        intro o
        rw [extN_at] at o
        exact absurd h7 (by rintro (h | h); exact h o; exact hE h.symm)
theorem LeT.made {most E : Int} {a b c x : Int} {is : Bool} (h : MadeI most E n N) (hl : LeT n N a b c most m M x is 0) : MadeI most E m M ∧ LeIn m M a b c := by
  cases hl with
  | err _ _ _ _ _ he => exact absurd rfl he
  | tru x d hd h0 => exact ⟨h, x, x, d, hd, fun e => absurd rfl e, fun _ e => by omega⟩
  | fls x d hd h0 m M id er hp =>
    obtain ⟨j, rfl, hj, hje, hc', hm, hM, _⟩ := hp.good
    exact ⟨h.put hp (fun o => absurd o (by decide)) (.inl (by decide)), x, x, d, hd.more hc' hm.1 hM, fun e => absurd rfl e, fun _ _ => ⟨j, hj, hje⟩⟩
  | diff x y d hd hxy m M id er hp =>
    obtain ⟨j, rfl, hj, hje, hc', hm, hM, _⟩ := hp.good
    exact ⟨h.put hp (fun o => absurd o (by show ¬ ((12 : Int) = 6); decide)) (.inl (by show (12 : Int) ≠ 7; decide)), x, y, d, hd.more hc' hm.1 hM, fun _ => ⟨j, hj, hje⟩, fun e => absurd e hxy⟩
end
section
variable {most E : Int} {s s' : CSt} {x : Int}
theorem kept_ok {s : CSt} {m : Nat} {M : Nat → Nd} {er : Int} (he : (keptS s m M er).e = 0) : er = 0 := by
  by_cases h0 : er = 0
  · exact h0
  · rw [keptS_no h0] at he; exact absurd he h0
theorem NodeR.made {nd : Nd} (h : MadeI most E s.n s.N) (hr : NodeR most s nd s' x) (h6 : OwnOk s.N nd) (h7 : nd.op ≠ 7 ∨ E = x) (he : s'.e = 0) :
    MadeI most E s'.n s'.N ∧ ∃ i : Nat, x = i ∧ i < s'.n ∧ s'.N i = nd := by
  cases hr with
  | err hh => exact absurd he hh
  | put hh m M x er hp =>
    obtain rfl := kept_ok he
    rw [keptS_ok]
    obtain ⟨j, hj0, hj, hje, _⟩ := hp.good
    exact ⟨h.put hp h6 h7, j, hj0, hj, hje⟩
theorem PutOpR.made {op : Int} {k : Nat} {A : Nat → Int} (h : MadeI most E s.n s.N) (hr : PutOpR most s op k A s' x) (h6 : ∀ so, OwnOk s.N (opNd op k A so)) (h7 : op ≠ 7 ∨ E = x) (he : s'.e = 0) :
    MadeI most E s'.n s'.N ∧ ∃ i : Nat, x = i ∧ i < s'.n ∧ s'.N i = opNd op k A (opT op k (sortsA s A)).1 := by
  cases hr with
  | err hh => exact absurd he hh
  | sort hh hs => exact absurd (show (33 : Int) = 0 from he) (by decide)
  | put hh hs s' x hp => exact hp.made h (h6 _) h7 he
theorem own_no {N : Nat → Nd} {op : Int} {k : Nat} {A : Nat → Int} (h : op ≠ 6) (so : Int) : OwnOk N (opNd op k A so) := fun o => absurd o h
theorem DiffMR.made {a b c : Int} (h : MadeI most E s.n s.N) (hr : DiffMR most s a b c s' x) (he : s'.e = 0) : MadeI most E s'.n s'.N ∧ LeIn s'.n s'.N a b c := by
  cases hr with
  | err hh => exact absurd he hh
  | put hh m M x is er hp =>
    obtain rfl := kept_ok he
    rw [keptS_ok]
    exact hp.made h
theorem NotMR.made {a : Int} (h : MadeI most E s.n s.N) (hr : NotMR most s a s' x) (he : s'.e = 0) : MadeI most E s'.n s'.N := by
  cases hr with
  | back => exact h
  | put hh s' x hp => exact (hp.made h (own_no (by decide)) (.inl (by decide)) he).1
theorem SameMR.made {a b : Int} (h : MadeI most E s.n s.N) (hr : SameMR most s a b s' x) (he : s'.e = 0) : MadeI most E s'.n s'.N ∧ SameIn s'.n s'.N a b := by
  cases hr with
  | one hab => exact ⟨h, fun e => absurd hab e⟩
  | put hab s' x hp =>
    obtain ⟨_, ht⟩ := hp.fine he
    have hso := (opT_fst ht (by decide)).1
    obtain ⟨h1, i, _, hi, hie⟩ := hp.made h (fun so _ _ => by show min a b < max a b; omega) (.inl (by decide)) he
    refine ⟨h1, fun _ => ⟨i, hi, ?_⟩⟩
    rw [hie, hso]; rfl
theorem EqualMR.made {a b : Int} (hc : CheckP s.n s.N) (h : MadeI most E s.n s.N) (hr : EqualMR most s a b s' x) (he : s'.e = 0) : MadeI most E s'.n s'.N := by
  cases hr with
  | err hh => exact absurd he hh
  | sort hh hs => exact absurd (show (33 : Int) = 0 from he) (by decide)
  | bool hh hs h0 s' x hp => exact (hp.made h (fun so _ hs => absurd h0 hs) (.inl (by decide)) he).1
  | own hh hs h0 h1 s' x hp => exact (hp.made h he).1
  | int hh hs h1 s1 x hx s2 y hy s' z hp =>
    have g1 := hx.grow hc
    have g2 := hy.grow g1.st.chk
    have he2 := (hp.fine he).1
    have he1 : s1.e = 0 := Classical.byContradiction fun hh => g2.st.bad hh he2
    have m1 := (hx.made h he1).1
    have m2 := (hy.made m1 he2).1
    exact (hp.made m2 (own_no (by decide)) (.inl (by decide)) he).1
theorem BehindR.made {so i y : Int} (hc : CheckP s.n s.N) (h : MadeI most E s.n s.N) (hr : BehindR most so s i y s') (he : s'.e = 0) : MadeI most E s'.n s'.N ∧ BehIn s'.n s'.N so i y := by
  cases hr with
  | bool h0 => exact ⟨h, fun e => absurd (e.symm.trans h0) (by decide), fun e => absurd h0 e⟩
  | int h1 s1 y1 hy s2 z hz =>
    have g1 := hy.grow hc
    have g2 := hz.grow g1.st.chk
    have he1 : s1.e = 0 := Classical.byContradiction fun hh => g2.st.bad hh he
    obtain ⟨m1, l1⟩ := hy.made h he1
    obtain ⟨m2, l2⟩ := hz.made m1 he
    exact ⟨m2, fun _ => ⟨l1.more g2.st.chk g2.st.more g2.st.old, l2⟩, fun _ e => absurd h1 e⟩
  | own h0 h1 s' z hz =>
    obtain ⟨m1, l1⟩ := hz.made h he
    exact ⟨m1, fun e => absurd e h1, fun _ _ => l1⟩
theorem IteMR.made {a b c : Int} (hc : CheckP s.n s.N) (h : MadeI most (-1) s.n s.N) (hr : IteMR most s a b c s' x) (he : s'.e = 0) : MadeI most (-1) s'.n s'.N := by
  cases hr with
  | err hh => exact absurd he hh
  | sort hh hs => exact absurd (show (33 : Int) = 0 from he) (by decide)
  | one => exact h
  | put hh hs hbc s1 i hi s2 h2 s3 h3 =>
    have g1 := hi.grow hc
    have g2 := h2.grow g1.st.chk
    have g3 := h3.grow g2.chk
    have he2 : s2.e = 0 := Classical.byContradiction fun hh => g3.bad hh he
    have he1 : s1.e = 0 := Classical.byContradiction fun hh => g2.bad hh he2
    obtain ⟨_, ht⟩ := hi.fine he1
    obtain ⟨_, _, _, hF1⟩ := opT_ite (m := 3) (F := sortsA s (pk3' a b c)) (s := (opT 7 3 (sortsA s (pk3' a b c))).1) (Prod.ext rfl ht)
    have hF1 : (opT 7 3 (sortsA s (pk3' a b c))).1 = (s.N b.toNat).sort := hF1
    obtain ⟨m1, j, rfl, hj, hje⟩ := hi.made (h.any x) (own_no (by decide)) (.inr rfl) he1
    obtain ⟨m2, b2⟩ := h2.made g1.st.chk m1 he2
    obtain ⟨m3, b3⟩ := h3.made g2.chk m2 he
    have hj2 : j < s2.n := Nat.lt_of_lt_of_le hj g2.more
    have hn3 : s'.N j = opNd 7 3 (pk3' a b c) (s.N b.toNat).sort := by rw [g3.old j hj2, g2.old j hj, hje, hF1]
    refine m3.close fun p hp hpe => ?_
    obtain rfl : p = j := by omega
    intro _
    rw [hn3]
    exact ⟨hbc, b2.more g3.chk g3.more g3.old, b3⟩
end
theorem OPutR.made {n : Nat} {N : Nat → Nd} {most : Int} (h : MadeI most (-1) n N) {base k : Int} {m : Nat} {M : Nat → Nd} {x er : Int} (hr : OPutR n N base k most m M x er) (he : er = 0) : MadeI most (-1) m M := by
  cases hr with
  | of _ _ _ _ hn => exact absurd he hn
  | own => exact absurd he (by decide)
  | over => exact absurd he (by decide)
  | zero _ _ _ _ _ _ _ _ hp => subst he; exact h.put hp (fun o => absurd o (by show ¬ ((10 : Int) = 6); decide)) (.inl (by show (10 : Int) ≠ 7; decide))
  | same => exact h
  | add _ _ _ _ _ _ _ _ _ hp => subst he; exact h.put hp (fun o => absurd o (by show ¬ ((11 : Int) = 6); decide)) (.inl (by show (11 : Int) ≠ 7; decide))
theorem OAddR.made {n : Nat} {N : Nat → Nd} {most : Int} (h : MadeI most (-1) n N) {id k : Int} {m : Nat} {M : Nat → Nd} {x er : Int} (hr : OAddR n N id k most m M x er) (he : er = 0) : MadeI most (-1) m M := by
  cases hr with
  | of _ _ _ _ hn => exact absurd he hn
  | over => exact absurd he (by decide)
  | put _ _ _ _ _ _ _ _ hp => exact hp.made h he
theorem WayR.made {most : Int} {s s' : CSt} {x : Int} {nd : Nd} {V : Nat → Int} (hc : CheckP s.n s.N) (h : MadeI most (-1) s.n s.N) (har : nd.op ≠ 13 → nd.len = ar nd.op) (ht : nd.op ≠ 13 → opT nd.op nd.len.toNat (sortsA s V) = (nd.sort, 0)) (hr : WayR most s nd V s' x) (he : s'.e = 0) : MadeI most (-1) s'.n s'.N := by
  have al : ∀ {op : Int} {k : Nat}, nd.op = op → op ≠ 13 → ar op = k → nd.len.toNat = k := fun ho h13 hk => by
    have := har (by rw [ho]; exact h13)
    rw [this, ho, hk]; simp
  cases hr with
  | tru => exact h
  | neg _ _ _ hp => exact hp.made h he
  | kind ho _ _ hp => exact (hp.made h (own_no (by omega)) (.inl (by omega)) he).1
  | xor ho s1 y hy _ _ hp =>
    have hl := al ho (by decide) (k := 2) rfl
    have g1 := hy.grow hc
    have he1 : s1.e = 0 := Classical.byContradiction fun hh => (hp.grow g1.st.chk (fun _ => ⟨g1.x0, g1.x1⟩)).st.bad hh he
    have ht := ht (by rw [ho]; decide)
    rw [ho] at ht
    have hA := (opT_ok ht (by decide)).2.2 (by decide) 0 (by omega)
    rw [hl] at hy
    exact hp.made (hy.made h (fun so _ hs => absurd hA hs) (.inl (by decide)) he1).1 he
  | imp ho s1 y hy _ _ hp =>
    have hl := al ho (by decide) (k := 2) rfl
    have he1 := (hp.fine he).1
    exact (hp.made (hy.made h he1) (own_no (by decide)) (.inl (by decide)) he).1
  | eq _ _ _ hp => exact hp.made hc h he
  | ite _ _ _ hp => exact hp.made hc h he
  | le _ _ _ hp => exact (hp.made h he).1
  | lt _ _ _ hp => exact (hp.made h he).1
  | num _ _ _ _ _ hp =>
    have e0 := kept_ok he
    subst e0
    rw [keptS_ok]
    exact hp.made h rfl
  | add _ _ _ _ _ hp =>
    have e0 := kept_ok he
    subst e0
    rw [keptS_ok]
    exact hp.made h rfl
  | diff _ _ _ hp => exact (hp.made h he).1
  | app ho _ _ hp => exact (hp.made h (fun o => absurd (show nd.op = 6 from o) (by omega)) (.inl (by show nd.op ≠ 7; omega)) he).1
theorem WalkP.made {nt : Nat} {NT : Nat → Nd} {most : Int} (hc : CheckP nt NT) (hf : fitsB nt NT = true) : ∀ (f id : Nat) (s s' : CSt × CK) (x : Int), id < f → id < nt → WInv nt NT s → (s.1.e = 0 → MadeI most (-1) s.1.n s.1.N) →
    WalkP NT most f s id s' x → s'.1.e = 0 → MadeI most (-1) s'.1.n s'.1.N
  | 0, id, _, _, _, h, _, _, _, _ => by omega
  | f + 1, id, s, s', x, hidf, hid, hI, hM, h => by
    have h2 := hI.inv.chk.two
    rcases h with ⟨hk, rfl⟩ | ⟨hk, he, rfl, rfl⟩ | ⟨hk, he, s1, V, hA, hend⟩
    · exact hM
    · exact hM
    · have hst := hc.all id hid
      have args : ∀ (k : Nat) (t : CSt × CK), k ≤ (NT id).len.toNat → ArgsP (WalkP NT most f) (NT id) k s t V →
          WInv nt NT t ∧ ExtK s t ∧ (∀ i, i < k → 0 ≤ V i ∧ V i < t.1.n ∧ (t.1.e = 0 → (t.1.N (V i).toNat).sort = sortsN NT (NT id) i)) ∧ (t.1.e = 0 → MadeI most (-1) t.1.n t.1.N) := by
        intro k
        induction k with
        | zero =>
          intro t _ ht
          have ht : t = s := ht
          subst ht
          exact ⟨hI, ExtK.refl _, fun i hi => absurd hi (Nat.not_lt_zero i), hM⟩
        | succ k ih =>
          rintro t hk ⟨u, hu, hw⟩
          obtain ⟨iu, eu, vu, mu⟩ := ih u (by omega) hu
          have ha := hc.argB hid (k := k) (by omega)
          have hE := WalkP.fin hc hf f ((NT id).arg k).toNat u t (V k) (by omega) (by omega) iu hw
          refine ⟨hE.inv, eu.trans hE.ext, fun i hi => ?_, WalkP.made hc hf f ((NT id).arg k).toNat u t (V k) (by omega) (by omega) iu mu hw⟩
          by_cases e : i = k
          · subst e
            exact ⟨hE.x0, hE.x1, fun h0 => hE.so h0⟩
          · obtain ⟨v0, v1, v2⟩ := vu i (by omega)
            have hm := hE.ext.more
            exact ⟨v0, by omega, fun h0 => by rw [hE.ext.old _ (by omega)]; exact v2 (hE.ext.ok h0)⟩
      obtain ⟨i1, e1, v1, m1⟩ := args _ s1 (Nat.le_refl _) hA
      rcases hend with ⟨hne, rfl, rfl⟩ | ⟨h0, m', hW, rfl⟩
      · exact m1
      · obtain ⟨o, ho, ho14, hty⟩ := op_nat hst
        have hfit : fitN NT (NT id) = true := (upTo_iff _ _).1 hf id hid
        have ht : (NT id).op ≠ 13 → opT (NT id).op (NT id).len.toNat (sortsA s1.1 V) = ((NT id).sort, 0) := fun h13 => by
          rw [← fit_of hfit h13]
          exact opT_congr fun i hi => (v1 i hi).2.2 h0
        intro he
        exact hW.made i1.inv.chk (m1 h0) hty ht he
theorem RootsP.made {nt : Nat} {NT : Nat → Nd} {most : Int} {R : Nat → Int} (hc : CheckP nt NT) (hf : fitsB nt NT = true) {X : Nat → Int} : ∀ (k : Nat) (s : CSt × CK), (∀ i, i < k → 0 ≤ R i ∧ R i < nt) → RootsP (WalkP NT most nt) R k s012 s X →
    s.1.e = 0 → MadeI most (-1) s.1.n s.1.N
  | 0, s, _, h => by
    have h : s = s012 := h
    subst h
    intro _
    refine ⟨by show ((2 : Nat) : Int) ≤ max 2 most; omega, fun p hp o => ?_, fun p hp _ o => ?_⟩
    · have h := (show ∀ p, p < 2 → (newN p).op ≠ 6 by decide) p hp
      exact absurd o h
    · have h := (show ∀ p, p < 2 → (newN p).op ≠ 7 by decide) p hp
      exact absurd o h
  | k + 1, s, hR, ⟨u, hu, hw⟩ => by
    obtain ⟨iu, _⟩ := RootsP.fin hc hf k u (fun i hi => hR i (by omega)) hu
    have hr := hR k (by omega)
    exact WalkP.made hc hf nt (R k).toNat u s (X k) (by omega) (by omega) iu (RootsP.made hc hf k u (fun i hi => hR i (by omega)) hu) hw
theorem Of12.madeI {n : Nat} {N : Nat → Nd} {m : Nat} {R : Nat → Int} {most : Int} {m' : Nat} {M : Nat → Nd} {k : Nat} {X : Nat → Int} {er : Int} (h : Of12 n N m R most m' M k X er) (he : er = 0) : MadeI most (-1) m' M := by
  cases h with
  | arg => exact absurd he (by decide)
  | sort => exact absurd he (by decide)
  | no _ _ _ s Y _ h => exact absurd he h
  | ok hc hr hf s X hw he' hs hX => exact RootsP.made hc hf _ s hr hw he'
end Go.Proofs.Ytecmoahadckomaa

namespace Go.Proofs.Ytecmoahadckomaa
open Go.RowKit

theorem eq_sorts {F : Nat → Int} {s : Int} (h : opT 6 2 F = (s, 0)) : F 1 = F 0 := by
  by_cases hal : alikeB 2 F = true
  · exact alike_iff.1 hal 1 (by omega)
  · have hal : alikeB 2 F = false := by simpa using hal
    exfalso
    have k6 : tyK 6 = true := by decide
    have n6 : tyN 6 = 2 := by decide
    unfold opT tailT at h
    rw [hal] at h
    simp [k6, n6] at h
structure AlikeN (e f : Nd) : Prop where
  op : e.op = f.op
  len : e.len = f.len
  sort : e.sort = f.sort
  fn : e.fn = f.fn
  num : e.num = f.num
def ArgsS (ps : Nat → Nat) (e f : Nd) : Prop := ∀ k : Nat, k < 3 → (k : Int) < e.len → ((ps (e.arg k).toNat : Nat) : Int) = f.arg k
def ArgsX (N : Nat → Nd) (ps : Nat → Nat) (e f : Nd) : Prop := f.op = 6 ∧ (N f.a0.toNat).sort ≠ 0 ∧ ((ps e.a0.toNat : Nat) : Int) = f.a1 ∧ ((ps e.a1.toNat : Nat) : Int) = f.a0
def CopyP (N : Nat → Nd) (ps : Nat → Nat) (e f : Nd) : Prop := AlikeN e f ∧ (ArgsS ps e f ∨ ArgsX N ps e f)
theorem ndExt {e f : Nd} (h : AlikeN e f) (a : ∀ k : Nat, k < 3 → e.arg k = f.arg k) : e = f := by
  obtain ⟨h1, h2, h3, h4, h5⟩ := h
  have a0 := a 0 (by omega)
  have a1 := a 1 (by omega)
  have a2 := a 2 (by omega)
  cases e; cases f
  simp only [Nd.arg] at *
  subst h1 h2 h3 h4 h5 a0 a1 a2
  rfl
theorem StandsP.zero {e : Nd} {at_ : Int} (h : StandsP e at_) {k : Nat} (hk : k < 3) (hl : e.len ≤ (k : Int)) : e.arg k = 0 := by
  have : k = 0 ∨ k = 1 ∨ k = 2 := by omega
  rcases this with rfl | rfl | rfl
  · exact h.arg0.2 hl
  · exact h.arg1.2 hl
  · exact h.arg2.2 hl
theorem StandsP.eqLen {e : Nd} {at_ : Int} (h : StandsP e at_) (ho : e.op = 6) : e.len = 2 := by
  rw [h.len (by rw [ho]; decide), ho]; decide
theorem eqFit {N : Nat → Nd} {f : Nd} {at_ : Int} (hs : StandsP f at_) (hf : fitN N f = true) (ho : f.op = 6) : (N f.a1.toNat).sort = (N f.a0.toNat).sort := by
  have h := fit_of hf (by rw [ho]; decide)
  rw [ho, hs.eqLen ho] at h
  exact eq_sorts h
section
variable {N : Nat → Nd} {ps : Nat → Nat}
theorem CopyP.uni_c {e f f' : Nd} {t t' : Int} (h : CopyP N ps e f) (h' : CopyP N ps e f') (hs : StandsP f t) (hs' : StandsP f' t') (ho : OwnOk N f) (ho' : OwnOk N f') (hf : fitN N f = true) (hf' : fitN N f' = true) : f = f' := by
  obtain ⟨al, ar⟩ := h
  obtain ⟨al', ar'⟩ := h'
  have hal : AlikeN f f' := ⟨al.op.symm.trans al'.op, al.len.symm.trans al'.len, al.sort.symm.trans al'.sort, al.fn.symm.trans al'.fn, al.num.symm.trans al'.num⟩
  refine ndExt hal fun k hk => ?_
  by_cases hkl : (k : Int) < e.len
  case neg => rw [hs.zero hk (by rw [← al.len]; omega), hs'.zero hk (by rw [← al'.len]; omega)]
  rcases ar with a | ⟨x1, x2, x3, x4⟩
  · rcases ar' with b | ⟨y1, y2, y3, y4⟩
    · exact (a k hk hkl).symm.trans (b k hk hkl)
    · exfalso
      have hop : f.op = 6 := hal.op.trans y1
      have hl := hs.eqLen hop
      have e0 : ((ps e.a0.toNat : Nat) : Int) = f.a0 := a 0 (by omega) (by rw [al.len, hl]; decide)
      have e1 : ((ps e.a1.toNat : Nat) : Int) = f.a1 := a 1 (by omega) (by rw [al.len, hl]; decide)
      have o' := ho' y1 y2
      have fs := eqFit hs' hf' y1
      have o := ho hop (by rw [← e0, y3, fs]; exact y2)
      omega
  · rcases ar' with b | ⟨y1, y2, y3, y4⟩
    · exfalso
      have hop : f'.op = 6 := hal.op.symm.trans x1
      have hl := hs'.eqLen hop
      have e0 : ((ps e.a0.toNat : Nat) : Int) = f'.a0 := b 0 (by omega) (by rw [al'.len, hl]; decide)
      have e1 : ((ps e.a1.toNat : Nat) : Int) = f'.a1 := b 1 (by omega) (by rw [al'.len, hl]; decide)
      have o := ho x1 x2
      have fs := eqFit hs hf x1
      have o' := ho' hop (by rw [← e0, x3, fs]; exact x2)
      omega
    · have hl := hs.eqLen x1
      rw [al.len, hl] at hkl
      have : k = 0 ∨ k = 1 := by omega
      rcases this with rfl | rfl
      · exact x4.symm.trans y4
      · exact x3.symm.trans y3
/-- Copies of one node are one, where the copies' places go back to one place alone. -/
theorem CopyP.uni_d {D : Nat → Nd} {e e' f : Nd} {t t' tf : Int} (h : CopyP N ps e f) (h' : CopyP N ps e' f) (hs : StandsP e t) (hs' : StandsP e' t') (hsf : StandsP f tf) (ho : OwnOk D e) (ho' : OwnOk D e') (hf : fitN N f = true)
    (hso : ∀ k : Nat, k < 2 → (D (e.arg k).toNat).sort = (N (ps (e.arg k).toNat)).sort) (hso' : ∀ k : Nat, k < 2 → (D (e'.arg k).toNat).sort = (N (ps (e'.arg k).toNat)).sort)
    (inj : ∀ k l : Nat, k < 3 → l < 3 → (k : Int) < e.len → (l : Int) < e'.len → ps (e.arg k).toNat = ps (e'.arg l).toNat → (e.arg k).toNat = (e'.arg l).toNat) : e = e' := by
  obtain ⟨al, ar⟩ := h
  obtain ⟨al', ar'⟩ := h'
  have hal : AlikeN e e' := ⟨al.op.trans al'.op.symm, al.len.trans al'.len.symm, al.sort.trans al'.sort.symm, al.fn.trans al'.fn.symm, al.num.trans al'.num.symm⟩
  have nn : ∀ {e : Nd} {t : Int}, StandsP e t → ∀ k : Nat, k < 3 → (k : Int) < e.len → 0 ≤ e.arg k := fun {e t} hs k hk hl => by
    have : k = 0 ∨ k = 1 ∨ k = 2 := by omega
    rcases this with rfl | rfl | rfl
    · exact (hs.arg0.1 hl).1
    · exact (hs.arg1.1 hl).1
    · exact (hs.arg2.1 hl).1
  refine ndExt hal fun k hk => ?_
  by_cases hkl : (k : Int) < e.len
  case neg => rw [hs.zero hk (by omega), hs'.zero hk (by rw [← hal.len]; omega)]
  have hkl' : (k : Int) < e'.len := by rw [← hal.len]; exact hkl
  have p := nn hs k hk hkl
  have p' := nn hs' k hk hkl'
  have same : ps (e.arg k).toNat = ps (e'.arg k).toNat → e.arg k = e'.arg k := fun h => by
    have := inj k k hk hk hkl hkl' h
    omega
  have cross : ∀ {e e' : Nd} {t t' : Int}, AlikeN e f → AlikeN e' f → StandsP e t → StandsP e' t' → OwnOk D e → OwnOk D e' → (∀ k : Nat, k < 2 → (D (e.arg k).toNat).sort = (N (ps (e.arg k).toNat)).sort) → (∀ k : Nat, k < 2 → (D (e'.arg k).toNat).sort = (N (ps (e'.arg k).toNat)).sort) →
      (∀ k l : Nat, k < 3 → l < 3 → (k : Int) < e.len → (l : Int) < e'.len → ps (e.arg k).toNat = ps (e'.arg l).toNat → (e.arg k).toNat = (e'.arg l).toNat) → ArgsS ps e f → ArgsX N ps e' f → False := fun {e e' t t'} al al' hs hs' ho ho' hso hso' inj a ⟨y1, y2, y3, y4⟩ => by
    have hl : e.len = 2 := hs.eqLen (al.op.trans y1)
    have hl' : e'.len = 2 := hs'.eqLen (al'.op.trans y1)
    have e0 : ((ps e.a0.toNat : Nat) : Int) = f.a0 := a 0 (by omega) (by rw [hl]; decide)
    have e1 : ((ps e.a1.toNat : Nat) : Int) = f.a1 := a 1 (by omega) (by rw [hl]; decide)
    have i1 : e.a0.toNat = e'.a1.toNat := inj 0 1 (by omega) (by omega) (by rw [hl]; decide) (by rw [hl']; decide) (by show ps e.a0.toNat = ps e'.a1.toNat; omega)
    have i2 : e.a1.toNat = e'.a0.toNat := inj 1 0 (by omega) (by omega) (by rw [hl]; decide) (by rw [hl']; decide) (by show ps e.a1.toNat = ps e'.a0.toNat; omega)
    have n0 : 0 ≤ e.a0 := nn hs 0 (by omega) (by rw [hl]; decide)
    have n1 : 0 ≤ e.a1 := nn hs 1 (by omega) (by rw [hl]; decide)
    have n2 : 0 ≤ e'.a0 := nn hs' 0 (by omega) (by rw [hl']; decide)
    have n3 : 0 ≤ e'.a1 := nn hs' 1 (by omega) (by rw [hl']; decide)
    have fs := eqFit hsf hf y1
    have s0 : (D e.a0.toNat).sort = (N (ps e.a0.toNat)).sort := hso 0 (by omega)
    have s0' : (D e'.a0.toNat).sort = (N (ps e'.a0.toNat)).sort := hso' 0 (by omega)
    have q0 : ps e.a0.toNat = f.a0.toNat := by omega
    have q1 : ps e'.a0.toNat = f.a1.toNat := by omega
    have o := ho (al.op.trans y1) (by rw [s0, q0]; exact y2)
    have o' := ho' (al'.op.trans y1) (by rw [s0', q1, fs]; exact y2)
    omega
  rcases ar with a | a
  · rcases ar' with b | b
    · exact same (by have := a k hk hkl; have := b k hk hkl'; omega)
    · exact (cross al al' hs hs' ho ho' hso hso' inj a b).elim
  · rcases ar' with b | b
    · exact (cross al' al hs' hs ho' ho hso' hso (fun k l hk hl h h' e => (inj l k hl hk h' h e.symm).symm) b a).elim
    · obtain ⟨x1, x2, x3, x4⟩ := a
      obtain ⟨y1, y2, y3, y4⟩ := b
      have hl := hs.eqLen (al.op.trans x1)
      rw [hl] at hkl
      have : k = 0 ∨ k = 1 := by omega
      rcases this with rfl | rfl
      · exact same (by show ps e.a0.toNat = ps e'.a0.toNat; omega)
      · exact same (by show ps e.a1.toNat = ps e'.a1.toNat; omega)
end
theorem inj_le : ∀ (n m : Nat) (f : Nat → Nat), (∀ j, j < m → f j < n) → (∀ i j, i < m → j < m → f i = f j → i = j) → m ≤ n
  | 0, m, f, h, _ => by
    rcases Nat.eq_zero_or_pos m with e | e
    · omega
    · exact absurd (h 0 e) (Nat.not_lt_zero _)
  | n + 1, 0, _, _, _ => Nat.zero_le _
  | n + 1, m + 1, f, h, hi => by
    have := inj_le n m (fun j => if f j = n then f m else f j) (fun j hj => by
      show (if f j = n then f m else f j) < n
      have h1 := h j (by omega)
      have h2 := h m (by omega)
      split
      · have : f m ≠ n := fun e => by have := hi j m (by omega) (by omega) (by omega); omega
        omega
      · omega) (fun i j hi' hj' e => by
      have e : (if f i = n then f m else f i) = (if f j = n then f m else f j) := e
      split at e <;> split at e
      · exact hi i j (by omega) (by omega) (by omega)
      · have := hi m j (by omega) (by omega) e; omega
      · have := hi i m (by omega) (by omega) e; omega
      · exact hi i j (by omega) (by omega) e)
    omega
end Go.Proofs.Ytecmoahadckomaa
