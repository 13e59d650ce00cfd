/- gantryref12.walk: where the work lies; what is left to say behind an error. -/
import Derived.Test.YtecmoahadckomaaZR12HR12I
import Derived.Test.YtecmoahadckomaaZR12J
import Derived.Deep.RegionLawGrows
namespace Go.Proofs.Ytecmoahadckomaa
open Go.RowKit Go.Maps
set_option maxRecDepth 100000

/-- A number appended in a region that draws, into a row of one's own all of whose cells are numbers. -/
theorem step_appI {ops : Array Oper} {o : Oper} {a : Act} {w : World} {K : Act → World → Prop} {Q : Exit → Act → World → Prop} {E : Prop} (hgd : o.guard = none) (s x : Operand)
    (ho : o.op = .call { callee := .builtin .append, args := #[s, x], argTypes := #[25, 25] }) (base : Nat) (v : Value) (xs : List Int) (hs : a.eval s = v) (hown : OwnI w base v xs) (G c : Nat) (hx : a.eval x = .slice (some ⟨G, 0, none⟩) 1 c) (y : Int)
    (hG : w.cell? ⟨G, 0, none⟩ = some (.int .i64 y)) (hlen : xs.length ≤ 1000000) (hb : base ≤ w.heap.size)
    (h : ∀ v' w', OwnI w' base v' (xs ++ [y]) → w.grownBy w' v.ownBlock → K (a.put o.dst v') w') : if Region.wanted o (yielded ops a.tmps) = true then Oper.wp Try.prog o a w K Q else E := by
  rw [if_pos (by simp [Region.wanted, hgd])]
  obtain ⟨v', w', hrun, h1, h2⟩ := run_appI w base v xs hown G c y hG hlen hb o.type
  unfold Oper.wp
  simp [execOp, ho, resolve, invoke, builtin, hs, hx, hrun, Result.andThen]
  exact h v' w' h1 h2
/-- The images so far, as numbers: -1 where there is none yet. -/
structure ImgAt (w : World) (ib nt : Nat) (K : CK) : Prop where
  lt : ib < w.heap.size
  at_ : ∀ i, i < nt → w.cell? ⟨ib, i, none⟩ = some (.int .i64 ((K i).getD (-1)))
  fz : ∀ i, w.frozen? ⟨ib, i, none⟩ = false
  num : ∀ k u, w.cell? ⟨ib, k, none⟩ = some u → ∃ y, u = .int .i64 y
/-- The work at block g: the table so far, the images. -/
structure WkS (w : World) (g ib ic nt : Nat) (s : CSt × CK) : Prop where
  lt : g < w.heap.size
  ne : g ≠ ib
  tab : ∃ A c, w.cell? ⟨g, 0, none⟩ = some (.slice A s.1.n c) ∧ NdsAt w (.slice A s.1.n c) s.1.n s.1.N
  c1 : w.cell? ⟨g, 1, none⟩ = some (.slice (some ⟨ib, 0, none⟩) nt ic)
  fz : ∀ i, w.frozen? ⟨g, i, none⟩ = false
  img : ImgAt w ib nt s.2
section
variable {w w' : World} {g ib ic nt : Nat} {s : CSt × CK} {K : CK}
theorem ImgAt.block (h : ImgAt w ib nt K) (hb : w'.heap[ib]? = w.heap[ib]?) (hz : w.heap.size ≤ w'.heap.size) : ImgAt w' ib nt K := by
  have hc : ∀ i, w'.cell? ⟨ib, i, none⟩ = w.cell? ⟨ib, i, none⟩ := fun i => World.cell?_of_block (w := w) (a := ⟨ib, i, none⟩) hb
  exact ⟨Nat.lt_of_lt_of_le h.lt hz, fun i hi => (hc i).trans (h.at_ i hi), fun i => by
    have := h.fz i
    simp only [World.frozen?] at this ⊢
    rw [hb]; exact this, fun k u hu => h.num k u ((hc k).symm.trans hu)⟩
theorem WkS.below (h : WkS w g ib ic nt s) (hb : Below w.heap.size w w') : WkS w' g ib ic nt s := by
  obtain ⟨A, c, h0, hN⟩ := h.tab
  exact ⟨Nat.lt_of_lt_of_le h.lt hb.size, h.ne, ⟨A, c, (hb.cell (p := ⟨g, 0, none⟩) h.lt).trans h0, hN.below hb⟩, (hb.cell (p := ⟨g, 1, none⟩) h.lt).trans h.c1, fun i => (hb.frozen (p := ⟨g, i, none⟩) h.lt).trans (h.fz i), h.img.block (hb.block _ h.img.lt) hb.size⟩
theorem WkS.grown {base : Nat} {v : Value} {xs : List Int} (h : WkS w g ib ic nt s) (hg : w.grownBy w' v.ownBlock) (hown : OwnI w base v xs) (hgb : g < base) (hib : ib < base) : WkS w' g ib ic nt s := by
  have hge : ∀ b, v.ownBlock = some b → base ≤ b := fun b hb => by
    rcases hown.1.2 with ⟨rfl, _⟩ | ⟨g', cap, cur, rfl, hbg, _⟩
    · cases hb
    · have hb : some g' = some b := hb
      injection hb with hb
      subst hb; exact hbg
  have kb : ∀ b, b < base → b < w.heap.size → w'.heap[b]? = w.heap[b]? := fun b h1 h2 => hg.block b h2 (fun e => by have := hge b e.symm; omega)
  have bg := kb g hgb h.lt
  have bi := kb ib hib h.img.lt
  obtain ⟨A, c, h0, hN⟩ := h.tab
  refine ⟨Nat.lt_of_lt_of_le h.lt hg.size, h.ne, ⟨A, c, (World.cell?_of_block (w := w) (a := ⟨g, 0, none⟩) bg).trans h0, ?_⟩, (World.cell?_of_block (w := w) (a := ⟨g, 1, none⟩) bg).trans h.c1, fun i => ?_, h.img.block bi hg.size⟩
  · have hN' := hN
    obtain ⟨A', c', e, hn, hr, hc⟩ := hN
    injection e with e1 _ e3
    subst e1; subst e3
    refine ⟨A, c, rfl, hn, hr, fun hp => ?_⟩
    obtain ⟨b, o, rfl, hlt, hc⟩ := hc hp
    have hne := hown.ne hN' hp
    exact ⟨b, o, rfl, by have := hg.size; omega, fun i hi => (hc i hi).keep fun j => World.cell?_of_block (w := w) (hg.block b hlt (fun e => hne e.symm))⟩
  · have := h.fz i
    simp only [World.frozen?] at this ⊢
    rw [bg]; exact this
theorem NdsAt.setNum {v : Value} {n : Nat} {N : Nat → Nd} (h : NdsAt w v n N) {b' : Nat} (hnum : ∀ k u, w.cell? ⟨b', k, none⟩ = some u → ∃ y, u = .int .i64 y) (j : Nat) (u : Value) : NdsAt (w.setCell ⟨b', j, none⟩ u) v n N := by
  obtain ⟨A, c, rfl, hn, hr, hc⟩ := h
  refine ⟨A, c, rfl, hn, hr, fun h0 => ?_⟩
  obtain ⟨b, o, rfl, hb, hc⟩ := hc h0
  have hne : b' ≠ b := by
    rintro rfl
    obtain ⟨y, hy⟩ := hnum _ _ (hc 0 h0).1
    cases hy
  exact ⟨b, o, rfl, by simpa using hb, fun i hi => (hc i hi).keep fun j => World.cell?_setCell_far _ _ _ _ hne⟩
/-- The table kept. -/
theorem WkS.tab' (h : WkS w g ib ic nt s) {s' : CSt} {A : Option Addr} {c : Nat} (hN : NdsAt w (.slice A s'.n c) s'.n s'.N) : WkS (w.setCell ⟨g, 0, none⟩ (.slice A s'.n c)) g ib ic nt (s', s.2) := by
  obtain ⟨A0, c0, h0, _⟩ := h.tab
  have hi : ∀ k, (w.setCell ⟨g, 0, none⟩ (.slice A s'.n c)).cell? ⟨ib, k, none⟩ = w.cell? ⟨ib, k, none⟩ := fun k => World.cell?_setCell_far _ _ _ _ h.ne
  exact ⟨by simpa using h.lt, h.ne, ⟨A, c, World.cell?_setCell_same' _ _ _ (by rw [h0]; rfl), hN.setBox h0 (fun _ _ h => by cases h) _⟩, (World.cell?_setCell_other _ _ _ _ (fun e => by injection e with _ e; cases e)).trans h.c1, fun i => by rw [World.frozen?_setCell]; exact h.fz i,
    by simpa using h.img.lt, fun i hl => (hi i).trans (h.img.at_ i hl), fun i => by rw [World.frozen?_setCell]; exact h.img.fz i, fun k u hu => h.img.num k u ((hi k).symm.trans hu)⟩
/-- An image kept. -/
theorem WkS.img' (h : WkS w g ib ic nt s) {id : Nat} (hid : id < nt) (x : Int) : WkS (w.setCell ⟨ib, id, none⟩ (.int .i64 x)) g ib ic nt (s.1, updK s.2 id x) := by
  obtain ⟨A0, c0, h0, hN⟩ := h.tab
  have hg : ∀ k, (w.setCell ⟨ib, id, none⟩ (.int .i64 x)).cell? ⟨g, k, none⟩ = w.cell? ⟨g, k, none⟩ := fun k => World.cell?_setCell_far _ _ _ _ (fun e => h.ne e.symm)
  have same : (w.setCell ⟨ib, id, none⟩ (.int .i64 x)).cell? ⟨ib, id, none⟩ = some (.int .i64 x) := World.cell?_setCell_same' _ _ _ (by rw [h.img.at_ id hid]; rfl)
  have other : ∀ k, k ≠ id → (w.setCell ⟨ib, id, none⟩ (.int .i64 x)).cell? ⟨ib, k, none⟩ = w.cell? ⟨ib, k, none⟩ := fun k hk => World.cell?_setCell_other _ _ _ _ (fun e => hk (by injection e with _ e; exact e.symm))
  refine ⟨by simpa using h.lt, h.ne, ⟨A0, c0, (hg 0).trans h0, hN.setNum h.img.num _ _⟩, (hg 1).trans h.c1, fun i => by rw [World.frozen?_setCell]; exact h.fz i, by simpa using h.img.lt, fun i hl => ?_, fun i => by rw [World.frozen?_setCell]; exact h.img.fz i, fun k u hu => ?_⟩
  · show _ = some (Value.int .i64 ((updK s.2 id x i).getD (-1)))
    by_cases e : i = id
    · subst e
      rw [same]
      unfold updK; rw [if_pos rfl]; rfl
    · rw [other i e, h.img.at_ i hl]
      unfold updK; rw [if_neg e]
  · by_cases e : k = id
    · subst e
      rw [same] at hu
      injection hu with hu
      exact ⟨x, hu.symm⟩
    · exact h.img.num k u ((other k e).symm.trans hu)
end
theorem OwnI.own_ne {w : World} {base : Nat} {v : Value} {xs : List Int} (h : OwnI w base v xs) {k : Nat} (hk : k < base) : some k ≠ v.ownBlock := by
  rcases h.1.2 with ⟨rfl, _⟩ | ⟨g', cap, cur, rfl, hbg, _⟩
  · intro e; cases e
  · intro e
    have e : some k = some g' := e
    injection e with e
    omega
/-- Where the table lies that is walked over. -/
structure TbH (w : World) (tb to_ nt : Nat) (NT : Nat → Nd) (g ib : Nat) : Prop where
  lt : tb < w.heap.size
  ng : tb ≠ g
  ni : tb ≠ ib
  nd : ∀ i, i < nt → NdIn w tb (to_ + i * 8) (NT i)
section
variable {w w' : World} {tb to_ nt g ib B : Nat} {NT : Nat → Nd}
theorem TbH.but (h : TbH w tb to_ nt NT g ib) (hb : But [g, ib] B w w') (hB : w.heap.size ≤ B) : TbH w' tb to_ nt NT g ib := by
  have hlt := h.lt
  have hm : tb ∉ [g, ib] := fun hx => by
    rcases List.mem_cons.1 hx with hx | hx
    · exact h.ng hx
    · exact h.ni (List.mem_singleton.1 hx)
  exact ⟨Nat.lt_of_lt_of_le h.lt hb.size, h.ng, h.ni, fun i hi => (h.nd i hi).keep fun j => hb.cell (p := ⟨tb, j, none⟩) (by show tb < B; omega) hm⟩
end
section
variable {NT : Nat → Nd} {most : Int} {f : Nat} {e : Nd}
theorem WalkP.idle {s : CSt × CK} (he : s.1.e ≠ 0) (id : Nat) : ∃ x, WalkP NT most (f + 1) s id s x := by
  cases h : s.2 id with
  | some y => exact ⟨y, .inl ⟨h, rfl⟩⟩
  | none => exact ⟨0, .inr (.inl ⟨h, he, rfl, rfl⟩)⟩
theorem ArgsP.rest {s s2 : CSt × CK} (he : s2.1.e ≠ 0) {k : Nat} {V : Nat → Int} (h : ArgsP (WalkP NT most (f + 1)) e k s s2 V) : ∀ r, ∃ V', ArgsP (WalkP NT most (f + 1)) e (k + r) s s2 V'
  | 0 => ⟨V, h⟩
  | r + 1 => by
    obtain ⟨V', h'⟩ := ArgsP.rest he h r
    obtain ⟨x, hx⟩ := WalkP.idle (NT := NT) (most := most) (f := f) he (e.arg (k + r)).toNat
    exact ⟨_, h'.more hx⟩
theorem RootsP.rest {R : Nat → Int} {s s2 : CSt × CK} (he : s2.1.e ≠ 0) {k : Nat} {V : Nat → Int} (h : RootsP (WalkP NT most (f + 1)) R k s s2 V) : ∀ r, ∃ V', RootsP (WalkP NT most (f + 1)) R (k + r) s s2 V'
  | 0 => ⟨V, h⟩
  | r + 1 => by
    obtain ⟨V', h'⟩ := RootsP.rest he h r
    obtain ⟨x, hx⟩ := WalkP.idle (NT := NT) (most := most) (f := f) he (R (k + r)).toNat
    exact ⟨_, h'.more hx⟩
end
/-- What the walk hands back and leaves. -/
def Walk12Post (NT : Nat → Nd) (most : Int) (g ib ic nt f : Nat) (s : CSt × CK) (id : Nat) (w : World) (z : Ending) (w' : World) : Prop :=
  ∃ s' x, z = .returned (.int .i64 s'.1.e) ∧ WalkP NT most f s id s' x ∧ InvK nt s' ∧ (s.1.n ≤ s'.1.n ∧ 0 ≤ x ∧ x < s'.1.n) ∧ (s'.1.e = 0 → WkS w' g ib ic nt s' ∧ s'.2 id = some x) ∧ (∀ i, id < i → s'.2 i = s.2 i) ∧ But [g, ib] w.heap.size w w'
/-- What holds between one argument and the next. -/
def WlI (NT : Nat → Nd) (most : Int) (g ib ic nt f : Nat) (s : CSt × CK) (id : Nat) (tv : Value) (w : World) (z : Value) (j : Nat) (wr : World) : Prop :=
  ∃ s1 V, ArgsP (WalkP NT most f) (NT id) j s s1 V ∧ s1.1.e = 0 ∧ WkS wr g ib ic nt s1 ∧ InvK nt s1 ∧ (s.1.n ≤ s1.1.n ∧ ∀ i, i < j → 0 ≤ V i ∧ V i < s1.1.n) ∧ (∀ i, id ≤ i → s1.2 i = s.2 i) ∧
    But [g, ib] w.heap.size w wr ∧ wr.rowIs (w.heap.size + 1) 39 8 (ndF (NT id)) ∧ wr.cell? ⟨w.heap.size, 0, none⟩ = some tv ∧ OwnI wr (w.heap.size + 2) z ((List.range j).map V)
end Go.Proofs.Ytecmoahadckomaa

namespace Go.Proofs.Ytecmoahadckomaa
open Go.RowKit Go.Maps
set_option maxRecDepth 1000000
set_option maxHeartbeats 32000000 in
theorem Walk12_any (NT : Nat → Nd) (most : Int) (g ib ic tb to_ tc nt : Nat) (hc : CheckP nt NT) (hnt : nt ≤ 3000) (hR : ∀ i, i < nt → NdR (NT i)) (hm : R64 most) : ∀ (f id : Nat), id < f → id < nt → ∀ (w : World) (s : CSt × CK), s.1.e = 0 →
    TbH w tb to_ nt NT g ib → WkS w g ib ic nt s → InvK nt s →
    Calls Try.prog 25 #[.pointer (some ⟨g, 0, none⟩), .agg #[.slice (some ⟨tb, to_, none⟩) nt tc], .int .i64 id, .int .i64 most] w (Walk12Post NT most g ib ic nt f s id w) := by
  intro f
  induction f with
  | zero => intro id h; omega
  | succ f ih =>
  intro id hf hid w s he hT hW hI
  have hT' := Lib.hid hT
  have hW' := Lib.hid hW
  have hI' := Lib.hid hI
  have hc' := Lib.hid hc
  have he' := Lib.hid he
  have hb1 := Lib.hid ((Below.refl w.heap.size w).alloc (Nat.le_refl _) (.cells #[.slice (some ⟨tb, to_, none⟩) nt tc] 24))
  have k1 : (w.alloc (.cells #[.slice (some ⟨tb, to_, none⟩) nt tc] 24)).cell? ⟨w.heap.size, 0, none⟩ = some (.slice (some ⟨tb, to_, none⟩) nt tc) := by simp
  have s1 : (w.alloc (.cells #[.slice (some ⟨tb, to_, none⟩) nt tc] 24)).heap.size = w.heap.size + 1 := by simp
  have hidn : (id : Int) < (nt : Int) := by omega
  have hid0 : (0 : Int) ≤ (id : Int) := by omega
  clear hT hW hI he
  go_enter Try.func25, Try.ntmps25
  go_upto_region 1 with fail
  generalize hw1 : w.alloc (.cells #[.slice (some ⟨tb, to_, none⟩) nt tc] 24) = w1 at *
  clear hw1
  have hW1 := Lib.hid (hW'.out.below hb1.out)
  have c1 := hW1.out.c1
  have ci := hW1.out.img.at_ id hid
  cases hki : s.2 id with
  | some y =>
    rw [hki] at ci
    have hy := hI'.out.ins id y hki
    have hw : Hid (WalkP NT most (f + 1) s id s y) := .inl ⟨hki, rfl⟩
    have hk' := Lib.hid hki
    have d : decide (0 ≤ y) = true := decide_eq_true hy.1
    dsimp only [Option.getD] at ci
    clear hki ih s1
    go_wp2_with fail
    go_ret
    exact ⟨s, y, by rw [he'.out]; rfl, hw.out, hI'.out, ⟨Nat.le_refl _, hy.1, hy.2⟩, fun _ => ⟨hW1.out, hk'.out⟩, fun _ _ => rfl, But.of hb1.out _⟩
  | none =>
  rw [hki] at ci
  dsimp only [Option.getD] at ci
  have hki' := Lib.hid hki
  have hst := hc.all id hid
  have hl0 := hst.len0
  have hl3 := hst.len3
  obtain ⟨m, hlm⟩ : ∃ m : Nat, (NT id).len = m := ⟨(NT id).len.toNat, by omega⟩
  obtain ⟨n0, n1, n2, n3, n4, n5, n6, n7⟩ := (hT'.out.nd id hid).keep (w' := w1) (fun j => hb1.out.cell (p := ⟨tb, j, none⟩) hT'.out.lt)
  rw [hlm] at n1
  have hal : Try.prog.arrayLen 37 = 3 := by kernel_rfl
  have hm0 : (0 : Int) ≤ (m : Int) := by omega
  have hm3 : m ≤ 3 := by omega
  have hlm' := Lib.hid hlm
  have hrow := World.rowIs_alloc w1 #[.int .i8 (NT id).op, .int .i8 m, .int .i64 (NT id).a0, .int .i64 (NT id).a1, .int .i64 (NT id).a2, .int .i64 (NT id).sort, .int .i64 (NT id).fn, .int .i64 (NT id).num] 39 (ndF (NT id)) (fun i hi => by
    have hi : i < 8 := hi
    rw [← hlm'.out]
    obtain rfl | rfl | rfl | rfl | rfl | rfl | rfl | rfl : i = 0 ∨ i = 1 ∨ i = 2 ∨ i = 3 ∨ i = 4 ∨ i = 5 ∨ i = 6 ∨ i = 7 := by omega
    all_goals rfl)
  rw [s1] at hrow
  have hb2 := Lib.hid ((Below.refl w1.heap.size w1).alloc (Nat.le_refl _) (.cells #[.int .i8 (NT id).op, .int .i8 m, .int .i64 (NT id).a0, .int .i64 (NT id).a1, .int .i64 (NT id).a2, .int .i64 (NT id).sort, .int .i64 (NT id).fn, .int .i64 (NT id).num] 39))
  have hI0 : Hid (WlI NT most g ib ic nt f s id (.slice (some ⟨tb, to_, none⟩) nt tc) w (.slice none 0 0) 0 (w1.alloc (.cells #[.int .i8 (NT id).op, .int .i8 m, .int .i64 (NT id).a0, .int .i64 (NT id).a1, .int .i64 (NT id).a2, .int .i64 (NT id).sort, .int .i64 (NT id).fn, .int .i64 (NT id).num] 39))) :=
    ⟨s, fun _ => 0, rfl, he'.out, hW1.out.below hb2.out, hI'.out, ⟨Nat.le_refl _, fun i hi => absurd hi (Nat.not_lt_zero i)⟩, fun _ _ => rfl, But.of (hb1.out.trans (hb2.out.mono (by omega))) _, hrow, (hb2.out.cell (p := ⟨w.heap.size, 0, none⟩) (by show w.heap.size < _; omega)).trans k1, OwnI.nil _ _⟩
  have hgi : Hid (g < w.heap.size ∧ ib < w.heap.size) := ⟨hW'.out.lt, hW'.out.img.lt⟩
  have hs1 := Lib.hid s1
  clear hki hlm hst hl0 hl3 hrow hb1 hb2
  go_wp2_with fail
  clear n0 n1 n2 n3 n4 n5 n6 n7 c1 ci k1 hW1 s1
  go_loopw [10, 11, 12] (fun z i e12 wr => ∃ j : Nat, j ≤ m ∧ i = .int .i64 j ∧ Hid (WlI NT most g ib ic nt f s id (.slice (some ⟨tb, to_, none⟩) nt tc) w z j wr)) (fun _ i _ _ => m - (intOf i).toNat)
  case atStart => exact ⟨0, Nat.zero_le _, rfl, hI0.out⟩
  case round =>
  clear hI0 hs1
  obtain ⟨j, hj, rfl, hIj⟩ := hrel
  obtain ⟨s1, V, hA1, he1, hW1, hV1, ⟨hmo1, hVi1⟩, hkp1, hB1, hr1, hk1, hO1⟩ := hIj.out
  have hA1' := Lib.hid hA1
  have he1' := Lib.hid he1
  have hW1' := Lib.hid hW1
  have hV1' := Lib.hid hV1
  have hVi1' := Lib.hid hVi1
  have hmo1' := Lib.hid hmo1
  have hkp1' := Lib.hid hkp1
  have hB1' := Lib.hid hB1
  have hr1' := Lib.hid hr1
  have hk1' := Lib.hid hk1
  have hO1' := Lib.hid hO1
  have hT1 := Lib.hid (hT'.out.but hB1 (Nat.le_refl _))
  have nm : Hid (∀ p : Nat, w.heap.size ≤ p → p ∉ [g, ib]) := fun p h1 h => by
    have := hgi.out
    rcases List.mem_cons.1 h with h | h
    · omega
    · have := List.mem_singleton.1 h; omega
  have p1 := hr1.cell (i := 1) (by omega)
  have p1' : wr.cell? ⟨w.heap.size + 1, 1, none⟩ = some (.int .i8 m) := by rw [p1]; show some (Value.int .i8 (NT id).len) = _; rw [hlm'.out]
  have hwm : IntKind.i64.wrap (m : Int) = (m : Int) := by rw [IntKind.wrap_i64]; omega
  have hlow : Hid (w.heap.size + 1 < wr.heap.size) := hr1.lt
  clear hIj hA1 he1 hW1 hV1 hVi1 hmo1 hkp1 hB1 hr1 hk1 hO1 p1
  by_cases hlt : j < m
  · have i1 : decide ((j : Int) < (m : Int)) = true := decide_eq_true (by omega)
    have pa := hr1'.out.cell (i := 2 + j) (by omega)
    rw [ndF_arg _ (by omega)] at pa
    have hab := hc'.out.argB hid (k := j) (by rw [hlm'.out]; omega)
    obtain ⟨a, haa⟩ : ∃ a : Nat, (NT id).arg j = a := ⟨((NT id).arg j).toNat, by omega⟩
    rw [haa] at pa
    have hatn : Hid (((NT id).arg j).toNat = a) := by unfold Hid; omega
    have hal2 : Hid (a < id) := by unfold Hid; omega
    have hd : Below wr.heap.size wr wr.drew := (Below.refl _ _).drew
    have hBd := Lib.hid (But.of hd [g, ib])
    have hih := Lib.hid (ih a (by have := hal2.out; omega) (by have := hal2.out; omega) wr.drew s1 he1'.out (hT1.out.but (But.of hd [g, ib]) (Nat.le_refl _)) (hW1'.out.below hd) hV1'.out)
    have hj0 : (0 : Int) ≤ (j : Int) := by omega
    have hj3 : (j : Int) < 3 := by omega
    have hjm : (j : Int) < (m : Int) := by omega
    have hpa := Lib.hid pa
    have hSd : wr.drew.cell? ⟨w.heap.size, 0, none⟩ = some (.slice (some ⟨tb, to_, none⟩) nt tc) ∧ wr.drew.cell? ⟨w.heap.size + 1, 2 + j, none⟩ = some (.int .i64 (a : Int)) := ⟨hk1'.out, pa⟩
    have hKp : ∀ {x : World}, But [g, ib] wr.heap.size wr x → (x.cell? ⟨w.heap.size, 0, none⟩ = some (.slice (some ⟨tb, to_, none⟩) nt tc) ∧ x.cell? ⟨w.heap.size + 1, 2 + j, none⟩ = some (.int .i64 (a : Int))) := fun {x} hb =>
      ⟨(hb.cell (p := ⟨w.heap.size, 0, none⟩) (by have := hlow.out; show w.heap.size < _; omega) (nm.out _ (Nat.le_refl _))).trans hk1'.out, (hb.cell (p := ⟨w.heap.size + 1, 2 + j, none⟩) hlow.out (nm.out _ (by show w.heap.size ≤ w.heap.size + 1; omega))).trans hpa.out⟩
    clear hab haa pa hd ih
    go_wp2_with fail
    go_region_held3 (fun x => x.cell? ⟨w.heap.size, 0, none⟩ = some (.slice (some ⟨tb, to_, none⟩) nt tc) ∧ x.cell? ⟨w.heap.size + 1, 2 + j, none⟩ = some (.int .i64 (a : Int)))
      (first | exact hSd | exact hKp hB4 | fail)
      (first | (go_at_call 25; (with_reducible refine hih.out.mono ?_); rintro e w4 ⟨s2, x, rfl, hWk, hV2, ⟨hmo2, x0, x1⟩, hok2, hkp2, hB4⟩; replace hB4 := hBd.out.next hB4 hBd.out.size; have hWk' := Lib.hid hWk; have hV2' := Lib.hid hV2; have hx2 := Lib.hid (And.intro x0 x1); have hmo2' := Lib.hid hmo2; have hok2' := Lib.hid hok2; have hkp2' := Lib.hid hkp2; clear hWk hV2 hmo2 x0 x1 hok2 hkp2) | fail)
    have hB4' := Lib.hid hB4
    obtain ⟨k4, a4⟩ := hKp hB4
    clear hKp hSd hih hpa p1' hB4 hBd
    have hA2 := Lib.hid (hA1'.out.more (by rw [hatn.out]; exact hWk'.out))
    have hkp4 : Hid (∀ i, id ≤ i → s2.2 i = s.2 i) := fun i hi => (hkp2'.out i (by have := hal2.out; omega)).trans (hkp1'.out i hi)
    by_cases h2 : s2.1.e = 0
    case neg =>
      have d2 : (s2.1.e != 0) = true := by simpa using h2
      have hfin : Hid (∃ x, WalkP NT most (f + 1) s id s2 x ∧ 0 ≤ x ∧ x < s2.1.n) := by
        obtain ⟨f', rfl⟩ : ∃ f', f = f' + 1 := ⟨f - 1, by have := hal2.out; omega⟩
        obtain ⟨V', hV'⟩ := ArgsP.rest h2 hA2.out (m - (j + 1))
        have h2n := hV2'.out.chk.two
        refine ⟨0, .inr (.inr ⟨hki'.out, he'.out, s2, V', ?_, .inl ⟨h2, rfl, rfl⟩⟩), Int.le_refl _, by omega⟩
        rw [show (NT id).len.toNat = j + 1 + (m - (j + 1)) by have := hlm'.out; omega]
        exact hV'
      have hBf := Lib.hid (hB1'.out.next hB4'.out (by have := hlow.out; omega))
      have h2' := Lib.hid h2
      clear h2 k4 a4
      go_wp2_with fail
      go_ret
      obtain ⟨x', hx', y0, y1⟩ := hfin.out
      exact ⟨s2, x', rfl, hx', hV2'.out, ⟨by have := hmo1'.out; have := hmo2'.out; omega, y0, y1⟩, fun e => absurd e h2'.out, fun i hi => hkp4.out i (by omega), hBf.out⟩
    have d2 : (s2.1.e != 0) = false := by rw [h2]; rfl
    obtain ⟨hW4, hs4⟩ := hok2'.out h2
    have hW4' := Lib.hid hW4
    have g1 := hW4.c1
    have ia := hW4.img.at_ a (by have := hal2.out; omega)
    rw [hs4] at ia
    dsimp only [Option.getD] at ia
    have h2' := Lib.hid h2
    have ha0 : (0 : Int) ≤ (a : Int) := by omega
    have han : (a : Int) < (nt : Int) := by have := hal2.out; omega
    have hlow4 : Hid (w.heap.size + 1 < w4.heap.size) := by have := hlow.out; have := hB4'.out.size; unfold Hid; omega
    have hbA := Lib.hid (((Below.refl w4.heap.size w4).alloc (Nat.le_refl _) (.cells #[.int .i64 x] 3)).drew)
    have hO4 := Lib.hid (hO1'.out.but hB4'.out (fun y hy => by
      have := hgi.out
      rcases List.mem_cons.1 hy with hy | hy
      · omega
      · have := List.mem_singleton.1 hy; omega))
    have hOA := Lib.hid (hO4.out.but (But.of hbA.out []) (fun y hy => by cases hy))
    have hWA := Lib.hid (hW4.below hbA.out)
    have hBA := Lib.hid ((hB1'.out.next hB4'.out (by have := hlow.out; omega)).next (But.of hbA.out [g, ib]) (by have := hlow4.out; omega))
    have hrA := Lib.hid (((hr1'.out.of_block (hB4'.out.block _ hlow.out (nm.out _ (by omega)))).of_block (hbA.out.block _ hlow4.out)))
    have hkA : Hid ((w4.alloc (.cells #[.int .i64 x] 3)).drew.cell? ⟨w.heap.size, 0, none⟩ = some (.slice (some ⟨tb, to_, none⟩) nt tc)) := (hbA.out.cell (p := ⟨w.heap.size, 0, none⟩) (by have := hlow4.out; show w.heap.size < _; omega)).trans k4
    have hGA : Hid ((w4.alloc (.cells #[.int .i64 x] 3)).drew.cell? ⟨w4.heap.size, 0, none⟩ = some (.int .i64 x)) := by
      show (w4.alloc (.cells #[.int .i64 x] 3)).cell? ⟨w4.heap.size, 0, none⟩ = _; simp
    have hlen : Hid (((List.range j).map V).length ≤ 1000000) := by unfold Hid; simp; omega
    have hzA : Hid (w.heap.size + 2 ≤ (w4.alloc (.cells #[.int .i64 x] 3)).drew.heap.size) := by
      have := hlow4.out
      show _ ≤ (w4.alloc _).heap.size; simp; omega
    have hVi2 : Hid (∀ i, i < j + 1 → 0 ≤ (if i = j then x else V i) ∧ (if i = j then x else V i) < s2.1.n) := fun i hi => by
      by_cases e : i = j
      · rw [if_pos e]; exact hx2.out
      · rw [if_neg e]
        have := hVi1'.out i (by omega)
        have := hmo2'.out
        omega
    clear h2 hW4 hs4 k4
    go_wp2_with fail
    go_region_law (refine step_appI rfl (.tmp 47) (.tmp 58) rfl (w.heap.size + 2) _ ((List.range j).map V) rfl hOA.out w4.heap.size 1 rfl x hGA.out hlen.out hzA.out ?_; intro v' w7 hO7 hg7; have hI7 : Hid (WlI NT most g ib ic nt f s id (.slice (some ⟨tb, to_, none⟩) nt tc) w v' (j + 1) w7) := ⟨s2, fun i => if i = j then x else V i, hA2.out, h2'.out, hWA.out.grown hg7 hOA.out (by have := hgi.out; omega) (by have := hgi.out; omega), hV2'.out, ⟨by have := hmo1'.out; have := hmo2'.out; omega, hVi2.out⟩, hkp4.out, hBA.out.grown hg7 hOA.out (by omega) (by have := hzA.out; omega), hrA.out.of_block (hg7.block _ (by have := hzA.out; omega) (hOA.out.own_ne (by omega))), (World.cell?_of_block (a := ⟨w.heap.size, 0, none⟩) (hg7.block w.heap.size (by have := hzA.out; omega) (hOA.out.own_ne (k := w.heap.size) (by omega)))).trans hkA.out, by rw [range_more]; exact hO7⟩; clear hO7 hg7)
    all_goals go_wp2_with fail
    all_goals go_roundw
    all_goals (first
      | exact ⟨j + 1, by omega, by go_num, hI7.out⟩
      | (simp [intOf]; omega)
      | skip)
  · have i1 : decide ((j : Int) < (m : Int)) = false := decide_eq_false (by omega)
    obtain rfl : j = m := by omega
    have hmm : (NT id).len.toNat = j := by rw [hlm'.out]; simp
    have hst := hc'.out.all id hid
    obtain ⟨o, ho, ho14, hty⟩ := op_nat hst
    have hsn := hV1'.out.bound hnt
    have hints : IntsAt wr u10 j V := hO1'.out.1.intsF (by omega) (fun i hi => by
      have := hVi1'.out i hi
      unfold R64; omega)
    obtain ⟨A, cT, q0, hNT⟩ := hW1'.out.tab
    have hIm := Lib.hid (fun (x : World) (hb : Below wr.heap.size wr x) => R12image_any (w := x) (v := .slice A s1.1.n cT) (vl := u10) (n := s1.1.n) (N := s1.1.N) (e := NT id) (V := V) (most := most) ⟨hNT.below hb, by omega, hV1'.out.chk, hm, hR id hid, by rw [hmm]; exact hints.below hb, by rw [hmm]; exact hVi1'.out, ⟨hst.len0, hst.len3⟩, hty⟩ (by omega))
    rw [CSt.of0 he1'.out] at hIm
    have hgr := Lib.hid (fun s' x (h : WayR most s1.1 (NT id) V s' x) => h.grow hV1'.out.chk he1'.out (by rw [hmm]; exact hVi1'.out) hty)
    have hA2 : Hid (ArgsP (WalkP NT most f) (NT id) (NT id).len.toNat s s1 V) := by unfold Hid; rw [hmm]; exact hA1'.out
    have hks : Hid (s1.2 id = none) := (hkp1'.out id (Nat.le_refl _)).trans hki'.out
    have hnd : NdIn wr (w.heap.size + 1) 0 (NT id) := ⟨hr1'.out.cell (i := 0) (by omega), hr1'.out.cell (i := 1) (by omega), hr1'.out.cell (i := 2) (by omega), hr1'.out.cell (i := 3) (by omega), hr1'.out.cell (i := 4) (by omega), hr1'.out.cell (i := 5) (by omega), hr1'.out.cell (i := 6) (by omega), hr1'.out.cell (i := 7) (by omega)⟩
    obtain ⟨n0, n1, n2, n3, n4, n5, n6, n7⟩ := hnd
    simp only [Nat.zero_add] at n0 n1 n2 n3 n4 n5 n6 n7
    have q0' := Lib.hid q0
    have hl0 := hlow.out
    unfold ndV at hIm
    have hKp : ∀ {x : World}, Below wr.heap.size wr x → (x.cell? ⟨g, 0, none⟩ = some (.slice A s1.1.n cT) ∧ x.cell? ⟨w.heap.size + 1, 0, none⟩ = some (.int .i8 (NT id).op) ∧ x.cell? ⟨w.heap.size + 1, 1, none⟩ = some (.int .i8 (NT id).len) ∧ x.cell? ⟨w.heap.size + 1, 2, none⟩ = some (.int .i64 (NT id).a0) ∧ x.cell? ⟨w.heap.size + 1, 3, none⟩ = some (.int .i64 (NT id).a1) ∧ x.cell? ⟨w.heap.size + 1, 4, none⟩ = some (.int .i64 (NT id).a2) ∧ x.cell? ⟨w.heap.size + 1, 5, none⟩ = some (.int .i64 (NT id).sort) ∧ x.cell? ⟨w.heap.size + 1, 6, none⟩ = some (.int .i64 (NT id).fn) ∧ x.cell? ⟨w.heap.size + 1, 7, none⟩ = some (.int .i64 (NT id).num)) := fun {x} hb =>
      ⟨(hb.cell (p := ⟨g, 0, none⟩) (by have := hgi.out; show g < _; omega)).trans q0, (hb.cell (p := ⟨w.heap.size + 1, 0, none⟩) hl0).trans n0, (hb.cell (p := ⟨w.heap.size + 1, 1, none⟩) hl0).trans n1, (hb.cell (p := ⟨w.heap.size + 1, 2, none⟩) hl0).trans n2, (hb.cell (p := ⟨w.heap.size + 1, 3, none⟩) hl0).trans n3, (hb.cell (p := ⟨w.heap.size + 1, 4, none⟩) hl0).trans n4, (hb.cell (p := ⟨w.heap.size + 1, 5, none⟩) hl0).trans n5, (hb.cell (p := ⟨w.heap.size + 1, 6, none⟩) hl0).trans n6, (hb.cell (p := ⟨w.heap.size + 1, 7, none⟩) hl0).trans n7⟩
    have hb0 : Below wr.heap.size wr wr.drew := (Below.refl _ _).drew
    have hbA : Below wr.heap.size wr (wr.alloc (.cells #[.slice none 0 0] 24)).drew := ((Below.refl _ _).alloc (Nat.le_refl _) _).drew
    have hbA0 : Below wr.heap.size wr (wr.alloc (.cells #[.slice none 0 0] 24)) := (Below.refl _ _).alloc (Nat.le_refl _) _
    clear ih n0 n1 n2 n3 n4 n5 n6 n7 q0 hNT hints hmm hst ho ho14 hty hsn hl0
    go_upto_region 12 with fail
    clear p1'
    go_region_held3 (fun x => x.cell? ⟨g, 0, none⟩ = some (.slice A s1.1.n cT) ∧ x.cell? ⟨w.heap.size + 1, 0, none⟩ = some (.int .i8 (NT id).op) ∧ x.cell? ⟨w.heap.size + 1, 1, none⟩ = some (.int .i8 (NT id).len) ∧ x.cell? ⟨w.heap.size + 1, 2, none⟩ = some (.int .i64 (NT id).a0) ∧ x.cell? ⟨w.heap.size + 1, 3, none⟩ = some (.int .i64 (NT id).a1) ∧ x.cell? ⟨w.heap.size + 1, 4, none⟩ = some (.int .i64 (NT id).a2) ∧ x.cell? ⟨w.heap.size + 1, 5, none⟩ = some (.int .i64 (NT id).sort) ∧ x.cell? ⟨w.heap.size + 1, 6, none⟩ = some (.int .i64 (NT id).fn) ∧ x.cell? ⟨w.heap.size + 1, 7, none⟩ = some (.int .i64 (NT id).num))
      (first | exact hKp hb0 | exact hKp hbA | exact hKp hbA0 | exact hKp hb11 | exact hKp (hb11.alloc hb11.size _) | exact hKp (hb11.setCell (p := ⟨wr.heap.size, 0, none⟩) (Nat.le_refl _) _) | fail)
      (first | (go_at_call 49; (with_reducible refine (hIm.out _ hb0).mono ?_); rintro e w11 ⟨v11, ⟨m9, M9, e9⟩, x9, y9, rfl, hR9, hy9, hN9, hb11⟩; replace hb11 := hb0.trans (hb11.mono hb0.size); have hR9' := Lib.hid hR9; have hy9' := Lib.hid hy9; obtain ⟨k9, hk9⟩ : ∃ k9, k9 = tabN ⟨m9, M9, e9⟩ := ⟨_, rfl⟩; rw [← hk9] at hN9; have hk9' := Lib.hid hk9; have hN9' := Lib.hid hN9; obtain ⟨B9, c9, rfl, -, -, -⟩ := hN9; clear hR9 hy9 hk9) | (go_at_call 49; (with_reducible refine (hIm.out _ hbA).mono ?_); rintro e w11 ⟨v11, ⟨m9, M9, e9⟩, x9, y9, rfl, hR9, hy9, hN9, hb11⟩; have kB : w11.cell? ⟨wr.heap.size, 0, none⟩ = some (.slice none 0 0) := (hb11.cell (p := ⟨wr.heap.size, 0, none⟩) (by simp)).trans (by simp); have fB : w11.frozen? ⟨wr.heap.size, 0, none⟩ = false := (hb11.frozen (p := ⟨wr.heap.size, 0, none⟩) (by simp)).trans (by simp); replace hb11 := hbA.trans (hb11.mono hbA.size); have hR9' := Lib.hid hR9; have hy9' := Lib.hid hy9; obtain ⟨k9, hk9⟩ : ∃ k9, k9 = tabN ⟨m9, M9, e9⟩ := ⟨_, rfl⟩; rw [← hk9] at hN9; have hk9' := Lib.hid hk9; have hN9' := Lib.hid hN9; obtain ⟨B9, c9, rfl, -, -, -⟩ := hN9; clear hR9 hy9 hk9) | fail)
    · have hb13 := Lib.hid (hb11.alloc hb11.size (.cells #[.slice B9 k9 c9] 24))
      have hN13 := Lib.hid (hN9'.out.alloc (.cells #[.slice B9 k9 c9] 24))
      have kT : (w11.alloc (.cells #[.slice B9 k9 c9] 24)).cell? ⟨w11.heap.size, 0, none⟩ = some (.slice B9 k9 c9) := by simp
      have hgT : Hid (g ≠ w11.heap.size) := by have := hb11.size; have := hgi.out; have := hlow.out; unfold Hid; omega
      generalize w11.alloc (.cells #[.slice B9 k9 c9] 24) = X13 at *
      have hW13 := Lib.hid (hW1'.out.below hb13.out)
      have hBf := Lib.hid (hB1'.out.next (But.of hb13.out [g, ib]) (by have := hlow.out; omega))
      clear hN9' hb11 hKp hb0 hbA hbA0 hIm
      by_cases h9 : e9 = 0
      case neg =>
        have d9 : (e9 != 0) = true := by simpa using h9
        have g9 := Lib.hid (hgr.out _ _ hR9'.out)
        have h9' := Lib.hid h9
        clear h9 kT
        go_wp2_with fail
        go_ret
        exact ⟨(⟨m9, M9, e9⟩, updK s1.2 id x9), x9, rfl, .inr (.inr ⟨hki'.out, he'.out, s1, V, hA2.out, .inr ⟨he1'.out, _, hR9'.out, rfl⟩⟩), hV1'.out.step hid hks.out g9.out, ⟨Nat.le_trans hmo1'.out g9.out.st.more, g9.out.x0, g9.out.x1⟩, fun e => absurd e h9'.out, fun i hi => by
          show updK s1.2 id x9 i = _
          unfold updK
          rw [if_neg (by omega)]
          exact hkp1'.out i (by omega), hBf.out⟩
      subst h9
      have g9 := Lib.hid (hgr.out _ _ hR9'.out)
      obtain rfl : y9 = x9 := hy9'.out rfl
      obtain rfl : k9 = m9 := hk9'.out
      obtain ⟨A13, c13, q13, -⟩ := hW13.out.tab
      have f13 := hW13.out.fz 0
      have hW14 := Lib.hid (hW13.out.tab' (s' := ⟨k9, M9, 0⟩) hN13.out)
      have hBf2 := Lib.hid (hBf.out.set (g := g) (.inl (by simp)) 0 (.slice B9 k9 c9))
      clear hk9' hy9'
      go_upto_region 16 with fail
      dsimp only at hW14
      generalize X13.setCell ⟨g, 0, none⟩ (.slice B9 k9 c9) = X14 at *
      clear q13 f13 kT hN13 hW13 hBf
      have c14 := hW14.out.c1
      have i14 := hW14.out.img.at_ id hid
      have f14 := hW14.out.img.fz id
      have hW15 := Lib.hid (hW14.out.img' hid y9)
      go_wp2_with fail
      go_ret
      exact ⟨(⟨k9, M9, 0⟩, updK s1.2 id y9), y9, rfl, .inr (.inr ⟨hki'.out, he'.out, s1, V, hA2.out, .inr ⟨he1'.out, _, hR9'.out, rfl⟩⟩), hV1'.out.step hid hks.out g9.out, ⟨Nat.le_trans hmo1'.out g9.out.st.more, g9.out.x0, g9.out.x1⟩, fun _ => ⟨hW15.out, by show updK s1.2 id y9 id = _; unfold updK; rw [if_pos rfl]⟩, fun i hi => by
        show updK s1.2 id y9 i = _
        unfold updK
        rw [if_neg (by omega)]
        exact hkp1'.out i (by omega), hBf2.out.set (g := ib) (.inl (by simp)) id (.int .i64 y9)⟩
    · have hb13 := Lib.hid (hb11.setCell (p := ⟨wr.heap.size, 0, none⟩) (Nat.le_refl _) (.slice B9 k9 c9))
      have hN13 := Lib.hid (hN9'.out.setBox kB (fun _ _ h => by cases h) (.slice B9 k9 c9))
      have kT : (w11.setCell ⟨wr.heap.size, 0, none⟩ (.slice B9 k9 c9)).cell? ⟨wr.heap.size, 0, none⟩ = some (.slice B9 k9 c9) := World.cell?_setCell_same' _ _ _ (by rw [kB]; rfl)
      have hgT : Hid (g ≠ wr.heap.size) := by have := hgi.out; have := hlow.out; unfold Hid; omega
      generalize w11.setCell ⟨wr.heap.size, 0, none⟩ (.slice B9 k9 c9) = X13 at *
      clear kB fB
      have hW13 := Lib.hid (hW1'.out.below hb13.out)
      have hBf := Lib.hid (hB1'.out.next (But.of hb13.out [g, ib]) (by have := hlow.out; omega))
      clear hN9' hb11 hKp hb0 hbA hbA0 hIm
      by_cases h9 : e9 = 0
      case neg =>
        have d9 : (e9 != 0) = true := by simpa using h9
        have g9 := Lib.hid (hgr.out _ _ hR9'.out)
        have h9' := Lib.hid h9
        clear h9 kT
        go_wp2_with fail
        go_ret
        exact ⟨(⟨m9, M9, e9⟩, updK s1.2 id x9), x9, rfl, .inr (.inr ⟨hki'.out, he'.out, s1, V, hA2.out, .inr ⟨he1'.out, _, hR9'.out, rfl⟩⟩), hV1'.out.step hid hks.out g9.out, ⟨Nat.le_trans hmo1'.out g9.out.st.more, g9.out.x0, g9.out.x1⟩, fun e => absurd e h9'.out, fun i hi => by
          show updK s1.2 id x9 i = _
          unfold updK
          rw [if_neg (by omega)]
          exact hkp1'.out i (by omega), hBf.out⟩
      subst h9
      have g9 := Lib.hid (hgr.out _ _ hR9'.out)
      obtain rfl : y9 = x9 := hy9'.out rfl
      obtain rfl : k9 = m9 := hk9'.out
      obtain ⟨A13, c13, q13, -⟩ := hW13.out.tab
      have f13 := hW13.out.fz 0
      have hW14 := Lib.hid (hW13.out.tab' (s' := ⟨k9, M9, 0⟩) hN13.out)
      have hBf2 := Lib.hid (hBf.out.set (g := g) (.inl (by simp)) 0 (.slice B9 k9 c9))
      clear hk9' hy9'
      go_upto_region 16 with fail
      dsimp only at hW14
      generalize X13.setCell ⟨g, 0, none⟩ (.slice B9 k9 c9) = X14 at *
      clear q13 f13 kT hN13 hW13 hBf
      have c14 := hW14.out.c1
      have i14 := hW14.out.img.at_ id hid
      have f14 := hW14.out.img.fz id
      have hW15 := Lib.hid (hW14.out.img' hid y9)
      go_wp2_with fail
      go_ret
      exact ⟨(⟨k9, M9, 0⟩, updK s1.2 id y9), y9, rfl, .inr (.inr ⟨hki'.out, he'.out, s1, V, hA2.out, .inr ⟨he1'.out, _, hR9'.out, rfl⟩⟩), hV1'.out.step hid hks.out g9.out, ⟨Nat.le_trans hmo1'.out g9.out.st.more, g9.out.x0, g9.out.x1⟩, fun _ => ⟨hW15.out, by show updK s1.2 id y9 id = _; unfold updK; rw [if_pos rfl]⟩, fun i hi => by
        show updK s1.2 id y9 i = _
        unfold updK
        rw [if_neg (by omega)]
        exact hkp1'.out i (by omega), hBf2.out.set (g := ib) (.inl (by simp)) id (.int .i64 y9)⟩
end Go.Proofs.Ytecmoahadckomaa
