/- Core: which function is a kind's way; the images so far in memory; what the walk over a table comes to. -/
import Derived.Test.YtecmoahadckomaaZMkGMkH
import Derived.Maps.OwnSet
import Derived.Shelf.Abstract
import Derived.Test.YtecmoahadckomaaZTermBTermLGathL
import Derived.ArgAppend
import Derived.StillTailTactics
import Derived.Deep.CutRange
namespace Go.Proofs.Ytecmoahadckomaa
open Go.RowKit Go.Maps
open Go.ChangeMaps (setBlock)
set_option maxRecDepth 100000

def wayK (op : Int) : Nat := if op = 0 then 35 else if op = 1 then 36 else if op = 2 then 37 else if op = 3 then 37 else if op = 4 then 38
  else if op = 5 then 39 else if op = 6 then 40 else if op = 7 then 41 else if op = 8 then 42 else if op = 9 then 43 else if op = 10 then 44
  else if op = 11 then 45 else if op = 12 then 46 else 47
def EntK (K : Nat) : Prop := ∀ args w, (callFunc K args).run Try.prog w = .ok (.enter K args) w
theorem ent_if {c : Prop} [Decidable c] {a b : Nat} (ha : EntK a) (hb : EntK b) : EntK (if c then a else b) := by
  by_cases h : c
  · rw [if_pos h]; exact ha
  · rw [if_neg h]; exact hb
theorem wayK_ent (op : Int) : EntK (wayK op) := by
  unfold wayK
  refine ent_if (enters_of Try.func35 (by kernel_rfl) rfl) ?_
  refine ent_if (enters_of Try.func36 (by kernel_rfl) rfl) ?_
  refine ent_if (enters_of Try.func37 (by kernel_rfl) rfl) ?_
  refine ent_if (enters_of Try.func37 (by kernel_rfl) rfl) ?_
  refine ent_if (enters_of Try.func38 (by kernel_rfl) rfl) ?_
  refine ent_if (enters_of Try.func39 (by kernel_rfl) rfl) ?_
  refine ent_if (enters_of Try.func40 (by kernel_rfl) rfl) ?_
  refine ent_if (enters_of Try.func41 (by kernel_rfl) rfl) ?_
  refine ent_if (enters_of Try.func42 (by kernel_rfl) rfl) ?_
  refine ent_if (enters_of Try.func43 (by kernel_rfl) rfl) ?_
  refine ent_if (enters_of Try.func44 (by kernel_rfl) rfl) ?_
  refine ent_if (enters_of Try.func45 (by kernel_rfl) rfl) ?_
  refine ent_if (enters_of Try.func46 (by kernel_rfl) rfl) ?_
  exact enters_of Try.func47 (by kernel_rfl) rfl
theorem Way_any {w : World} {g : Nat} {most : Int} {s : CSt} {nd : Nd} {vv : Value} {V : Nat → Int} (h : WayH w g most s nd vv V) (ho : nd.op = 0 ∨ nd.op = 1 ∨ nd.op = 2 ∨ nd.op = 3 ∨ nd.op = 4 ∨ nd.op = 5 ∨ nd.op = 6 ∨ nd.op = 7 ∨ nd.op = 8 ∨ nd.op = 9 ∨ nd.op = 10 ∨ nd.op = 11 ∨ nd.op = 12 ∨ nd.op = 13) :
    Calls Try.prog (wayK nd.op) #[.pointer (some ⟨g, 0, none⟩), ndV nd, vv] w (MkrPost g most (WayR most s nd V) w) := by
  rcases ho with e | e | e | e | e | e | e | e | e | e | e | e | e | e
  · rw [show wayK nd.op = 35 from by rw [e]; rfl]; exact Way_truth h e
  · rw [show wayK nd.op = 36 from by rw [e]; rfl]; exact Way_not h e
  · rw [show wayK nd.op = 37 from by rw [e]; rfl]; exact Way_kind h (.inl e)
  · rw [show wayK nd.op = 37 from by rw [e]; rfl]; exact Way_kind h (.inr e)
  · rw [show wayK nd.op = 38 from by rw [e]; rfl]; exact Way_xor h e
  · rw [show wayK nd.op = 39 from by rw [e]; rfl]; exact Way_imp h e
  · rw [show wayK nd.op = 40 from by rw [e]; rfl]; exact Way_equality h e
  · rw [show wayK nd.op = 41 from by rw [e]; rfl]; exact Way_choice h e
  · rw [show wayK nd.op = 42 from by rw [e]; rfl]; exact Way_le h e
  · rw [show wayK nd.op = 43 from by rw [e]; rfl]; exact Way_lt h e
  · rw [show wayK nd.op = 44 from by rw [e]; rfl]; exact Way_number h e
  · rw [show wayK nd.op = 45 from by rw [e]; rfl]; exact Way_sum h e
  · rw [show wayK nd.op = 46 from by rw [e]; rfl]; exact Way_difference h e
  · rw [show wayK nd.op = 47 from by rw [e]; rfl]; exact Way_app h e
/-- The images so far. -/
abbrev CK := Nat → Option Int
def updK (K : CK) (i : Nat) (x : Int) : CK := fun j => if j = i then some x else K j
def KnAt (w : World) (b n : Nat) (K : CK) : Prop :=
  ∃ D : DataW Unit, w.ownsMap Try.prog 3 (plainElem Try.prog 3) b n D ∧ ∀ i : Nat, i ≤ 1000000 → Maps.has D (.int .i64 i) = (K i).isSome ∧ D.atKey (.int .i64 i) (.lit (.int .i64 0)) = .lit (.int .i64 ((K i).getD 0))
theorem int_keyedT : Keyed Try.prog 3 := int_keyed Try.underlying3
theorem mapT : Try.prog.underlying 46 = some (.map 3 3) := by kernel_rfl
theorem int_wf {i : Int} (h : R64 i) : (Lit.int .i64 i).wf = true := by
  unfold R64 at h
  unfold Lit.wf
  rw [Bool.and_eq_true, decide_eq_true_eq, decide_eq_true_eq]
  exact ⟨h.1, h.2⟩
theorem zero_intT (w : World) : (zeroValue 3).run Try.prog w = .ok (.int .i64 0) w := by kernel_rfl
section
variable {w w' : World} {b n : Nat} {K : CK}
theorem KnAt.made (w : World) : KnAt (w.alloc (.map #[] 0)) w.heap.size 0 (fun _ => none) := ⟨.map [], World.ownsMap_made _ _ _ _, fun _ _ => ⟨rfl, rfl⟩⟩
theorem KnAt.lt (h : KnAt w b n K) : b < w.heap.size := by obtain ⟨D, h, _⟩ := h; exact h.lt
theorem KnAt.below {B : Nat} (h : KnAt w b n K) (hb : Below B w w') (hB : b < B) : KnAt w' b n K := by
  obtain ⟨D, ⟨es, clock, h1, h2⟩, hS⟩ := h
  exact ⟨D, ⟨es, clock, (hb.block b hB).trans h1, h2⟩, hS⟩
theorem KnAt.but {S : List Nat} (h : KnAt w b n K) (hb : But S w.heap.size w w') (hS : b ∉ S) : KnAt w' b n K := by
  have hl := h.lt
  obtain ⟨D, ⟨es, clock, h1, h2⟩, hD⟩ := h
  exact ⟨D, ⟨es, clock, (hb.block b hl hS).trans h1, h2⟩, hD⟩
theorem KnAt.look (h : KnAt w b n K) {i : Nat} (hi : i ≤ 1000000) : (Instr.lookup 46 (.map (some b)) (.int .i64 i) true).run Try.prog w = .ok (.tuple #[.int .i64 ((K i).getD 0), .bool (K i).isSome]) w := by
  obtain ⟨D, ho, hK⟩ := h
  obtain ⟨v, ps, hrun, hv⟩ := ho.look_ok int_keyedT mapT (zero_intT w) (plainElem_int Try.underlying3 (by decide)) (keyOf_int_mk Try.underlying3 (int_wf (i := (i : Int)) (by unfold R64; omega)))
  obtain ⟨c, rfl, hc, hwc⟩ := plainElem_int_inv Try.underlying3 hv
  simp only [Prod.mk.injEq] at hc
  obtain ⟨h1, h2⟩ := hK i hi
  rw [hrun, h1]
  have := hc.1
  rw [h2] at this
  injection this with this
  injection this with _ this
  rw [this]
theorem KnAt.store (h : KnAt w b n K) (hn : n < maxLen) {i : Nat} (hi : i ≤ 1000000) {x : Int} (hx : R64 x) :
    ∃ w', (Instr.mapUpdate 46 (.map (some b)) (.int .i64 i) (.int .i64 x)).run Try.prog w = .ok () w' ∧ KnAt w' b (n + 1) (updK K i x) ∧ But [b] w.heap.size w w' := by
  obtain ⟨D, ho, hK⟩ := h
  have hkey := keyOf_int_mk (P := Try.prog) Try.underlying3 (int_wf (i := (i : Int)) (by unfold R64; omega))
  obtain ⟨w', hrun, g1, g2⟩ := ho.update int_keyedT mapT hn hkey (plainElem_int Try.underlying3 (int_wf hx))
  refine ⟨w', hrun, ⟨_, g1, fun j hj => ?_⟩, ⟨g2.os, g2.tape, g2.output, g2.size, fun k h1 h2 => g2.block k h1 (fun e => h2 (by injection e with e; rw [e]; simp))⟩⟩
  by_cases e : j = i
  · subst e
    exact ⟨by rw [has_put_same ho.isMap (int_keyedT.key hkey)]; unfold updK; rw [if_pos rfl]; rfl, by rw [atKey_put_same ho.isMap (int_keyedT.key hkey)]; unfold updK; rw [if_pos rfl]; rfl⟩
  · have hne : (Lit.int .i64 j) ≠ (Lit.int .i64 i) := fun h => e (by injection h with _ h; omega)
    obtain ⟨h1, h2⟩ := hK j hj
    exact ⟨by rw [has_put_other hne, h1]; unfold updK; rw [if_neg e], by rw [atKey_put_other hne, h2]; unfold updK; rw [if_neg e]⟩
end
/-- What one walk after another over a node's Args comes to. -/
def ArgsP (Wk : CSt × CK → Nat → CSt × CK → Int → Prop) (e : Nd) : Nat → CSt × CK → CSt × CK → (Nat → Int) → Prop
  | 0, s, s', _ => s' = s
  | k + 1, s, s', V => ∃ s1, ArgsP Wk e k s s1 V ∧ Wk s1 (e.arg k).toNat s' (V k)
/-- What the walk at a place comes to: known; stopped by an error; its Args' images, then its way. -/
def WalkP (NT : Nat → Nd) (most : Int) : Nat → CSt × CK → Nat → CSt × CK → Int → Prop
  | 0, _, _, _, _ => False
  | f + 1, s, id, s', x => (s.2 id = some x ∧ s' = s) ∨ (s.2 id = none ∧ s.1.e ≠ 0 ∧ s' = s ∧ x = 0) ∨
      (s.2 id = none ∧ s.1.e = 0 ∧ ∃ s1 V, ArgsP (WalkP NT most f) (NT id) (NT id).len.toNat s s1 V ∧ ((s1.1.e ≠ 0 ∧ s' = s1 ∧ x = 0) ∨ (s1.1.e = 0 ∧ ∃ m', WayR most s1.1 (NT id) V m' x ∧ s' = (m', updK s1.2 id x))))
theorem ArgsP.congr {Wk : CSt × CK → Nat → CSt × CK → Int → Prop} {e : Nd} {V V' : Nat → Int} : ∀ {k : Nat} {s s' : CSt × CK}, (∀ i, i < k → V i = V' i) → ArgsP Wk e k s s' V → ArgsP Wk e k s s' V'
  | 0, _, _, _, h => h
  | k + 1, s, s', hV, ⟨s1, h1, h2⟩ => ⟨s1, h1.congr fun i hi => hV i (by omega), by rw [← hV k (by omega)]; exact h2⟩
def cntK (K : CK) : Nat → Nat
  | 0 => 0
  | k + 1 => cntK K k + (if (K k).isSome then 1 else 0)
theorem cntK_le (K : CK) (k : Nat) : cntK K k ≤ k := by
  induction k with
  | zero => exact Nat.le_refl _
  | succ k ih => unfold cntK; split <;> omega
theorem cntK_upd {K : CK} {i : Nat} {x : Int} (h : K i = none) : ∀ {k : Nat}, i < k → cntK (updK K i x) k = cntK K k + 1
  | 0, hi => by omega
  | k + 1, hi => by
    have same : ∀ m, m ≤ i → cntK (updK K i x) m = cntK K m := by
      intro m
      induction m with
      | zero => intro _; rfl
      | succ m ih =>
        intro hm
        have e : updK K i x m = K m := by unfold updK; rw [if_neg (by omega)]
        unfold cntK
        rw [ih (by omega), e]
    unfold cntK
    by_cases e : i = k
    · subst e
      have e1 : updK K i x i = some x := by unfold updK; rw [if_pos rfl]
      rw [same i (Nat.le_refl _), e1, h]
      simp
    · have e1 : updK K i x k = K k := by unfold updK; rw [if_neg (by omega)]
      rw [cntK_upd h (k := k) (by omega), e1]
      omega
/-- What holds all along: the images are places, the table has few nodes. -/
structure InvK (nt : Nat) (s : CSt × CK) : Prop where
  chk : CheckP s.1.n s.1.N
  ins : ∀ i x, s.2 i = some x → 0 ≤ x ∧ x < s.1.n
  few : s.1.n ≤ 2 + 8 * cntK s.2 nt
theorem WayR.grow {most : Int} {s s' : CSt} {nd : Nd} {V : Nat → Int} {x : Int} (hc : CheckP s.n s.N) (h0 : s.e = 0) (hV : ∀ i, i < nd.len.toNat → 0 ≤ V i ∧ V i < s.n) (har : nd.op ≠ 13 → nd.len = ar nd.op) (h : WayR most s nd V s' x) : GrowsR 5 s s' x := by
  have al : ∀ {op : Int} {k : Nat}, nd.op = op → op ≠ 13 → ar op = k → nd.len.toNat = k := fun ho h13 hk => by
    have := har (by rw [ho]; exact h13)
    rw [this, ho, hk]; simp
  cases h with
  | tru => exact (GrowsR.zero hc).mono (by omega)
  | neg ho s' x hp => exact (hp.grow hc (fun _ => hV 0 (by rw [al ho (by decide) (k := 1) rfl]; omega))).mono (by omega)
  | kind ho s' x hp => exact (hp.grow hc).mono (by omega)
  | xor ho s1 y hy s' x hp =>
    have g1 := hy.grow hc
    exact ((hp.grow g1.st.chk (fun _ => ⟨g1.x0, g1.x1⟩)).after g1.st).mono (by omega)
  | imp ho s1 y hy s' x hp =>
    have g1 := hy.grow hc (fun _ => hV 0 (by rw [al ho (by decide) (k := 2) rfl]; omega))
    exact ((hp.grow g1.st.chk).after g1.st).mono (by omega)
  | eq ho s' x hp => exact (hp.grow hc).mono (by omega)
  | ite ho s' x hp => exact hp.grow hc (fun _ => hV 1 (by rw [al ho (by decide) (k := 3) rfl]; omega))
  | le ho s' x hp => exact (hp.grow hc).mono (by omega)
  | lt ho s' x hp => exact (hp.grow hc).mono (by omega)
  | num ho m M x er hp => exact (kept_grow hc hp.grow h0).mono (by omega)
  | add ho m M x er hp => exact (kept_grow hc hp.grow h0).mono (by omega)
  | diff ho s' x hp => exact (hp.grow hc).mono (by omega)
  | app ho s' x hp => exact (hp.grow hc).mono (by omega)
theorem InvK.step {nt : Nat} {s : CSt × CK} {s' : CSt} {id : Nat} {x : Int} (h : InvK nt s) (hid : id < nt) (h0 : s.2 id = none) (g : GrowsR 5 s.1 s' x) : InvK nt (s', updK s.2 id x) := by
  refine ⟨g.st.chk, fun i y hy => ?_, ?_⟩
  · have hy : updK s.2 id x i = some y := hy
    unfold updK at hy
    by_cases e : i = id
    · rw [if_pos e] at hy; injection hy with hy; subst hy; exact ⟨g.x0, g.x1⟩
    · rw [if_neg e] at hy
      have := h.ins i y hy
      have := g.st.more
      show 0 ≤ y ∧ y < (s'.n : Int)
      omega
  · show s'.n ≤ 2 + 8 * cntK (updK s.2 id x) nt
    rw [cntK_upd h0 hid]
    have := h.few
    have := g.st.size
    omega
end Go.Proofs.Ytecmoahadckomaa

namespace Go.Proofs.Ytecmoahadckomaa
open Go.RowKit Go.Maps
set_option maxRecDepth 100000

/-- A number appended where there is room, into a row of three. -/
theorem wpList_appR {ops : Array Oper} {rest : List Oper} {o : Oper} {a : Act} {w : World} {Q : Exit → Act → World → Prop} (hgd : o.guard = none) (s x : Operand)
    (ho : o.op = .call { callee := .builtin .append, args := #[s, x], argTypes := #[25, 25] }) (S j G c : Nat) (F : Nat → Value) (y : Int) (hs : a.eval s = .slice (some ⟨S, 0, none⟩) j 3) (hx : a.eval x = .slice (some ⟨G, 0, none⟩) 1 c)
    (hrow : w.rowIs S 3 3 F) (hG : w.cell? ⟨G, 0, none⟩ = some (.int .i64 y)) (hj : j < 3)
    (h : wpList Try.prog ops Q rest (a.put o.dst (.slice (some ⟨S, 0, none⟩) (j + 1) 3)) (w.setCell ⟨S, j, none⟩ (.int .i64 y))) : wpList Try.prog ops Q (o :: rest) a w := by
  obtain ⟨i0, hi, hz0, hz1, hz2⟩ := info_parts info_int
  refine wpList_plain hgd fun K hK' => ?_
  have hrun := run_append_room_cells (P := Try.prog) w 25 o.type 3 i0 Try.underlying25 hi S 0 j 3 ⟨G, 0, none⟩ 1 c [.int .i64 y] (by rw [hz1]; rfl) (fun k u hk => by
    cases k with
    | zero => simp at hk; subst hk; exact hG
    | succ k => simp at hk) (fun u hu => by simp at hu; subst hu; rfl) (by omega) (fun k hk => by
    have hk : k < 1 := hk
    have : k = 0 := by omega
    subst this
    rw [hz1, show 0 + j * 1 + 0 = j by omega, hrow.cell hj]; rfl) (fun k hk => hrow.frozen _)
  rw [hz1, show 0 + j * 1 = j by omega] at hrun
  unfold Oper.wp
  simp [execOp, ho, resolve, invoke, builtin, hs, hx, hrun, Result.andThen]
  exact hK' _ _ h
/-- Where the walk's captured things lie. -/
structure WkH (w : World) (p1 p2 p3 p4 p5 kb g tb to_ tc nt : Nat) (NT : Nat → Nd) : Prop where
  lt : (p1 < w.heap.size ∧ p2 < w.heap.size ∧ p3 < w.heap.size ∧ p4 < w.heap.size ∧ p5 < w.heap.size) ∧ kb < w.heap.size ∧ g < w.heap.size ∧ tb < w.heap.size
  sep : (p1 ≠ g ∧ p2 ≠ g ∧ p3 ≠ g ∧ p4 ≠ g ∧ p5 ≠ g ∧ tb ≠ g ∧ kb ≠ g) ∧ (p1 ≠ kb ∧ p2 ≠ kb ∧ p3 ≠ kb ∧ p4 ≠ kb ∧ p5 ≠ kb ∧ tb ≠ kb)
  c1 : w.cell? ⟨p1, 0, none⟩ = some (.map (some kb))
  c2 : w.cell? ⟨p2, 0, none⟩ = some (.pointer (some ⟨g, 0, none⟩))
  c3 : w.cell? ⟨p3, 0, none⟩ = some (.slice (some ⟨tb, to_, none⟩) nt tc)
  c4 : w.cell? ⟨p4, 0, none⟩ = some (.func (.func 22) #[] #[.pointer (some ⟨p1, 0, none⟩), .pointer (some ⟨p2, 0, none⟩), .pointer (some ⟨p3, 0, none⟩), .pointer (some ⟨p4, 0, none⟩), .pointer (some ⟨p5, 0, none⟩)])
  c5 : ∀ i : Nat, i < 14 → w.cell? ⟨p5, i, none⟩ = some (.func (.func (wayK i)) #[] #[])
  nd : ∀ i, i < nt → NdIn w tb (to_ + i * 8) (NT i)
section
variable {w w' : World} {p1 p2 p3 p4 p5 kb g tb to_ tc nt : Nat} {NT : Nat → Nd}
theorem WkH.but (h : WkH w p1 p2 p3 p4 p5 kb g tb to_ tc nt NT) (hb : But [g, kb] w.heap.size w w') : WkH w' p1 p2 p3 p4 p5 kb g tb to_ tc nt NT := by
  obtain ⟨⟨⟨l1, l2, l3, l4, l5⟩, l6, l7, l8⟩, ⟨⟨s1, s2, s3, s4, s5, s6, s7⟩, t1, t2, t3, t4, t5, t6⟩, c1, c2, c3, c4, c5, nd⟩ := h
  have hz := hb.size
  have ne : ∀ {p : Nat}, p ≠ g → p ≠ kb → p ∉ [g, kb] := fun h1 h2 h => by
    rcases List.mem_cons.1 h with h | h
    · exact h1 h
    · exact h2 (List.mem_singleton.1 h)
  exact ⟨⟨⟨by omega, by omega, by omega, by omega, by omega⟩, by omega, by omega, by omega⟩, ⟨⟨s1, s2, s3, s4, s5, s6, s7⟩, t1, t2, t3, t4, t5, t6⟩,
    (hb.cell (p := ⟨p1, 0, none⟩) l1 (ne s1 t1)).trans c1, (hb.cell (p := ⟨p2, 0, none⟩) l2 (ne s2 t2)).trans c2, (hb.cell (p := ⟨p3, 0, none⟩) l3 (ne s3 t3)).trans c3, (hb.cell (p := ⟨p4, 0, none⟩) l4 (ne s4 t4)).trans c4,
    fun i hi => (hb.cell (p := ⟨p5, i, none⟩) l5 (ne s5 t5)).trans (c5 i hi), fun i hi => (nd i hi).keep fun j => hb.cell (p := ⟨tb, j, none⟩) l8 (ne s6 t6)⟩
end
/-- What the walk leaves. -/
def WalkPost (NT : Nat → Nd) (most : Int) (kb g nt f : Nat) (s : CSt × CK) (id : Nat) (w : World) (z : Ending) (w' : World) : Prop :=
  ∃ s' x n', z = .returned (.int .i64 x) ∧ WalkP NT most f s id s' x ∧ MkrAt w' g most s'.1 ∧ KnAt w' kb n' s'.2 ∧ n' ≤ cntK s'.2 nt ∧ InvK nt s' ∧ (s.1.n ≤ s'.1.n ∧ 0 ≤ x ∧ x < s'.1.n) ∧ (∀ i, id < i → s'.2 i = s.2 i) ∧ But [g, kb] w.heap.size w w'
/-- A node's cells. -/
def ndF (e : Nd) (i : Nat) : Value := if i = 0 then .int .i8 e.op else if i = 1 then .int .i8 e.len else if i = 2 then .int .i64 e.a0 else if i = 3 then .int .i64 e.a1 else if i = 4 then .int .i64 e.a2 else if i = 5 then .int .i64 e.sort else if i = 6 then .int .i64 e.fn else .int .i64 e.num
theorem ndF_arg (e : Nd) {j : Nat} (hj : j < 3) : ndF e (2 + j) = .int .i64 (e.arg j) := by
  have : j = 0 ∨ j = 1 ∨ j = 2 := by omega
  rcases this with rfl | rfl | rfl <;> rfl
/-- What holds between one argument and the next. -/
def WkI (NT : Nat → Nd) (most : Int) (kb g nt f : Nat) (s : CSt × CK) (id : Nat) (w : World) (j : Nat) (wr : World) : Prop :=
  ∃ s1 n1 V, ArgsP (WalkP NT most f) (NT id) j s s1 V ∧ MkrAt wr g most s1.1 ∧ KnAt wr kb n1 s1.2 ∧ n1 ≤ cntK s1.2 nt ∧ InvK nt s1 ∧ (s.1.n ≤ s1.1.n ∧ ∀ i, i < j → 0 ≤ V i ∧ V i < s1.1.n) ∧ (∀ i, id ≤ i → s1.2 i = s.2 i) ∧
    But [g, kb] w.heap.size w wr ∧ wr.rowIs w.heap.size 39 8 (ndF (NT id)) ∧ wr.rowIs (w.heap.size + 1) 3 3 (sF V j)
theorem wk_start (w : World) (e : Nd) (V : Nat → Int) : ((w.alloc (.cells #[.int .i8 e.op, .int .i8 e.len, .int .i64 e.a0, .int .i64 e.a1, .int .i64 e.a2, .int .i64 e.sort, .int .i64 e.fn, .int .i64 e.num] 39)).alloc (.cells #[.int .i64 0, .int .i64 0, .int .i64 0] 3)).rowIs w.heap.size 39 8 (ndF e) ∧
    ((w.alloc (.cells #[.int .i8 e.op, .int .i8 e.len, .int .i64 e.a0, .int .i64 e.a1, .int .i64 e.a2, .int .i64 e.sort, .int .i64 e.fn, .int .i64 e.num] 39)).alloc (.cells #[.int .i64 0, .int .i64 0, .int .i64 0] 3)).rowIs (w.heap.size + 1) 3 3 (sF V 0) := by
  constructor
  · refine World.rowIs.alloc ?_ _
    refine World.rowIs_alloc w _ _ _ fun i hi => ?_
    have hi : i < 8 := hi
    obtain rfl | rfl | rfl | rfl | rfl | rfl | rfl | rfl : i = 0 ∨ i = 1 ∨ i = 2 ∨ i = 3 ∨ i = 4 ∨ i = 5 ∨ i = 6 ∨ i = 7 := by omega
    all_goals rfl
  · have := World.rowIs_alloc (w.alloc (.cells #[.int .i8 e.op, .int .i8 e.len, .int .i64 e.a0, .int .i64 e.a1, .int .i64 e.a2, .int .i64 e.sort, .int .i64 e.fn, .int .i64 e.num] 39)) #[.int .i64 0, .int .i64 0, .int .i64 0] 3 (sF V 0) fun i hi => by
      have hi : i < 3 := hi
      obtain rfl | rfl | rfl : i = 0 ∨ i = 1 ∨ i = 2 := by omega
      all_goals rfl
    simp only [World.size_alloc] at this
    exact this
theorem ArgsP.more {Wk : CSt × CK → Nat → CSt × CK → Int → Prop} {e : Nd} {k : Nat} {s s1 s2 : CSt × CK} {V : Nat → Int} {x : Int} (h : ArgsP Wk e k s s1 V) (h' : Wk s1 (e.arg k).toNat s2 x) : ArgsP Wk e (k + 1) s s2 (fun i => if i = k then x else V i) :=
  ⟨s1, h.congr fun i hi => by rw [if_neg (by omega)], by dsimp only; rw [if_pos rfl]; exact h'⟩
theorem sF_more {V : Nat → Int} {x : Int} {j : Nat} : (fun i => if i = j then Value.int .i64 x else sF V j i) = sF (fun i => if i = j then x else V i) (j + 1) := by
  funext i
  unfold sF
  by_cases e : i = j
  · subst e; dsimp only; rw [if_pos rfl, if_pos (by omega), if_pos rfl]
  · dsimp only
    rw [if_neg e, if_neg e]
    by_cases h2 : i < j
    · rw [if_pos h2, if_pos (by omega)]
    · rw [if_neg h2, if_neg (by omega)]
theorem KnAt.none {w : World} {b n : Nat} {K : CK} (h : KnAt w b n K) (o : Nat) : w.cell? ⟨b, o, Option.none⟩ = Option.none := by
  obtain ⟨D, ⟨es, clock, h1, _⟩, _⟩ := h
  simp [World.cell?, h1]
theorem MkrAt.past {w w' : World} {g kb : Nat} {most : Int} {s : CSt} (h : MkrAt w g most s) (hb : But [kb] w.heap.size w w') (hne : g ≠ kb) (hk : ∀ o, w.cell? ⟨kb, o, Option.none⟩ = Option.none) : MkrAt w' g most s := by
  have hl := h.lt
  obtain ⟨v, h, hv⟩ := h
  refine ⟨v, (hb.block g hl (by simp; exact hne)).trans h, ?_⟩
  obtain ⟨A, c, rfl, hn, hr, hc⟩ := hv
  refine ⟨A, c, rfl, hn, hr, fun h0 => ?_⟩
  obtain ⟨b, o, rfl, hlt, hc⟩ := hc h0
  refine ⟨b, o, rfl, by have := hb.size; omega, fun i hi => (hc i hi).keep fun j => hb.cell (p := ⟨b, j, Option.none⟩) hlt fun hm => ?_⟩
  have hm := List.mem_singleton.1 hm
  have hm : b = kb := hm
  subst hm
  have := (hc 0 h0).1
  rw [hk] at this
  cases this
theorem op_nat {e : Nd} {x : Int} (h : StandsP e x) : ∃ o : Nat, e.op = o ∧ o < 14 ∧ (e.op ≠ 13 → e.len = ar e.op) := by
  have hk := h.kind
  have hin : ¬ (e.op < 0 ∨ 13 < e.op) := fun h' => hk (ar_out h')
  refine ⟨e.op.toNat, by omega, by omega, fun h13 => h.len ?_⟩
  have : e.op = 0 ∨ e.op = 1 ∨ e.op = 2 ∨ e.op = 3 ∨ e.op = 4 ∨ e.op = 5 ∨ e.op = 6 ∨ e.op = 7 ∨ e.op = 8 ∨ e.op = 9 ∨ e.op = 10 ∨ e.op = 11 ∨ e.op = 12 := by omega
  rcases this with e | e | e | e | e | e | e | e | e | e | e | e | e <;> rw [e] <;> decide
theorem InvK.bound {nt : Nat} {s : CSt × CK} (h : InvK nt s) (hn : nt ≤ 3000) : s.1.n ≤ 24002 := by
  have := h.few
  have := cntK_le s.2 nt
  omega
set_option maxHeartbeats 16000000 in
theorem Walk_any (NT : Nat → Nd) (most : Int) (p1 p2 p3 p4 p5 kb g tb to_ tc nt : Nat) (hc : CheckP nt NT) (hnt : nt ≤ 3000) (hR : ∀ i, i < nt → NdR (NT i)) (hm : R64 most) : ∀ (f id : Nat), id < f → id < nt → ∀ (w : World) (s : CSt × CK) (n : Nat),
    WkH w p1 p2 p3 p4 p5 kb g tb to_ tc nt NT → MkrAt w g most s.1 → KnAt w kb n s.2 → n ≤ cntK s.2 nt → InvK nt s →
    Calls Try.prog 22 #[.int .i64 id, .pointer (some ⟨p1, 0, none⟩), .pointer (some ⟨p2, 0, none⟩), .pointer (some ⟨p3, 0, none⟩), .pointer (some ⟨p4, 0, none⟩), .pointer (some ⟨p5, 0, none⟩)] w (WalkPost NT most kb g nt f s id w) := by
  intro f
  induction f with
  | zero => intro id h; omega
  | succ f ih =>
  intro id hf hid w s n hW hM hK hn hI
  have hW' := Lib.hid hW
  have hM' := Lib.hid hM
  have hK' := Lib.hid hK
  have hI' := Lib.hid hI
  have hc' := Lib.hid hc
  have hlook := hK.look (i := id) (by omega)
  obtain ⟨k0, kc, q0, q1, q2, f0, f2, -⟩ := hM.cells
  have c1 := hW.c1
  have c2 := hW.c2
  have c3 := hW.c3
  cases hki : s.2 id with
  | some y =>
    rw [hki] at hlook
    have hy := hI.ins id y hki
    have hw : Hid (WalkP NT most (f + 1) s id s y) := .inl ⟨hki, rfl⟩
    clear hW hM hK hI hki ih
    dsimp only [Option.getD, Option.isSome] at hlook
    go_enter Try.func22, Try.ntmps22
    go_wp2_with fail
    go_ret
    exact ⟨s, y, n, rfl, hw.out, hM'.out, hK'.out, hn, hI'.out, ⟨Nat.le_refl _, hy.1, hy.2⟩, fun _ _ => rfl, But.refl _ _ _⟩
  | none =>
  rw [hki] at hlook
  dsimp only [Option.getD, Option.isSome] at hlook
  by_cases he : s.1.e = 0
  case neg =>
    have d : (s.1.e != 0) = true := by simpa using he
    have hw : Hid (WalkP NT most (f + 1) s id s 0) := .inr (.inl ⟨hki, he, rfl, rfl⟩)
    have h2 := hI.chk.two
    clear hW hM hK hI hki he ih
    go_enter Try.func22, Try.ntmps22
    go_wp2_with fail
    go_ret
    exact ⟨s, 0, n, rfl, hw.out, hM'.out, hK'.out, hn, hI'.out, ⟨Nat.le_refl _, Int.le_refl _, by omega⟩, fun _ _ => rfl, But.refl _ _ _⟩
  have d : (s.1.e != 0) = false := by rw [he]; rfl
  have he' := Lib.hid he
  have hki' := Lib.hid hki
  have hst := hc.all id hid
  have hl0 := hst.len0
  have hl3 := hst.len3
  obtain ⟨m, hlm⟩ : ∃ m : Nat, (NT id).len = m := ⟨(NT id).len.toNat, by omega⟩
  obtain ⟨n0, n1, n2, n3, n4, n5, n6, n7⟩ := hW.nd id hid
  rw [hlm] at n1
  have hmk : ∀ W : World, (Instr.makeSlice 25 (.int .i64 0) (.int .i64 3)).run Try.prog W = .ok (.slice (some ⟨W.heap.size, 0, none⟩) 0 3) (W.alloc (.cells #[.int .i64 0, .int .i64 0, .int .i64 0] 3)) := fun _ => by kernel_rfl
  have hal : Try.prog.arrayLen 37 = 3 := by kernel_rfl
  have hm0 : (0 : Int) ≤ (m : Int) := by omega
  have hm3 : (m : Int) ≤ 3 := by omega
  have hst' := Lib.hid hst
  have hlm' := Lib.hid hlm
  have hidn : (id : Int) < (nt : Int) := by omega
  have hid0 : (0 : Int) ≤ (id : Int) := by omega
  clear hW hM hK hI hki he hlm hst hl0 hl3
  go_enter Try.func22, Try.ntmps22
  go_wp2_with fail
  clear hlook q0 q1 q2 f0 f2 n0 n1 n2 n3 n4 n5 n6 n7 hmk hal d c1 c2 c3
  go_loopw [11, 41] (fun z i wr => ∃ j : Nat, j ≤ m ∧ i = .int .i64 j ∧ z = .slice (some ⟨w.heap.size + 1, 0, none⟩) j 3 ∧ Hid (WkI NT most kb g nt f s id w j wr)) (fun _ i _ => m - (intOf i).toNat)
  case atStart =>
    have h1 := wk_start w (NT id) (fun _ => 0)
    rw [hlm'.out] at h1
    exact ⟨0, Nat.zero_le _, rfl, rfl, s, n, fun _ => 0, rfl, hM'.out.below (((Below.refl _ _).alloc (Nat.le_refl _) _).alloc (by simp) _), hK'.out.below (((Below.refl w.heap.size w).alloc (Nat.le_refl _) _).alloc (by simp) _) hK'.out.lt, hn, hI'.out, ⟨Nat.le_refl _, fun i hi => absurd hi (Nat.not_lt_zero i)⟩, fun _ _ => rfl, But.of (((Below.refl w.heap.size w).alloc (Nat.le_refl _) _).alloc (by simp) _) _, h1.1, h1.2⟩
  case round =>
  obtain ⟨j, hj, rfl, rfl, hI1⟩ := hrel
  obtain ⟨s1, n1, V, hA1, hM1, hK1, hn1, hV1, ⟨hmo1, hVi1⟩, hkp1, hB1, hr1, hr2⟩ := hI1.out
  have hA1' := Lib.hid hA1
  have hM1' := Lib.hid hM1
  have hK1' := Lib.hid hK1
  have hV1' := Lib.hid hV1
  have hVi1' := Lib.hid hVi1
  have hkp1' := Lib.hid hkp1
  have hB1' := Lib.hid hB1
  have hr1' := Lib.hid hr1
  have hr2' := Lib.hid hr2
  have hW1 := Lib.hid (hW'.out.but hB1)
  have hgk : Hid (g < w.heap.size ∧ kb < w.heap.size) := ⟨hW'.out.lt.2.2.1, hW'.out.lt.2.1⟩
  clear hI1 hA1 hM1 hK1 hV1 hVi1 hkp1 hB1 hr1 hr2
  have c2 := hW1.out.c2
  have c4 := hW1.out.c4
  by_cases hlt : j < m
  · have i1 : decide ((j : Int) < (m : Int)) = true := decide_eq_true (by omega)
    have pa := hr1'.out.cell (i := 2 + j) (by omega)
    rw [ndF_arg _ (by omega)] at pa
    have hab := hc'.out.argB hid (k := j) (by rw [hlm'.out]; omega)
    obtain ⟨a, haa⟩ : ∃ a : Nat, (NT id).arg j = a := ⟨((NT id).arg j).toNat, by omega⟩
    rw [haa] at pa
    have hih := Lib.hid (ih a (by omega) (by omega) wr s1 n1 hW1.out hM1'.out hK1'.out hn1 hV1'.out)
    have hatn : Hid (((NT id).arg j).toNat = a) := by unfold Hid; omega
    have hal2 : Hid (a < id) := by unfold Hid; omega
    have hj0 : (0 : Int) ≤ (j : Int) := by omega
    have hjm : (j : Int) < (m : Int) := by omega
    clear hab haa
    go_wp2_with fail
    refine hih.out.mono ?_
    rintro e w4 ⟨s2, x, n2, rfl, hWk, hM2, hK2, hn2, hV2, ⟨hmo2, x0, x1⟩, hkp2, hB2⟩
    have hxR : R64 x := by have := hV2.bound hnt; unfold R64; omega
    have nm : ∀ {p : Nat}, w.heap.size ≤ p → p ∉ [g, kb] := fun h1 h => by
      have := hgk.out
      rcases List.mem_cons.1 h with h | h
      · omega
      · have := List.mem_singleton.1 h; omega
    have hr3 := Lib.hid (hr1'.out.of_block (hB2.block _ hr1'.out.lt (nm (Nat.le_refl _))))
    have hr4 := Lib.hid (hr2'.out.of_block (hB2.block _ hr2'.out.lt (nm (by omega))))
    have hI2 : Hid (∀ w5, Below w4.heap.size w4 w5 → w5.rowIs w.heap.size 39 8 (ndF (NT id)) → w5.rowIs (w.heap.size + 1) 3 3 (sF V j) →
        WkI NT most kb g nt f s id w (j + 1) (w5.setCell ⟨w.heap.size + 1, j, none⟩ (.int .i64 x))) := by
      intro w5 hb5 hra hrb
      have hlt4 : w.heap.size + 1 < w4.heap.size := by
        have := hr2'.out.lt
        have := hB2.size
        omega
      have hcs : ∀ k, k < w4.heap.size → k ≠ w.heap.size + 1 → (w5.setCell ⟨w.heap.size + 1, j, none⟩ (.int .i64 x)).heap[k]? = w4.heap[k]? := fun k h1 h2 => (Below.heap_setCell _ ⟨w.heap.size + 1, j, none⟩ _ _ h2).trans (hb5.block k h1)
      have hbs : But [w.heap.size + 1] w4.heap.size w4 (w5.setCell ⟨w.heap.size + 1, j, none⟩ (.int .i64 x)) := (But.of hb5 _).set (.inl (by simp)) _ _
      have hrs := hr4.out
      obtain ⟨crow, hcrow, hcsz, _⟩ := hrs
      refine ⟨s2, n2, fun i => if i = j then x else V i, hA1'.out.more (by rw [hatn.out]; exact hWk), ?_, ?_, hn2, hV2, ⟨Nat.le_trans hmo1 hmo2, fun i hi => ?_⟩, fun i hi => (hkp2 i (by have := hal2.out; omega)).trans (hkp1'.out i hi), ?_, ?_, ?_⟩
      · obtain ⟨v, hgv, hNv⟩ := hM2
        have hgl := lt_of_block hgv
        exact ⟨v, (hcs g hgl (by have := hgk.out; omega)).trans hgv, hNv.but hbs (fun k hk => by
          rw [List.mem_singleton.1 hk]
          exact ⟨crow, _, _, hcrow, by omega⟩)⟩
      · exact hK2.but hbs (by have := hgk.out; simp; omega)
      · dsimp only
        by_cases e : i = j
        · rw [if_pos e]; exact ⟨x0, x1⟩
        · rw [if_neg e]
          have := hVi1'.out i (by omega)
          omega
      · exact ((hB1'.out.next hB2 hB1'.out.size).next (But.of hb5 [g, kb]) (Nat.le_trans hB1'.out.size hB2.size)).set (.inr (by omega)) _ _
      · exact hra.setOther (by show w.heap.size ≠ w.heap.size + 1; omega) _
      · have := hrb.set j (.int .i64 x)
        rw [sF_more] at this
        exact this
    have hb5 := Lib.hid ((Below.refl w4.heap.size w4).alloc (Nat.le_refl _) (.cells #[.int .i64 x] 3))
    have hra := Lib.hid (hr3.out.alloc (.cells #[.int .i64 x] 3))
    have hrb := Lib.hid (hr4.out.alloc (.cells #[.int .i64 x] 3))
    have hG5 : (w4.alloc (.cells #[.int .i64 x] 3)).cell? ⟨w4.heap.size, 0, none⟩ = some (.int .i64 x) := by simp
    generalize hw5 : w4.alloc (.cells #[.int .i64 x] 3) = w5 at *
    have hI3 := Lib.hid (hI2.out w5 hb5.out hra.out hrb.out)
    clear hWk hM2 hK2 hV2 hkp2 hB2 hI2 hih pa c2 c4
    go_wp2_with (at_builtin; refine wpList_appR rfl _ _ rfl (w.heap.size + 1) j w4.heap.size 1 _ x rfl rfl hrb.out hG5 (by omega) ?_)
    clear hw5
    go_wp2_with fail
    go_roundw
    case rel => exact ⟨j + 1, by omega, by go_num, rfl, hI3.out⟩
    case measure => simp [intOf]; omega
  · have i1 : decide ((j : Int) < (m : Int)) = false := decide_eq_false (by omega)
    obtain rfl : j = m := by omega
    have hmm : (NT id).len.toNat = j := by rw [hlm'.out]; simp
    obtain ⟨_, _, -, -, z2, -, -, -⟩ := hM1'.out.cells
    have hA2 : Hid (ArgsP (WalkP NT most f) (NT id) (NT id).len.toNat s s1 V) := by unfold Hid; rw [hmm]; exact hA1'.out
    clear ih hlt
    by_cases he1 : s1.1.e = 0
    case neg =>
      have d2 : (s1.1.e != 0) = true := by simpa using he1
      have hw : Hid (WalkP NT most (f + 1) s id s1 0) := .inr (.inr ⟨hki'.out, he'.out, s1, V, hA2.out, .inl ⟨he1, rfl, rfl⟩⟩)
      have h2 := hV1'.out.chk.two
      clear he1 c4
      go_wp2_with fail
      go_ret
      exact ⟨s1, 0, n1, rfl, hw.out, hM1'.out, hK1'.out, hn1, hV1'.out, ⟨hmo1, Int.le_refl _, by omega⟩, fun i hi => hkp1'.out i (by omega), hB1'.out⟩
    have d2 : (s1.1.e != 0) = false := by rw [he1]; rfl
    obtain ⟨o, ho, ho14, hty⟩ := op_nat hst'.out
    have hl0 := hst'.out.len0
    have hl3 := hst'.out.len3
    have hVR : ∀ i, i < j → R64 (V i) := fun i hi => by
      have := hVi1'.out i hi
      have := hV1'.out.bound hnt
      unfold R64; omega
    have hWay : WayH wr.drew g most s1.1 (NT id) (.slice (some ⟨w.heap.size + 1, 0, none⟩) j 3) V :=
      ⟨hM1'.out.drew, he1, hV1'.out.chk, by have := hV1'.out.bound hnt; omega, hm, hR id hid, by rw [hmm]; exact IntsAt.of_row hr2'.out.drew (by omega) (by omega) hVR (fun i hi => by unfold sF; rw [if_pos hi]) 3,
        by rw [hmm]; exact hVi1'.out, ⟨hl0, hl3⟩, hty, fun b o n c e => by
          injection e with e1 _ _
          injection e1 with e1
          injection e1 with e1
          have := hgk.out
          omega⟩
    have hC := Lib.hid (Way_any hWay (by have := ho14; omega))
    have hent := wayK_ent (o : Int)
    unfold EntK at hent
    have c5 := hW1.out.c5 o ho14
    have cn : ∀ i v, i < 8 → ndF (NT id) i = v → wr.cell? ⟨w.heap.size, i, none⟩ = some v := fun i v hi hv => by rw [← hv]; exact hr1'.out.cell hi
    have m0 := cn 0 (.int .i8 o) (by omega) (by rw [← ho]; rfl)
    have m1 := cn 1 (.int .i8 j) (by omega) (by rw [← hlm'.out]; rfl)
    have m2 := cn 2 (.int .i64 (NT id).a0) (by omega) rfl
    have m3 := cn 3 (.int .i64 (NT id).a1) (by omega) rfl
    have m4 := cn 4 (.int .i64 (NT id).a2) (by omega) rfl
    have m5 := cn 5 (.int .i64 (NT id).sort) (by omega) rfl
    have m6 := cn 6 (.int .i64 (NT id).fn) (by omega) rfl
    have m7 := cn 7 (.int .i64 (NT id).num) (by omega) rfl
    have hgr := Lib.hid (fun s' x (h : WayR most s1.1 (NT id) V s' x) => h.grow hV1'.out.chk he1 (by rw [hmm]; exact hVi1'.out) hty)
    have ho0 : (0 : Int) ≤ (o : Int) := by omega
    have ho13 : (o : Int) < 14 := by omega
    have he1' := Lib.hid he1
    rw [ho] at hC
    unfold ndV at hC
    rw [ho, hlm'.out] at hC
    clear hWay hty hVR he1 cn hl0 hl3 ho c4
    go_upto_region 13 with fail
    go_still_tail 7, (by kernel_rfl)
    change wpList _ _ _ _ _ wr.drew
    go_wp2_with fail
    refine hC.out.mono ?_
    rintro e w7 ⟨s', x, rfl, hWR, hM7, hB7⟩
    have g7 := Lib.hid (hgr.out s' x hWR)
    have hK7 := hK1'.out.but (w' := w7) ((But.of (Below.refl _ _).drew [g]).next hB7 (Nat.le_refl _)) (by have := hW1.out.sep.1.2.2.2.2.2.2; simp; exact this)
    have hxR : R64 x := by
      have := g7.out.x0; have := g7.out.x1; have := g7.out.st.size; have := hV1'.out.bound hnt
      unfold R64; omega
    have hB7' : But [g, kb] wr.heap.size wr w7 := ((But.of (Below.refl _ _).drew [g]).next hB7 (Nat.le_refl _)).mono (Nat.le_refl _) (fun y hy => by simp at hy; simp [hy])
    have k1 := (hW1.out.but hB7').c1
    obtain ⟨w8, hrun, hK8, hB8⟩ := hK7.store (i := id) (x := x) (by have := cntK_le s1.2 nt; unfold maxLen; omega) (by omega) hxR
    have hki1 : s1.2 id = none := (hkp1'.out id (Nat.le_refl _)).trans hki'.out
    have hM8 := Lib.hid (hM7.past hB8 (fun e => hW1.out.sep.1.2.2.2.2.2.2 e.symm) hK7.none)
    have hw : Hid (WalkP NT most (f + 1) s id (s', updK s1.2 id x) x) := .inr (.inr ⟨hki'.out, he'.out, s1, V, hA2.out, .inr ⟨he1'.out, s', hWR, rfl⟩⟩)
    have hV8 := Lib.hid (hV1'.out.step hid hki1 g7.out)
    have hK8' := Lib.hid hK8
    have hn8 : Hid (n1 + 1 ≤ cntK (updK s1.2 id x) nt) := by unfold Hid; rw [cntK_upd hki1 hid]; omega
    have hB9 := Lib.hid ((hB1'.out.next hB7' hB1'.out.size).next (hB8.mono (Nat.le_refl _) (fun y hy => by simp at hy; simp [hy])) (Nat.le_trans hB1'.out.size hB7'.size))
    have hkp8 : Hid (∀ i, id < i → updK s1.2 id x i = s.2 i) := fun i hi => by unfold updK; rw [if_neg (by omega)]; exact hkp1'.out i (by omega)
    have hxx : Hid (s.1.n ≤ s'.n ∧ 0 ≤ x ∧ x < s'.n) := ⟨Nat.le_trans hmo1 g7.out.st.more, g7.out.x0, g7.out.x1⟩
    clear hWR hM7 hB7 hK7 hB7' hK8 hB8 hki1 hC hent m0 m1 m2 m3 m4 m5 m6 m7 c5
    go_wp2_with fail
    go_ret
    exact ⟨(s', updK s1.2 id x), x, n1 + 1, rfl, hw.out, hM8.out, hK8'.out, hn8.out, hV8.out, hxx.out, hkp8.out, hB9.out⟩
end Go.Proofs.Ytecmoahadckomaa
