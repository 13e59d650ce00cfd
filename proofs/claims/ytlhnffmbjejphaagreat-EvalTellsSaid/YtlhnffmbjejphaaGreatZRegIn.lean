/- A region that draws, inside a loop's round, walked once over a class of worlds; one number appended there. -/
import Derived.Test.YtlhnffmbjejphaaGreatZTailIn
import Derived.Test.YtlhnffmbjejphaaGreatZIntsToSame10
import Derived.Test.YtlhnffmbjejphaaGreatZOwn
import Derived.OwnWalkIn
namespace Go.Proofs.YtlhnffmbjejphaaGreat
open Go.RowKit
set_option maxRecDepth 100000

section
variable {F : Fence} {n : Nat} {P : Program} {ops : Array Oper} {md : Region.Mode} {w : World} {C : World → Prop}
theorem wpOpIn_of_qOp {i : Nat} {a : Act} {K : Act → Prop} {K' : Act → World → Prop} {Q' : Exit → Act → World → Prop} (hF : WideF F P) (hrd : headPlain ops ops.size = true) (hw : C w) (h : ∀ a w', C w' → K a → K' a w') (hh : qOp P ops C i K a) :
    wpOpIn F n P ops Q' i K' a w := by
  unfold qOp at hh
  unfold wpOpIn
  split
  · rename_i ho; simp only [ho] at hh; exact h _ _ hw hh
  · rename_i o ho
    have hi : i < ops.size := (Array.getElem?_eq_some_iff.1 ho).1
    have hr := List.all_eq_true.1 hrd i (List.mem_range.2 hi)
    simp only [ho] at hh hr
    have hab : ∀ f, o.about P w a.eval = some f → F.fn f := fun f _ => hF.fn f
    split
    · rename_i hwt
      simp only [hwt, if_true] at hh
      obtain ⟨v, h1, h2⟩ := hh
      have h3 := h1 w hw
      unfold Oper.wpIn
      refine ⟨hab, ?_⟩
      rw [Oper.semAt_eq _ _ _ (fun c e => by unfold noDefer at hr; rw [e] at hr; cases hr)]
      unfold Oper.quietAt at h3
      generalize (execOp a.eval o).run P w = r at *
      cases r with
      | ok x w' =>
        cases x <;> simp only [Oper.quietUpon] at h3 <;> simp only [Oper.uponIn]
        case value u => rw [h3.1, h3.2]; exact h _ _ hw h2
        case skip => rw [h3.1]; rw [h3.2] at h2; exact h _ _ hw h2
        case enter f args =>
          obtain ⟨rfl, hc⟩ := h3
          refine ⟨fun e => (by rw [hF.depth] at e; cases e), (hF.calls _ _ _ _ _ hc).mono ?_⟩
          rintro e w'' ⟨rfl, hC⟩
          exact h _ _ hC h2
      | halt x w' => simp only [Oper.quietUpon] at h3
    · rename_i hwt; simp only [hwt] at hh; exact ⟨hab, h _ _ hw hh⟩
theorem wpAnyIn_of_quietW {Q : Act → Prop} {Q' : Exit → Act → World → Prop} (hF : WideF F P) (hrd : headPlain ops ops.size = true) (hQ : ∀ a w, C w → Q a → Q' .normal a w) : ∀ (fuel : Nat) (listed : Array Bool) (a : Act) (w : World), C w →
    wpAnyQ P md ops C Q fuel listed a → wpAnyIn F n P md ops Q' fuel listed a w
  | 0, _, _, _, hw, h => ⟨h.1, hQ _ _ hw h.2⟩
  | fuel + 1, _, _, _, hw, h => ⟨fun h0 => hQ _ _ hw (h.1 h0), fun i hi => wpOpIn_of_qOp hF hrd hw (fun a' w' hw' => wpAnyIn_of_quietW hF hrd hQ fuel _ a' w' hw') (h.2 i hi)⟩
theorem region_cls_in {id : Nat} {Q : Exit → Act → World → Prop} {a : Act} {w : World} {l : List Oper} (C : World → Prop) (hF : WideF F P) (hm : P.follows .mixedOrders = true) (hB : (Region.lexB .any l.toArray && headPlain l.toArray l.length) = true) (hC : C w.drew)
    (h : wpQuiet P l.toArray C (fun a' => ∀ w', C w' → Q .normal a' w') l a) : (Code.region id l.toArray true).wpIn F n P Q a w := by
  rw [Bool.and_eq_true] at hB
  obtain ⟨hB, hrd⟩ := hB
  simp only [Region.lexB, Bool.and_eq_true] at hB
  refine wpIn_region_any hm (wpAnyIn_of_quietW (Q := fun a' => ∀ w', C w' → Q .normal a' w') hF (by simpa using hrd) (fun _ w' hw' h => h w' hw') _ _ _ _ hC ?_)
  have := wpAnyQ_lex (P := P) (C := C) (md := .any) hB.1 l 0 (Array.replicate l.toArray.size false) a (by simp) (by simpa using hB.2) h
  simpa using this
end
theorem wpListIn_app1 {F : Fence} {n : Nat} {P : Program} (hP : P = Tryz.prog) {w : World} {ops : Array Oper} {rest : List Oper} {o : Oper} {a : Act} {Q : Exit → Act → World → Prop} (hgd : o.guard = none) (s x : Operand)
    (ho : o.op = .call { callee := .builtin .append, args := #[s, x], argTypes := #[27, 27] })
    (base : Nat) (v : Value) (xs : List Int) (k : Int) (hs : a.eval s = v) (hown : OwnL w base v xs) (g c : Nat) (hx : a.eval x = .slice (some ⟨g, 0, none⟩) 1 c) (hc : w.cell? ⟨g, 0, none⟩ = some (.int .i64 k))
    (hlen : xs.length ≤ 1000000) (hb : base ≤ w.heap.size)
    (h : ∀ v' w', OwnL w' base v' (xs ++ [k]) → Below base w w' → w.grownBy w' v.ownBlock → wpListIn F n P ops Q rest (a.put o.dst v') w') : wpListIn F n P ops Q (o :: rest) a w := by
  subst hP
  obtain ⟨i0, hi, hz0, hz1, hz2⟩ := info_parts info_int
  refine wpListIn_append_own w hgd s x 27 ho base 3 i0 (.int .i64 0) 1 8 Tryz.underlying27 hi hz0 hz1 hz2 rfl (by decide) v xs.length _ hs hown ⟨g, 0, none⟩ 1 c [.int .i64 k] hx rfl ?_ ?_ ?_ ?_ hb ?_
  · intro j u hu
    cases j with
    | zero => simp at hu; subst hu; exact hc
    | succ j => simp at hu
  · intro u hu; simp at hu; subst hu; rfl
  · unfold maxLen; omega
  · omega
  · intro v' w' h1 h2 _
    refine h v' w' ?_ ((Below.refl base w).grown h2 hb (fun k hk => (World.ownsRow.lt hown k hk).1)) h2
    show World.ownsRow _ _ _ _ _ _ _
    rw [List.length_append, List.map_append]
    exact h1
end Go.Proofs.YtlhnffmbjejphaaGreat
