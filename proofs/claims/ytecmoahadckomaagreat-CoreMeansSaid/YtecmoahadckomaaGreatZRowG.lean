/- Rows of the call's own that read as strings, functions, macros; append onto them. -/
import Derived.Test.YtecmoahadckomaaGreatZSigMToFirst
import Derived.Test.YtecmoahadckomaaGreatZOwn
import Derived.Laws.OwnMore
namespace Go.Proofs.YtecmoahadckomaaGreat
open Go.RowKit
set_option maxRecDepth 100000

theorem info_str : (Tryz.prog.info? 9).map (fun i => (i.zero, i.size, i.bytes)) = some (some (.string ByteArray.empty), 1, 16) := by kernel_rfl
theorem OwnG.row {w : World} {base s n : Nat} {e : TypeId} {v : Value} {g : Nat → List Value} {C : World → Nat → Nat → Nat → Prop} (h : OwnG w base e s v n g) (hs : ∀ i, (g i).length = s)
    (hC : ∀ b o i, i < n → (∀ r u, (g i)[r]? = some u → w.cell? ⟨b, o + r, none⟩ = some u) → C w b o i) : RowAt s C w v n := by
  have hcap : ∃ A c, v = .slice A n c ∧ n ≤ c ∧ c ≤ 9223372036854775807 := by
    rcases h.2 with ⟨rfl, h0⟩ | ⟨b, cap, cur, rfl, _, hm, hnc, _⟩
    · exact ⟨none, 0, by rw [h0], by omega, by omega⟩
    · exact ⟨_, _, rfl, by assumption, by first | exact hm | (unfold maxLen at *; omega)⟩
  obtain ⟨A, c, rfl, hc1, hc2⟩ := hcap
  obtain ⟨A', c', e', _, hc⟩ := h.at_ hs
  injection e' with e1 _ e3
  subst e1; subst e3
  refine ⟨_, _, rfl, ⟨hc1, hc2⟩, fun h0 => ?_⟩
  obtain ⟨b, o, rfl, hb, hcell⟩ := hc h0
  refine ⟨b, o, rfl, hb, fun i hi => hC b _ i hi fun r u hu => ?_⟩
  rw [Nat.add_assoc]
  exact hcell i hi r u hu
def strC (S : Nat → ByteArray) (i : Nat) : List Value := [.string (S i)]
theorem OwnG.strs {w : World} {base n : Nat} {v : Value} {S : Nat → ByteArray} (h : OwnG w base 9 1 v n (strC S)) (hS : ∀ i, i < n → StrR (S i)) : StrsAt w v n S :=
  OwnG.row h (fun _ => rfl) fun _ _ i hi hc => ⟨hc 0 _ rfl, hS i hi⟩
theorem StrsAt.sl {w : World} {v : Value} {n : Nat} {S : Nat → ByteArray} (h : StrsAt w v n S) : SlAt w 1 v n (strC S) := by
  obtain ⟨A, c, rfl, _, hc⟩ := h
  refine ⟨A, c, rfl, fun _ => rfl, fun h0 => ?_⟩
  obtain ⟨b, o, rfl, hb, hc⟩ := hc h0
  refine ⟨b, o, rfl, hb, fun i hi r u hu => ?_⟩
  cases r with
  | zero =>
    simp [strC] at hu
    subst hu
    have := (hc i hi).1
    simpa using this
  | succ r => simp [strC] at hu
theorem wpList_appS {P : Program} (hP : P = Tryz.prog) {w : World} {ops : Array Oper} {rest : List Oper} {o : Oper} {a : Act} {Q : Exit → Act → World → Prop} (hgd : o.guard = none) (p q : Operand)
    (ho : o.op = .call { callee := .builtin .append, args := #[p, q], argTypes := #[22, 22] }) (base : Nat) (v : Value) (n : Nat) (S : Nat → ByteArray) (hp : a.eval p = v) (hown : OwnG w base 9 1 v n (strC S))
    (x : Value) (m : Nat) (S' : Nat → ByteArray) (hq : a.eval q = x) (hx : StrsAt w x m S') (hn : n + m ≤ 1000000) (hb : base ≤ w.heap.size)
    (h : ∀ v' w', OwnG w' base 9 1 v' (n + m) (strC fun i => if i < n then S i else S' (i - n)) → Below base w w' → w.grownBy w' v.ownBlock → wpList P ops Q rest (a.put o.dst v') w') : wpList P ops Q (o :: rest) a w := by
  subst hP
  obtain ⟨i0, hi, hz0, hz1, hz2⟩ := info_parts info_str
  refine wpList_append_src (by simp [Region.wanted, hgd]) p q 22 ho i0 _ 16 Tryz.underlying22 hi hz0 hz1 hz2 rfl (by decide) hp hown x hq hx.sl ?_ (by unfold maxLen; omega) (by omega) hb ?_
  · intro i _ u hu
    simp [strC] at hu
    subst hu
    rfl
  · intro v' w' h1 h2 h3
    refine h v' w' (h1.congr fun i _ => ?_) h2 h3
    show (if i < n then [Value.string (S i)] else [Value.string (S' (i - n))]) = [Value.string (if i < n then S i else S' (i - n))]
    split <;> rfl
theorem own_lit (w : World) (base : Nat) (T : TypeId) (s n : Nat) (cs : Array Value) (g : Nat → List Value) (hb : base ≤ w.heap.size) (hm : n ≤ maxLen) (hs : cs.size = n * s) (hg : cs.toList = (List.range n).flatMap g) :
    OwnG (w.alloc (.cells cs T)) base T s (.slice (some ⟨w.heap.size, 0, none⟩) n n) n g := by
  have := World.ownsRow_lit (e := T) (size := s) w cs n hb hm hs
  unfold OwnG
  rw [← hg]
  exact this
end Go.Proofs.YtecmoahadckomaaGreat
