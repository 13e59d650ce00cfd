/- Maps of the call's own that keep a set: keyed by strings, by a name and a bool. -/
import Derived.Test.YtlhnffmbjejphaaGreatZSigMToSigA
import Derived.Maps.OwnSet
import Derived.DeepKeys5
import Derived.BigFrame
namespace Go.Proofs.YtlhnffmbjejphaaGreat
open Go.RowKit Go.Maps
open Go.ChangeMaps (setBlock)
set_option maxRecDepth 100000

theorem laidOutT : laidOutB Tryz.prog = true := by kernel_rfl
theorem str_keyed : Keyed Tryz.prog 9 := string_keyed Tryz.underlying9
theorem name_keyed : Keyed Tryz.prog 134 :=
  Keyed.of_law (deep_law_gate laidOutT (of_decide_eq_true (by kernel_rfl)) (of_decide_eq_true (by kernel_rfl)) (by kernel_rfl) (by kernel_rfl))
theorem key_str {s : ByteArray} (h : StrR s) : keyOf Tryz.prog 9 (.string s) = some (.string s.data.toList) := WideMaps.keyOf_string_mk Tryz.underlying9 h
def nmL (i : ByteArray × Bool) : Lit := .string (keyBytes [.string i.1.data.toList, .bool i.2])
theorem key_name {i : ByteArray × Bool} (h : StrR i.1) : keyOf Tryz.prog 134 (.agg #[.string i.1, .bool i.2]) = some (nmL i) := by
  have hkt : Tryz.prog.keyType 134 = true := by kernel_rfl
  have hC : Tryz.prog.cellsOf 134 = 2 := by kernel_rfl
  have hC1 : Tryz.prog.cellsOf 9 = 1 := by kernel_rfl
  have hC2 : Tryz.prog.cellsOf 4 = 1 := by kernel_rfl
  obtain ⟨m, hm⟩ : ∃ m, Tryz.prog.types.size = m + 1 := ⟨Tryz.prog.types.size - 1, by
    have : 0 < Tryz.prog.types.size := of_decide_eq_true (by kernel_rfl)
    omega⟩
  have h' : i.1.size ≤ maxLen := h
  unfold keyOf
  simp only [Tryz.underlying134]
  rw [if_pos (by simp [hkt, Value.formed, Tryz.underlying134, hC]), hm]
  unfold Program.keyLits
  simp only [Tryz.underlying134, Value.cells]
  rw [if_pos (by rw [hC]; exact ⟨rfl, by kernel_rfl⟩)]
  simp [hC1, hC2, Program.keyLits, Tryz.underlying9, Tryz.underlying4, h', nmL]

/-- How the index i is a key. -/
structure KeyI {I : Type} (k t : TypeId) (kv : I → Value) (kf : I → Lit) (ok : I → Prop) : Prop where
  law : Keyed Tryz.prog k
  und : Tryz.prog.underlying t = some (.map k 4)
  key : ∀ i, ok i → keyOf Tryz.prog k (kv i) = some (kf i)
  inj : ∀ i j, kv i = kv j → i = j
theorem KeyI.injf {I : Type} {k t : TypeId} {kv : I → Value} {kf : I → Lit} {ok : I → Prop} (K : KeyI k t kv kf ok) {i j : I} (hi : ok i) (hj : ok j) (h : kf i = kf j) : i = j :=
  K.inj i j (K.law.inj (K.key i hi) (by rw [K.key j hj, h]))
def SetAt {I : Type} (k : TypeId) (kf : I → Lit) (ok : I → Prop) (w : World) (b n : Nat) (S : I → Bool) : Prop :=
  ∃ D : DataW Unit, w.ownsMap Tryz.prog k (plainElem Tryz.prog 4) b n D ∧ ∀ i, ok i → D.atKey (kf i) (.lit (.bool false)) = .lit (.bool (S i))
theorem zero_boolK (w : World) : (zeroValue 4).run Tryz.prog w = .ok (.bool false) w := by kernel_rfl
theorem plainElem_boolK {H : Type} {P : Program} {e : TypeId} (he : P.underlying e = some .bool) {v : Value} {z : DataW H × List MemPlace} (h : plainElem P e v = some z) : ∃ x, v = .bool x ∧ z = (.lit (.bool x), []) := by
  unfold plainElem at h
  rw [he] at h
  cases v <;> simp at h
  exact ⟨_, rfl, h.symm⟩
section
variable {I : Type} {k t : TypeId} {kv : I → Value} {kf : I → Lit} {ok : I → Prop} {w w' : World} {b n : Nat} {S : I → Bool}
theorem SetAt.made (w : World) : SetAt k kf ok (w.alloc (.map #[] 0)) w.heap.size 0 (fun _ => false) := ⟨.map [], World.ownsMap_made _ _ _ _, fun _ _ => rfl⟩
theorem SetAt.lt (h : SetAt k kf ok w b n S) : b < w.heap.size := by obtain ⟨D, h, _⟩ := h; exact h.lt
theorem SetAt.kept {row : Option Nat} (h : SetAt k kf ok w b n S) (hg : w.grownBy w' row) (hne : some b ≠ row) : SetAt k kf ok w' b n S := by
  obtain ⟨D, h, hS⟩ := h
  exact ⟨D, h.kept hg hne, hS⟩
theorem SetAt.alloc (h : SetAt k kf ok w b n S) (o : Obj) : SetAt k kf ok (w.alloc o) b n S := h.kept (World.grownBy_alloc w o none) (by simp)
theorem SetAt.below {B : Nat} (h : SetAt k kf ok w b n S) (hb : Below B w w') (hB : b < B) : SetAt k kf ok w' b n S := by
  obtain ⟨D, ⟨es, clock, h1, h2⟩, hS⟩ := h
  exact ⟨D, ⟨es, clock, (hb.block b hB).trans h1, h2⟩, hS⟩
theorem SetAt.congr {S' : I → Bool} (h : SetAt k kf ok w b n S) (e : ∀ x, ok x → S x = S' x) : SetAt k kf ok w b n S' := by
  obtain ⟨D, h, hS⟩ := h
  exact ⟨D, h, fun x hx => by rw [hS x hx, e x hx]⟩
theorem SetAt.more (h : SetAt k kf ok w b n S) {m : Nat} (hm : n ≤ m) : SetAt k kf ok w b m S := by
  obtain ⟨D, h, hS⟩ := h
  exact ⟨D, h.mono hm, hS⟩
theorem SetAt.look (K : KeyI k t kv kf ok) (h : SetAt k kf ok w b n S) {i : I} (hi : ok i) : (Instr.lookup t (.map (some b)) (kv i) false).run Tryz.prog w = .ok (.bool (S i)) w := by
  obtain ⟨D, ho, hS⟩ := h
  obtain ⟨v, ps, hrun, hv⟩ := ho.lookup K.law K.und (zero_boolK w) (plainElem_bool Tryz.underlying4 false) (K.key i hi)
  obtain ⟨y, rfl, h2⟩ := plainElem_boolK Tryz.underlying4 hv
  rw [hS i hi] at h2
  simp only [Prod.mk.injEq, DataW.lit.injEq, Lit.bool.injEq] at h2
  rw [hrun, h2.1]
theorem SetAt.store (K : KeyI k t kv kf ok) (h : SetAt k kf ok w b n S) (hn : n < maxLen) {i : I} (hi : ok i) {S' : I → Bool} (h1 : S' i = true) (h2 : ∀ j, j ≠ i → S' j = S j) :
    ∃ w', (Instr.mapUpdate t (.map (some b)) (kv i) (.bool true)).run Tryz.prog w = .ok () w' ∧ SetAt k kf ok w' b (n + 1) S' ∧ w.grownBy w' (some b) := by
  obtain ⟨D, ho, hS⟩ := h
  obtain ⟨w', hrun, g1, g2⟩ := ho.update K.law K.und hn (K.key i hi) (plainElem_bool Tryz.underlying4 true)
  refine ⟨w', hrun, ⟨_, g1, fun j hj => ?_⟩, g2⟩
  by_cases e : kf j = kf i
  · have := K.injf hj hi e
    subst this
    rw [atKey_put_same ho.isMap (K.law.key (K.key j hi)), h1]
  · rw [atKey_put_other e, hS j hj, h2 j (fun h => e (by rw [h]))]
theorem wpList_setK {ops : Array Oper} {rest : List Oper} {o : Oper} {a : Act} {Q : Exit → Act → World → Prop} (K : KeyI k t kv kf ok) (hg : o.guard = none) (m x v : Operand) (hop : o.op = Op.mapUpdate t m x v)
    (b n : Nat) (S S' : I → Bool) (hm : a.eval m = .map (some b)) (h : SetAt k kf ok w b n S) (hn : n < maxLen) (i : I) (hx : a.eval x = kv i) (hv : a.eval v = .bool true) (hi : ok i) (h1 : S' i = true) (h2 : ∀ j, j ≠ i → S' j = S j)
    (hK : ∀ w', SetAt k kf ok w' b (n + 1) S' → w.grownBy w' (some b) → wpList Tryz.prog ops Q rest (a.put o.dst undef) w') :
    wpList Tryz.prog ops Q (o :: rest) a w := by
  refine wpList_plain hg fun K' hK' => ?_
  obtain ⟨w', hrun, r1, r2⟩ := h.store K hn hi h1 h2
  unfold Oper.wp
  simp [execOp, hop, hm, hx, hv, hrun, Result.andThen]
  exact hK' _ _ (hK w' r1 r2)
/-- A store at a key that is not there, into a block that is known whole. -/
theorem ins_run (K : KeyI k t kv kf ok) {es : Array MapEntry} {clock : Nat} (hb : w.heap[b]? = some (.map es clock)) {i : I} (hi : ok i) (hes : ∀ e ∈ es.toList, ∃ j, ok j ∧ j ≠ i ∧ e.key = kv j) :
    (Instr.mapUpdate t (.map (some b)) (kv i) (.bool true)).run Tryz.prog w = .ok () (setBlock w b (.map (es.push ⟨kv i, .bool true, clock⟩) (clock + 1))) := by
  have hk : ∀ e ∈ es.toList, ∃ l, keyOf Tryz.prog k e.key = some l := fun e he => by
    obtain ⟨j, hj, _, hje⟩ := hes e he
    exact ⟨_, by rw [hje]; exact K.key j hj⟩
  have hne : ∀ e ∈ es.toList, e.key ≠ kv i := fun e he h => by
    obtain ⟨j, hj, hji, hje⟩ := hes e he
    exact hji (K.inj _ _ (by rw [← hje, h]))
  rcases K.law.find w (K.key i hi) es.toList hk with ⟨h1, _⟩ | ⟨j, e0, _, h2, h3⟩
  · simp [Instr.mapUpdate, run_underlying K.und, MapKept.run_getObj_map hb, K.law.check w false (K.key i hi), h1, MapKept.run_setObj_map _ hb, Result.andThen, setBlock]
  · exact absurd h3 (hne e0 (List.mem_of_getElem? h2))
end

def strV (s : ByteArray) : Value := .string s
def strL (s : ByteArray) : Lit := .string s.data.toList
def nameV (i : ByteArray × Bool) : Value := .agg #[.string i.1, .bool i.2]
def okS (s : ByteArray) : Prop := StrR s
def okN (i : ByteArray × Bool) : Prop := StrR i.1
theorem strK : KeyI 9 168 strV strL okS := ⟨str_keyed, Tryz.underlying168, fun _ h => key_str h, fun _ _ h => by unfold strV at h; injection h⟩
theorem nameK : KeyI 134 135 nameV nmL okN := ⟨name_keyed, Tryz.underlying135, fun _ h => key_name h, fun i j h => by
  obtain ⟨a, b⟩ := i
  obtain ⟨c, d⟩ := j
  unfold nameV at h
  injection h with h
  simp at h
  rw [h.1, h.2]⟩
end Go.Proofs.YtlhnffmbjejphaaGreat
