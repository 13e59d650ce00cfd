/- Words for memory: rows of strings, functions, expressions, macros; signatures. -/
import Derived.Test.YtecmoahadckomaaZIntsToNumW
import Derived.BigFrame
namespace Go.Proofs.Ytecmoahadckomaa
open Go.RowKit

def StrR (s : ByteArray) : Prop := s.size ≤ 9223372036854775807

/-- The slice value v reads, in w, as n rows of k cells, the i-th one as C says of its place. -/
def RowAt (k : Nat) (C : World → Nat → Nat → Nat → Prop) (w : World) (v : Value) (n : Nat) : Prop :=
  ∃ (A : Option Addr) (c : Nat), v = .slice A n c ∧ (n ≤ c ∧ c ≤ 9223372036854775807) ∧
    (0 < n → ∃ b o, A = some ⟨b, o, none⟩ ∧ b < w.heap.size ∧ ∀ i, i < n → C w b (o + i * k) i)

def Stays (C : World → Nat → Nat → Nat → Prop) : Prop := ∀ {w w' : World} {b o i : Nat}, C w b o i → b < w.heap.size → Below w.heap.size w w' → C w' b o i

theorem RowAt.below {k : Nat} {C : World → Nat → Nat → Nat → Prop} {w w' : World} {v : Value} {n : Nat} (hC : Stays C) (h : RowAt k C w v n) (hb : Below w.heap.size w w') : RowAt k C w' v n := by
  obtain ⟨A, c, rfl, hn, hc⟩ := h
  refine ⟨A, c, rfl, hn, fun h0 => ?_⟩
  obtain ⟨b, o, rfl, hlt, hc⟩ := hc h0
  exact ⟨b, o, rfl, Nat.lt_of_lt_of_le hlt hb.size, fun i hi => hC (hc i hi) hlt hb⟩
theorem RowAt.imp {k : Nat} {C D : World → Nat → Nat → Nat → Prop} {w : World} {v : Value} {n : Nat} (h : RowAt k C w v n) (hCD : ∀ b o i, i < n → C w b o i → D w b o i) : RowAt k D w v n := by
  obtain ⟨A, c, rfl, hn, hc⟩ := h
  refine ⟨A, c, rfl, hn, fun h0 => ?_⟩
  obtain ⟨b, o, rfl, hlt, hc⟩ := hc h0
  exact ⟨b, o, rfl, hlt, fun i hi => hCD _ _ _ hi (hc i hi)⟩
theorem RowAt.nil (k : Nat) (C : World → Nat → Nat → Nat → Prop) (w : World) : RowAt k C w (.slice none 0 0) 0 := ⟨none, 0, rfl, by omega, fun h => by omega⟩
theorem RowAt.pre {k : Nat} {C : World → Nat → Nat → Nat → Prop} {w : World} {A : Option Addr} {n c : Nat} (h : RowAt k C w (.slice A n c) n) {m : Nat} (hm : m ≤ n) (c' : Nat) (hc' : m ≤ c' ∧ c' ≤ 9223372036854775807) : RowAt k C w (.slice A m c') m := by
  obtain ⟨A', c1, e, hn, hc⟩ := h
  injection e with e1 _ _
  subst e1
  refine ⟨_, _, rfl, hc', fun h0 => ?_⟩
  obtain ⟨b, o, rfl, hb, hc⟩ := hc (by omega)
  exact ⟨b, o, rfl, hb, fun i hi => hc i (by omega)⟩

/-! Strings. -/
def StrIn (S : Nat → ByteArray) (w : World) (b o i : Nat) : Prop := w.cell? ⟨b, o, none⟩ = some (.string (S i)) ∧ StrR (S i)
def StrsAt (w : World) (v : Value) (n : Nat) (S : Nat → ByteArray) : Prop := RowAt 1 (StrIn S) w v n
theorem StrIn.stays (S : Nat → ByteArray) : Stays (StrIn S) := fun {_ _ b o _} h hb hw => ⟨(hw.cell (p := ⟨b, o, none⟩) hb).trans h.1, h.2⟩
theorem StrsAt.below {w w' : World} {v : Value} {n : Nat} {S : Nat → ByteArray} (h : StrsAt w v n S) (hb : Below w.heap.size w w') : StrsAt w' v n S := RowAt.below (StrIn.stays S) h hb

/-! Functions. -/
structure Fn where
  name : ByteArray
  len : Int
  a0 : Int
  a1 : Int
  a2 : Int
  res : Int
def Fn.arg (f : Fn) (i : Nat) : Int := match i with | 0 => f.a0 | 1 => f.a1 | _ => f.a2
structure FnR (f : Fn) : Prop where
  name : StrR f.name
  len : R64 f.len
  a0 : R64 f.a0
  a1 : R64 f.a1
  a2 : R64 f.a2
  res : R64 f.res
def fn0 : Fn := ⟨ByteArray.empty, 0, 0, 0, 0, 0⟩
theorem fn0_R : FnR fn0 := ⟨by unfold StrR; decide, ⟨by decide, by decide⟩, ⟨by decide, by decide⟩, ⟨by decide, by decide⟩, ⟨by decide, by decide⟩, ⟨by decide, by decide⟩⟩
def fnC (f : Fn) : List Value := [.string f.name, .int .i64 f.len, .int .i64 f.a0, .int .i64 f.a1, .int .i64 f.a2, .int .i64 f.res]
def fnV (f : Fn) : Value := .agg #[.string f.name, .int .i64 f.len, .int .i64 f.a0, .int .i64 f.a1, .int .i64 f.a2, .int .i64 f.res]
def FnLies (w : World) (b o : Nat) (f : Fn) : Prop :=
  w.cell? ⟨b, o, none⟩ = some (.string f.name) ∧ w.cell? ⟨b, o + 1, none⟩ = some (.int .i64 f.len) ∧ w.cell? ⟨b, o + 2, none⟩ = some (.int .i64 f.a0) ∧ w.cell? ⟨b, o + 3, none⟩ = some (.int .i64 f.a1) ∧
  w.cell? ⟨b, o + 4, none⟩ = some (.int .i64 f.a2) ∧ w.cell? ⟨b, o + 5, none⟩ = some (.int .i64 f.res)
theorem FnLies.keep {w w' : World} {b o : Nat} {f : Fn} (h : FnLies w b o f) (hk : ∀ j, w'.cell? ⟨b, j, none⟩ = w.cell? ⟨b, j, none⟩) : FnLies w' b o f := by
  obtain ⟨h0, h1, h2, h3, h4, h5⟩ := h
  exact ⟨(hk _).trans h0, (hk _).trans h1, (hk _).trans h2, (hk _).trans h3, (hk _).trans h4, (hk _).trans h5⟩
def FnIn (F : Nat → Fn) (w : World) (b o i : Nat) : Prop := FnLies w b o (F i) ∧ FnR (F i)
theorem FnIn.stays (F : Nat → Fn) : Stays (FnIn F) := fun {_ _ b _ _} h hb hw => ⟨h.1.keep fun j => hw.cell (p := ⟨b, j, none⟩) hb, h.2⟩
def FnsAt (w : World) (v : Value) (n : Nat) (F : Nat → Fn) : Prop := RowAt 6 (FnIn F) w v n
theorem FnsAt.below {w w' : World} {v : Value} {n : Nat} {F : Nat → Fn} (h : FnsAt w v n F) (hb : Below w.heap.size w w') : FnsAt w' v n F := RowAt.below (FnIn.stays F) h hb

/-! Parameters. -/
structure Pm where
  name : ByteArray
  sort : Int
def PmIn (Q : Nat → Pm) (w : World) (b o i : Nat) : Prop := (w.cell? ⟨b, o, none⟩ = some (.string (Q i).name) ∧ w.cell? ⟨b, o + 1, none⟩ = some (.int .i64 (Q i).sort)) ∧ StrR (Q i).name ∧ R64 (Q i).sort
theorem PmIn.stays (Q : Nat → Pm) : Stays (PmIn Q) := fun {_ _ b o _} h hb hw => ⟨⟨(hw.cell (p := ⟨b, o, none⟩) hb).trans h.1.1, (hw.cell (p := ⟨b, o + 1, none⟩) hb).trans h.1.2⟩, h.2⟩
def PmsAt (w : World) (v : Value) (n : Nat) (Q : Nat → Pm) : Prop := RowAt 2 (PmIn Q) w v n
theorem PmsAt.below {w w' : World} {v : Value} {n : Nat} {Q : Nat → Pm} (h : PmsAt w v n Q) (hb : Below w.heap.size w w') : PmsAt w' v n Q := RowAt.below (PmIn.stays Q) h hb

/-! Expressions. (nil: no expression, beyond a row's end.) -/
inductive Sx where
  | nil : Sx
  | mk (kind : Int) (text : ByteArray) (n : Nat) (l : Nat → Sx) : Sx
/-- The three values are the cells of the expression x. -/
def SxIs (w : World) : Sx → Value → Value → Value → Prop
  | .nil, _, _, _ => False
  | .mk k t n l, kv, tv, lv => (kv = .int .i8 k ∧ (-128 ≤ k ∧ k ≤ 127) ∧ tv = .string t ∧ StrR t) ∧
    ∃ (A : Option Addr) (c : Nat), lv = .slice A n c ∧ (n ≤ c ∧ c ≤ 9223372036854775807) ∧
      (0 < n → ∃ b o, A = some ⟨b, o, none⟩ ∧ b < w.heap.size ∧ ∀ i, i < n → ∃ k' t' l', w.cell? ⟨b, o + i * 3, none⟩ = some k' ∧ w.cell? ⟨b, o + i * 3 + 1, none⟩ = some t' ∧ w.cell? ⟨b, o + i * 3 + 2, none⟩ = some l' ∧ SxIs w (l i) k' t' l')
theorem SxIs.below {w w' : World} (hb : Below w.heap.size w w') : ∀ (x : Sx) (kv tv lv : Value), SxIs w x kv tv lv → SxIs w' x kv tv lv
  | .nil, _, _, _, h => h
  | .mk k t n l, kv, tv, lv, h => by
    obtain ⟨h1, A, c, h2, h3, h4⟩ := h
    refine ⟨h1, A, c, h2, h3, fun h0 => ?_⟩
    obtain ⟨b, o, hA, hlt, hc⟩ := h4 h0
    refine ⟨b, o, hA, Nat.lt_of_lt_of_le hlt hb.size, fun i hi => ?_⟩
    obtain ⟨k', t', l', c0, c1, c2, hx⟩ := hc i hi
    exact ⟨k', t', l', (hb.cell (p := ⟨b, o + i * 3, none⟩) hlt).trans c0, (hb.cell (p := ⟨b, o + i * 3 + 1, none⟩) hlt).trans c1, (hb.cell (p := ⟨b, o + i * 3 + 2, none⟩) hlt).trans c2, SxIs.below hb (l i) _ _ _ hx⟩
/-- A row of expressions. -/
def SxIn (X : Nat → Sx) (w : World) (b o i : Nat) : Prop := ∃ k' t' l', w.cell? ⟨b, o, none⟩ = some k' ∧ w.cell? ⟨b, o + 1, none⟩ = some t' ∧ w.cell? ⟨b, o + 2, none⟩ = some l' ∧ SxIs w (X i) k' t' l'
theorem SxIn.stays (X : Nat → Sx) : Stays (SxIn X) := fun {_ _ b o _} h hb hw => by
  obtain ⟨k', t', l', c0, c1, c2, hx⟩ := h
  exact ⟨k', t', l', (hw.cell (p := ⟨b, o, none⟩) hb).trans c0, (hw.cell (p := ⟨b, o + 1, none⟩) hb).trans c1, (hw.cell (p := ⟨b, o + 2, none⟩) hb).trans c2, SxIs.below hw _ _ _ _ hx⟩
def SxsAt (w : World) (v : Value) (n : Nat) (X : Nat → Sx) : Prop := RowAt 3 (SxIn X) w v n
theorem SxsAt.below {w w' : World} {v : Value} {n : Nat} {X : Nat → Sx} (h : SxsAt w v n X) (hb : Below w.heap.size w w') : SxsAt w' v n X := RowAt.below (SxIn.stays X) h hb
theorem SxIs.row {w : World} {k : Int} {t : ByteArray} {n : Nat} {l : Nat → Sx} {kv tv lv : Value} (h : SxIs w (.mk k t n l) kv tv lv) : kv = .int .i8 k ∧ (-128 ≤ k ∧ k ≤ 127) ∧ tv = .string t ∧ StrR t ∧ SxsAt w lv n l := by
  obtain ⟨⟨h1, h2, h3, h4⟩, A, c, h5, h6, h7⟩ := h
  exact ⟨h1, h2, h3, h4, A, c, h5, h6, h7⟩
theorem SxIs.mk {w : World} {k : Int} {t : ByteArray} {n : Nat} {l : Nat → Sx} {lv : Value} (h2 : -128 ≤ k ∧ k ≤ 127) (h4 : StrR t) (h5 : SxsAt w lv n l) : SxIs w (.mk k t n l) (.int .i8 k) (.string t) lv := by
  obtain ⟨A, c, h5, h6, h7⟩ := h5
  exact ⟨⟨rfl, h2, rfl, h4⟩, A, c, h5, h6, h7⟩

/-! Macros. -/
structure Mc where
  name : ByteArray
  np : Nat
  ps : Nat → Pm
  res : Int
  body : Sx
/-- The six values are the cells of the macro m. -/
def McIs (w : World) (m : Mc) (v0 v1 v2 v3 v4 v5 : Value) : Prop := v0 = .string m.name ∧ StrR m.name ∧ PmsAt w v1 m.np m.ps ∧ v2 = .int .i64 m.res ∧ R64 m.res ∧ SxIs w m.body v3 v4 v5
def McIn (M : Nat → Mc) (w : World) (b o i : Nat) : Prop := ∃ v0 v1 v2 v3 v4 v5, (w.cell? ⟨b, o, none⟩ = some v0 ∧ w.cell? ⟨b, o + 1, none⟩ = some v1 ∧ w.cell? ⟨b, o + 2, none⟩ = some v2 ∧ w.cell? ⟨b, o + 3, none⟩ = some v3 ∧ w.cell? ⟨b, o + 4, none⟩ = some v4 ∧ w.cell? ⟨b, o + 5, none⟩ = some v5) ∧ McIs w (M i) v0 v1 v2 v3 v4 v5
theorem McIs.below {w w' : World} {m : Mc} {v0 v1 v2 v3 v4 v5 : Value} (h : McIs w m v0 v1 v2 v3 v4 v5) (hb : Below w.heap.size w w') : McIs w' m v0 v1 v2 v3 v4 v5 := by
  obtain ⟨h0, h1, h2, h3, h4, h5⟩ := h
  exact ⟨h0, h1, h2.below hb, h3, h4, SxIs.below hb _ _ _ _ h5⟩
theorem McIn.stays (M : Nat → Mc) : Stays (McIn M) := fun {_ _ b o _} h hb hw => by
  obtain ⟨v0, v1, v2, v3, v4, v5, ⟨c0, c1, c2, c3, c4, c5⟩, hm⟩ := h
  exact ⟨v0, v1, v2, v3, v4, v5, ⟨(hw.cell (p := ⟨b, o, none⟩) hb).trans c0, (hw.cell (p := ⟨b, o + 1, none⟩) hb).trans c1, (hw.cell (p := ⟨b, o + 2, none⟩) hb).trans c2, (hw.cell (p := ⟨b, o + 3, none⟩) hb).trans c3, (hw.cell (p := ⟨b, o + 4, none⟩) hb).trans c4, (hw.cell (p := ⟨b, o + 5, none⟩) hb).trans c5⟩, hm.below hw⟩
def McsAt (w : World) (v : Value) (n : Nat) (M : Nat → Mc) : Prop := RowAt 6 (McIn M) w v n
theorem McsAt.below {w w' : World} {v : Value} {n : Nat} {M : Nat → Mc} (h : McsAt w v n M) (hb : Below w.heap.size w w') : McsAt w' v n M := RowAt.below (McIn.stays M) h hb

/-! Signatures. -/
structure Sg where
  ns : Nat
  S : Nat → ByteArray
  nf : Nat
  F : Nat → Fn
  nm : Nat
  M : Nat → Mc
def SgAt (w : World) (s f m : Value) (g : Sg) : Prop := StrsAt w s g.ns g.S ∧ FnsAt w f g.nf g.F ∧ McsAt w m g.nm g.M
theorem SgAt.below {w w' : World} {s f m : Value} {g : Sg} (h : SgAt w s f m g) (hb : Below w.heap.size w w') : SgAt w' s f m g := ⟨h.1.below hb, h.2.1.below hb, h.2.2.below hb⟩
theorem SgAt.alloc {w : World} {s f m : Value} {g : Sg} (h : SgAt w s f m g) (o : Obj) : SgAt (w.alloc o) s f m g := h.below ((Below.refl _ _).alloc (Nat.le_refl _) _)
theorem SgAt.drewN {w : World} {s f m : Value} {g : Sg} (h : SgAt w s f m g) (d : Nat) : SgAt (w.drewN d) s f m g := h.below (below_drewN (Below.refl _ _) d)
/-- No sorts, no functions, no macros. -/
def sg0 : Sg := ⟨0, fun _ => ByteArray.empty, 0, fun _ => fn0, 0, fun _ => ⟨ByteArray.empty, 0, fun _ => ⟨ByteArray.empty, 0⟩, 0, .nil⟩⟩
theorem SgAt.nil (w : World) : SgAt w (.slice none 0 0) (.slice none 0 0) (.slice none 0 0) sg0 := ⟨RowAt.nil _ _ _, RowAt.nil _ _ _, RowAt.nil _ _ _⟩
end Go.Proofs.Ytecmoahadckomaa

namespace Go.Proofs.Ytecmoahadckomaa

/-! All below a number. -/
def upTo : Nat → (Nat → Bool) → Bool
  | 0, _ => true
  | n + 1, p => upTo n p && p n
theorem upTo_iff (n : Nat) (p : Nat → Bool) : upTo n p = true ↔ ∀ i, i < n → p i = true := by
  induction n with
  | zero => simp [upTo]
  | succ n ih =>
    rw [upTo, Bool.and_eq_true, ih]
    constructor
    · rintro ⟨h1, h2⟩ i hi
      by_cases e : i = n
      · subst e; exact h2
      · exact h1 i (by omega)
    · exact fun h => ⟨fun i hi => h i (by omega), h n (by omega)⟩
theorem upTo_no {n i : Nat} {p : Nat → Bool} (hi : i < n) (h : p i = false) : upTo n p = false := by
  cases hk : upTo n p with
  | false => rfl
  | true => rw [(upTo_iff n p).1 hk i hi] at h; cases h
theorem upTo_yes {n : Nat} {p : Nat → Bool} (h : ∀ i, i < n → p i = true) : upTo n p = true := (upTo_iff n p).2 h
theorem upTo_congr {n : Nat} {p q : Nat → Bool} (h : ∀ i, i < n → p i = q i) : upTo n p = upTo n q := by
  induction n with
  | zero => rfl
  | succ n ih => rw [upTo, upTo, ih fun i hi => h i (by omega), h n (by omega)]

/-! Names. -/
def whI (c : Int) : Bool := decide (c = 32 ∨ c = 9 ∨ c = 10 ∨ c = 13)
def inI (c : Int) : Bool := decide ((c ≠ 124 ∧ c ≠ 92) ∧ (32 ≤ c ∧ c ≤ 126 ∨ (c = 32 ∨ c = 9 ∨ c = 10 ∨ c = 13)))
def inB (c : UInt8) : Bool := inI c.toNat
def byteAt (s : ByteArray) (i : Nat) : UInt8 := s.data.toList.getD i 0
def mayS (s : ByteArray) : Bool := decide (s.size ≤ 100) && upTo s.size fun i => inB (byteAt s i)
def isS (l : List (List UInt8)) (s : ByteArray) : Bool := l.any fun t => s.toList == t
/-- _ ! as let exists forall match par -/
def resS (s : ByteArray) : Bool := isS [[95], [33], [97, 115], [108, 101, 116], [101, 120, 105, 115, 116, 115], [102, 111, 114, 97, 108, 108], [109, 97, 116, 99, 104], [112, 97, 114]] s
/-- true false not and or xor => = distinct ite + - <= < >= > -/
def coreS (s : ByteArray) : Bool := isS [[116, 114, 117, 101], [102, 97, 108, 115, 101], [110, 111, 116], [97, 110, 100], [111, 114], [120, 111, 114], [61, 62], [61], [100, 105, 115, 116, 105, 110, 99, 116], [105, 116, 101], [43], [45], [60, 61], [60], [62, 61], [62]] s
def useS (s : ByteArray) : Bool := mayS s && !resS s
end Go.Proofs.Ytecmoahadckomaa

namespace Go.Proofs.Ytecmoahadckomaa
open Go.RowKit

structure Rw where
  a0 : Int
  a1 : Int
  a2 : Int
  val : Int
def Rw.arg (r : Rw) (i : Nat) : Int := match i with | 0 => r.a0 | 1 => r.a1 | _ => r.a2
structure RwR (r : Rw) : Prop where
  a0 : R64 r.a0
  a1 : R64 r.a1
  a2 : R64 r.a2
  val : R64 r.val
def RwLies (w : World) (b o : Nat) (r : Rw) : Prop :=
  w.cell? ⟨b, o, none⟩ = some (.int .i64 r.a0) ∧ w.cell? ⟨b, o + 1, none⟩ = some (.int .i64 r.a1) ∧ w.cell? ⟨b, o + 2, none⟩ = some (.int .i64 r.a2) ∧ w.cell? ⟨b, o + 3, none⟩ = some (.int .i64 r.val)
theorem RwLies.keep {w w' : World} {b o : Nat} {r : Rw} (h : RwLies w b o r) (hk : ∀ j, w'.cell? ⟨b, j, none⟩ = w.cell? ⟨b, j, none⟩) : RwLies w' b o r := by
  obtain ⟨h0, h1, h2, h3⟩ := h
  exact ⟨(hk _).trans h0, (hk _).trans h1, (hk _).trans h2, (hk _).trans h3⟩
def RwIn (R : Nat → Rw) (w : World) (b o i : Nat) : Prop := RwLies w b o (R i) ∧ RwR (R i)
theorem RwIn.stays (R : Nat → Rw) : Stays (RwIn R) := fun {_ _ b _ _} h hb hw => ⟨h.1.keep fun j => hw.cell (p := ⟨b, j, none⟩) hb, h.2⟩
def RwsAt (w : World) (v : Value) (n : Nat) (R : Nat → Rw) : Prop := RowAt 4 (RwIn R) w v n
theorem RwsAt.below {w w' : World} {v : Value} {n : Nat} {R : Nat → Rw} (h : RwsAt w v n R) (hb : Below w.heap.size w w') : RwsAt w' v n R := RowAt.below (RwIn.stays R) h hb

/-! A function's values. -/
structure Fv where
  nr : Nat
  R : Nat → Rw
  els : Int
def FvIs (w : World) (f : Fv) (v0 v1 : Value) : Prop := RwsAt w v0 f.nr f.R ∧ v1 = .int .i64 f.els ∧ R64 f.els
theorem FvIs.below {w w' : World} {f : Fv} {v0 v1 : Value} (h : FvIs w f v0 v1) (hb : Below w.heap.size w w') : FvIs w' f v0 v1 := ⟨h.1.below hb, h.2⟩
def FvIn (F : Nat → Fv) (w : World) (b o i : Nat) : Prop := ∃ v0 v1, (w.cell? ⟨b, o, none⟩ = some v0 ∧ w.cell? ⟨b, o + 1, none⟩ = some v1) ∧ FvIs w (F i) v0 v1
theorem FvIn.stays (F : Nat → Fv) : Stays (FvIn F) := fun {_ _ b o _} h hb hw => by
  obtain ⟨v0, v1, ⟨c0, c1⟩, hf⟩ := h
  exact ⟨v0, v1, ⟨(hw.cell (p := ⟨b, o, none⟩) hb).trans c0, (hw.cell (p := ⟨b, o + 1, none⟩) hb).trans c1⟩, hf.below hw⟩
def FvsAt (w : World) (v : Value) (n : Nat) (F : Nat → Fv) : Prop := RowAt 2 (FvIn F) w v n
theorem FvsAt.below {w w' : World} {v : Value} {n : Nat} {F : Nat → Fv} (h : FvsAt w v n F) (hb : Below w.heap.size w w') : FvsAt w' v n F := RowAt.below (FvIn.stays F) h hb

/-! Worlds. -/
structure Wd where
  nz : Nat
  Z : Nat → Int
  nf : Nat
  F : Nat → Fv
def WdAt (w : World) (z f : Value) (W : Wd) : Prop := IntsAt w z W.nz W.Z ∧ FvsAt w f W.nf W.F
theorem WdAt.below {w w' : World} {z f : Value} {W : Wd} (h : WdAt w z f W) (hb : Below w.heap.size w w') : WdAt w' z f W := ⟨h.1.below hb, h.2.below hb⟩
theorem WdAt.alloc {w : World} {z f : Value} {W : Wd} (h : WdAt w z f W) (o : Obj) : WdAt (w.alloc o) z f W := h.below ((Below.refl _ _).alloc (Nat.le_refl _) _)
end Go.Proofs.Ytecmoahadckomaa
