/- Words for memory: rows of strings, functions, expressions, macros; signatures. -/
import Derived.Test.YtlhnffmbjejphaaGreatZIntsToSame10
import Derived.BigFrame
import Derived.BigQuiet
namespace Go.Proofs.YtlhnffmbjejphaaGreat
open Go.RowKit

def StrR (s : ByteArray) : Prop := s.size ≤ 9223372036854775807

/-- The slice value v reads, in w, as n rows of k cells, the i-th one as C says of its place. -/
def RowAt (k : Nat) (C : World → Nat → Nat → Nat → Prop) (w : World) (v : Value) (n : Nat) : Prop :=
  ∃ (A : Option Addr) (c : Nat), v = .slice A n c ∧ (n ≤ c ∧ c ≤ 9223372036854775807) ∧
    (0 < n → ∃ b o, A = some ⟨b, o, none⟩ ∧ b < w.heap.size ∧ ∀ i, i < n → C w b (o + i * k) i)

def Stays (C : World → Nat → Nat → Nat → Prop) : Prop := ∀ {w w' : World} {b o i : Nat}, C w b o i → b < w.heap.size → Below w.heap.size w w' → C w' b o i

theorem RowAt.below {k : Nat} {C : World → Nat → Nat → Nat → Prop} {w w' : World} {v : Value} {n : Nat} (hC : Stays C) (h : RowAt k C w v n) (hb : Below w.heap.size w w') : RowAt k C w' v n := by
  obtain ⟨A, c, rfl, hn, hc⟩ := h
  refine ⟨A, c, rfl, hn, fun h0 => ?_⟩
  obtain ⟨b, o, rfl, hlt, hc⟩ := hc h0
  exact ⟨b, o, rfl, Nat.lt_of_lt_of_le hlt hb.size, fun i hi => hC (hc i hi) hlt hb⟩
theorem RowAt.imp {k : Nat} {C D : World → Nat → Nat → Nat → Prop} {w : World} {v : Value} {n : Nat} (h : RowAt k C w v n) (hCD : ∀ b o i, i < n → C w b o i → D w b o i) : RowAt k D w v n := by
  obtain ⟨A, c, rfl, hn, hc⟩ := h
  refine ⟨A, c, rfl, hn, fun h0 => ?_⟩
  obtain ⟨b, o, rfl, hlt, hc⟩ := hc h0
  exact ⟨b, o, rfl, hlt, fun i hi => hCD _ _ _ hi (hc i hi)⟩
theorem RowAt.nil (k : Nat) (C : World → Nat → Nat → Nat → Prop) (w : World) : RowAt k C w (.slice none 0 0) 0 := ⟨none, 0, rfl, by omega, fun h => by omega⟩
theorem RowAt.pre {k : Nat} {C : World → Nat → Nat → Nat → Prop} {w : World} {A : Option Addr} {n c : Nat} (h : RowAt k C w (.slice A n c) n) {m : Nat} (hm : m ≤ n) (c' : Nat) (hc' : m ≤ c' ∧ c' ≤ 9223372036854775807) : RowAt k C w (.slice A m c') m := by
  obtain ⟨A', c1, e, hn, hc⟩ := h
  injection e with e1 _ _
  subst e1
  refine ⟨_, _, rfl, hc', fun h0 => ?_⟩
  obtain ⟨b, o, rfl, hb, hc⟩ := hc (by omega)
  exact ⟨b, o, rfl, hb, fun i hi => hc i (by omega)⟩

/-! Strings. -/
def StrIn (S : Nat → ByteArray) (w : World) (b o i : Nat) : Prop := w.cell? ⟨b, o, none⟩ = some (.string (S i)) ∧ StrR (S i)
def StrsAt (w : World) (v : Value) (n : Nat) (S : Nat → ByteArray) : Prop := RowAt 1 (StrIn S) w v n
theorem StrIn.stays (S : Nat → ByteArray) : Stays (StrIn S) := fun {_ _ b o _} h hb hw => ⟨(hw.cell (p := ⟨b, o, none⟩) hb).trans h.1, h.2⟩
theorem StrsAt.below {w w' : World} {v : Value} {n : Nat} {S : Nat → ByteArray} (h : StrsAt w v n S) (hb : Below w.heap.size w w') : StrsAt w' v n S := RowAt.below (StrIn.stays S) h hb

/-! Functions. -/
structure Fn where
  name : ByteArray
  len : Int
  a0 : Int
  a1 : Int
  a2 : Int
  res : Int
def Fn.arg (f : Fn) (i : Nat) : Int := match i with | 0 => f.a0 | 1 => f.a1 | _ => f.a2
structure FnR (f : Fn) : Prop where
  name : StrR f.name
  len : R64 f.len
  a0 : R64 f.a0
  a1 : R64 f.a1
  a2 : R64 f.a2
  res : R64 f.res
def fn0 : Fn := ⟨ByteArray.empty, 0, 0, 0, 0, 0⟩
theorem fn0_R : FnR fn0 := ⟨by unfold StrR; decide, ⟨by decide, by decide⟩, ⟨by decide, by decide⟩, ⟨by decide, by decide⟩, ⟨by decide, by decide⟩, ⟨by decide, by decide⟩⟩
def fnC (f : Fn) : List Value := [.string f.name, .int .i64 f.len, .int .i64 f.a0, .int .i64 f.a1, .int .i64 f.a2, .int .i64 f.res]
def fnV (f : Fn) : Value := .agg #[.string f.name, .int .i64 f.len, .int .i64 f.a0, .int .i64 f.a1, .int .i64 f.a2, .int .i64 f.res]
def FnLies (w : World) (b o : Nat) (f : Fn) : Prop :=
  w.cell? ⟨b, o, none⟩ = some (.string f.name) ∧ w.cell? ⟨b, o + 1, none⟩ = some (.int .i64 f.len) ∧ w.cell? ⟨b, o + 2, none⟩ = some (.int .i64 f.a0) ∧ w.cell? ⟨b, o + 3, none⟩ = some (.int .i64 f.a1) ∧
  w.cell? ⟨b, o + 4, none⟩ = some (.int .i64 f.a2) ∧ w.cell? ⟨b, o + 5, none⟩ = some (.int .i64 f.res)
theorem FnLies.keep {w w' : World} {b o : Nat} {f : Fn} (h : FnLies w b o f) (hk : ∀ j, w'.cell? ⟨b, j, none⟩ = w.cell? ⟨b, j, none⟩) : FnLies w' b o f := by
  obtain ⟨h0, h1, h2, h3, h4, h5⟩ := h
  exact ⟨(hk _).trans h0, (hk _).trans h1, (hk _).trans h2, (hk _).trans h3, (hk _).trans h4, (hk _).trans h5⟩
def FnIn (F : Nat → Fn) (w : World) (b o i : Nat) : Prop := FnLies w b o (F i) ∧ FnR (F i)
theorem FnIn.stays (F : Nat → Fn) : Stays (FnIn F) := fun {_ _ b _ _} h hb hw => ⟨h.1.keep fun j => hw.cell (p := ⟨b, j, none⟩) hb, h.2⟩
def FnsAt (w : World) (v : Value) (n : Nat) (F : Nat → Fn) : Prop := RowAt 6 (FnIn F) w v n
theorem FnsAt.below {w w' : World} {v : Value} {n : Nat} {F : Nat → Fn} (h : FnsAt w v n F) (hb : Below w.heap.size w w') : FnsAt w' v n F := RowAt.below (FnIn.stays F) h hb

/-! Parameters. -/
structure Pm where
  name : ByteArray
  sort : Int
def PmIn (Q : Nat → Pm) (w : World) (b o i : Nat) : Prop := (w.cell? ⟨b, o, none⟩ = some (.string (Q i).name) ∧ w.cell? ⟨b, o + 1, none⟩ = some (.int .i64 (Q i).sort)) ∧ StrR (Q i).name ∧ R64 (Q i).sort
theorem PmIn.stays (Q : Nat → Pm) : Stays (PmIn Q) := fun {_ _ b o _} h hb hw => ⟨⟨(hw.cell (p := ⟨b, o, none⟩) hb).trans h.1.1, (hw.cell (p := ⟨b, o + 1, none⟩) hb).trans h.1.2⟩, h.2⟩
def PmsAt (w : World) (v : Value) (n : Nat) (Q : Nat → Pm) : Prop := RowAt 2 (PmIn Q) w v n
theorem PmsAt.below {w w' : World} {v : Value} {n : Nat} {Q : Nat → Pm} (h : PmsAt w v n Q) (hb : Below w.heap.size w w') : PmsAt w' v n Q := RowAt.below (PmIn.stays Q) h hb

/-! Expressions. (nil: no expression, beyond a row's end.) -/
inductive Sx where
  | nil : Sx
  | mk (kind : Int) (text : ByteArray) (n : Nat) (l : Nat → Sx) : Sx
/-- The three values are the cells of the expression x. -/
def SxIs (w : World) : Sx → Value → Value → Value → Prop
  | .nil, _, _, _ => False
  | .mk k t n l, kv, tv, lv => (kv = .int .i8 k ∧ (-128 ≤ k ∧ k ≤ 127) ∧ tv = .string t ∧ StrR t) ∧
    ∃ (A : Option Addr) (c : Nat), lv = .slice A n c ∧ (n ≤ c ∧ c ≤ 9223372036854775807) ∧
      (0 < n → ∃ b o, A = some ⟨b, o, none⟩ ∧ b < w.heap.size ∧ ∀ i, i < n → ∃ k' t' l', w.cell? ⟨b, o + i * 3, none⟩ = some k' ∧ w.cell? ⟨b, o + i * 3 + 1, none⟩ = some t' ∧ w.cell? ⟨b, o + i * 3 + 2, none⟩ = some l' ∧ SxIs w (l i) k' t' l')
theorem SxIs.below {w w' : World} (hb : Below w.heap.size w w') : ∀ (x : Sx) (kv tv lv : Value), SxIs w x kv tv lv → SxIs w' x kv tv lv
  | .nil, _, _, _, h => h
  | .mk k t n l, kv, tv, lv, h => by
    obtain ⟨h1, A, c, h2, h3, h4⟩ := h
    refine ⟨h1, A, c, h2, h3, fun h0 => ?_⟩
    obtain ⟨b, o, hA, hlt, hc⟩ := h4 h0
    refine ⟨b, o, hA, Nat.lt_of_lt_of_le hlt hb.size, fun i hi => ?_⟩
    obtain ⟨k', t', l', c0, c1, c2, hx⟩ := hc i hi
    exact ⟨k', t', l', (hb.cell (p := ⟨b, o + i * 3, none⟩) hlt).trans c0, (hb.cell (p := ⟨b, o + i * 3 + 1, none⟩) hlt).trans c1, (hb.cell (p := ⟨b, o + i * 3 + 2, none⟩) hlt).trans c2, SxIs.below hb (l i) _ _ _ hx⟩
/-- A row of expressions. -/
def SxIn (X : Nat → Sx) (w : World) (b o i : Nat) : Prop := ∃ k' t' l', w.cell? ⟨b, o, none⟩ = some k' ∧ w.cell? ⟨b, o + 1, none⟩ = some t' ∧ w.cell? ⟨b, o + 2, none⟩ = some l' ∧ SxIs w (X i) k' t' l'
theorem SxIn.stays (X : Nat → Sx) : Stays (SxIn X) := fun {_ _ b o _} h hb hw => by
  obtain ⟨k', t', l', c0, c1, c2, hx⟩ := h
  exact ⟨k', t', l', (hw.cell (p := ⟨b, o, none⟩) hb).trans c0, (hw.cell (p := ⟨b, o + 1, none⟩) hb).trans c1, (hw.cell (p := ⟨b, o + 2, none⟩) hb).trans c2, SxIs.below hw _ _ _ _ hx⟩
def SxsAt (w : World) (v : Value) (n : Nat) (X : Nat → Sx) : Prop := RowAt 3 (SxIn X) w v n
theorem SxsAt.below {w w' : World} {v : Value} {n : Nat} {X : Nat → Sx} (h : SxsAt w v n X) (hb : Below w.heap.size w w') : SxsAt w' v n X := RowAt.below (SxIn.stays X) h hb
theorem SxIs.row {w : World} {k : Int} {t : ByteArray} {n : Nat} {l : Nat → Sx} {kv tv lv : Value} (h : SxIs w (.mk k t n l) kv tv lv) : kv = .int .i8 k ∧ (-128 ≤ k ∧ k ≤ 127) ∧ tv = .string t ∧ StrR t ∧ SxsAt w lv n l := by
  obtain ⟨⟨h1, h2, h3, h4⟩, A, c, h5, h6, h7⟩ := h
  exact ⟨h1, h2, h3, h4, A, c, h5, h6, h7⟩
theorem SxIs.mk {w : World} {k : Int} {t : ByteArray} {n : Nat} {l : Nat → Sx} {lv : Value} (h2 : -128 ≤ k ∧ k ≤ 127) (h4 : StrR t) (h5 : SxsAt w lv n l) : SxIs w (.mk k t n l) (.int .i8 k) (.string t) lv := by
  obtain ⟨A, c, h5, h6, h7⟩ := h5
  exact ⟨⟨rfl, h2, rfl, h4⟩, A, c, h5, h6, h7⟩

/-! Macros. -/
structure Mc where
  name : ByteArray
  np : Nat
  ps : Nat → Pm
  res : Int
  body : Sx
/-- The six values are the cells of the macro m. -/
def McIs (w : World) (m : Mc) (v0 v1 v2 v3 v4 v5 : Value) : Prop := v0 = .string m.name ∧ StrR m.name ∧ PmsAt w v1 m.np m.ps ∧ v2 = .int .i64 m.res ∧ R64 m.res ∧ SxIs w m.body v3 v4 v5
def McIn (M : Nat → Mc) (w : World) (b o i : Nat) : Prop := ∃ v0 v1 v2 v3 v4 v5, (w.cell? ⟨b, o, none⟩ = some v0 ∧ w.cell? ⟨b, o + 1, none⟩ = some v1 ∧ w.cell? ⟨b, o + 2, none⟩ = some v2 ∧ w.cell? ⟨b, o + 3, none⟩ = some v3 ∧ w.cell? ⟨b, o + 4, none⟩ = some v4 ∧ w.cell? ⟨b, o + 5, none⟩ = some v5) ∧ McIs w (M i) v0 v1 v2 v3 v4 v5
theorem McIs.below {w w' : World} {m : Mc} {v0 v1 v2 v3 v4 v5 : Value} (h : McIs w m v0 v1 v2 v3 v4 v5) (hb : Below w.heap.size w w') : McIs w' m v0 v1 v2 v3 v4 v5 := by
  obtain ⟨h0, h1, h2, h3, h4, h5⟩ := h
  exact ⟨h0, h1, h2.below hb, h3, h4, SxIs.below hb _ _ _ _ h5⟩
theorem McIn.stays (M : Nat → Mc) : Stays (McIn M) := fun {_ _ b o _} h hb hw => by
  obtain ⟨v0, v1, v2, v3, v4, v5, ⟨c0, c1, c2, c3, c4, c5⟩, hm⟩ := h
  exact ⟨v0, v1, v2, v3, v4, v5, ⟨(hw.cell (p := ⟨b, o, none⟩) hb).trans c0, (hw.cell (p := ⟨b, o + 1, none⟩) hb).trans c1, (hw.cell (p := ⟨b, o + 2, none⟩) hb).trans c2, (hw.cell (p := ⟨b, o + 3, none⟩) hb).trans c3, (hw.cell (p := ⟨b, o + 4, none⟩) hb).trans c4, (hw.cell (p := ⟨b, o + 5, none⟩) hb).trans c5⟩, hm.below hw⟩
def McsAt (w : World) (v : Value) (n : Nat) (M : Nat → Mc) : Prop := RowAt 6 (McIn M) w v n
theorem McsAt.below {w w' : World} {v : Value} {n : Nat} {M : Nat → Mc} (h : McsAt w v n M) (hb : Below w.heap.size w w') : McsAt w' v n M := RowAt.below (McIn.stays M) h hb

/-! Signatures. -/
structure Sg where
  ns : Nat
  S : Nat → ByteArray
  nf : Nat
  F : Nat → Fn
  nm : Nat
  M : Nat → Mc
def SgAt (w : World) (s f m : Value) (g : Sg) : Prop := StrsAt w s g.ns g.S ∧ FnsAt w f g.nf g.F ∧ McsAt w m g.nm g.M
theorem SgAt.below {w w' : World} {s f m : Value} {g : Sg} (h : SgAt w s f m g) (hb : Below w.heap.size w w') : SgAt w' s f m g := ⟨h.1.below hb, h.2.1.below hb, h.2.2.below hb⟩
theorem SgAt.alloc {w : World} {s f m : Value} {g : Sg} (h : SgAt w s f m g) (o : Obj) : SgAt (w.alloc o) s f m g := h.below ((Below.refl _ _).alloc (Nat.le_refl _) _)
theorem SgAt.drewN {w : World} {s f m : Value} {g : Sg} (h : SgAt w s f m g) (d : Nat) : SgAt (w.drewN d) s f m g := h.below (below_drewN (Below.refl _ _) d)
/-- No sorts, no functions, no macros. -/
def sg0 : Sg := ⟨0, fun _ => ByteArray.empty, 0, fun _ => fn0, 0, fun _ => ⟨ByteArray.empty, 0, fun _ => ⟨ByteArray.empty, 0⟩, 0, .nil⟩⟩
theorem SgAt.nil (w : World) : SgAt w (.slice none 0 0) (.slice none 0 0) (.slice none 0 0) sg0 := ⟨RowAt.nil _ _ _, RowAt.nil _ _ _, RowAt.nil _ _ _⟩
end Go.Proofs.YtlhnffmbjejphaaGreat

namespace Go.Proofs.YtlhnffmbjejphaaGreat
open Go.RowKit

structure Rw where
  a0 : Int
  a1 : Int
  a2 : Int
  val : Int
def Rw.arg (r : Rw) (i : Nat) : Int := match i with | 0 => r.a0 | 1 => r.a1 | _ => r.a2
structure RwR (r : Rw) : Prop where
  a0 : R64 r.a0
  a1 : R64 r.a1
  a2 : R64 r.a2
  val : R64 r.val
def RwLies (w : World) (b o : Nat) (r : Rw) : Prop :=
  w.cell? ⟨b, o, none⟩ = some (.int .i64 r.a0) ∧ w.cell? ⟨b, o + 1, none⟩ = some (.int .i64 r.a1) ∧ w.cell? ⟨b, o + 2, none⟩ = some (.int .i64 r.a2) ∧ w.cell? ⟨b, o + 3, none⟩ = some (.int .i64 r.val)
theorem RwLies.keep {w w' : World} {b o : Nat} {r : Rw} (h : RwLies w b o r) (hk : ∀ j, w'.cell? ⟨b, j, none⟩ = w.cell? ⟨b, j, none⟩) : RwLies w' b o r := by
  obtain ⟨h0, h1, h2, h3⟩ := h
  exact ⟨(hk _).trans h0, (hk _).trans h1, (hk _).trans h2, (hk _).trans h3⟩
def RwIn (R : Nat → Rw) (w : World) (b o i : Nat) : Prop := RwLies w b o (R i) ∧ RwR (R i)
theorem RwIn.stays (R : Nat → Rw) : Stays (RwIn R) := fun {_ _ b _ _} h hb hw => ⟨h.1.keep fun j => hw.cell (p := ⟨b, j, none⟩) hb, h.2⟩
def RwsAt (w : World) (v : Value) (n : Nat) (R : Nat → Rw) : Prop := RowAt 4 (RwIn R) w v n
theorem RwsAt.below {w w' : World} {v : Value} {n : Nat} {R : Nat → Rw} (h : RwsAt w v n R) (hb : Below w.heap.size w w') : RwsAt w' v n R := RowAt.below (RwIn.stays R) h hb

/-! A function's values. -/
structure Fv where
  nr : Nat
  R : Nat → Rw
  els : Int
def FvIs (w : World) (f : Fv) (v0 v1 : Value) : Prop := RwsAt w v0 f.nr f.R ∧ v1 = .int .i64 f.els ∧ R64 f.els
theorem FvIs.below {w w' : World} {f : Fv} {v0 v1 : Value} (h : FvIs w f v0 v1) (hb : Below w.heap.size w w') : FvIs w' f v0 v1 := ⟨h.1.below hb, h.2⟩
def FvIn (F : Nat → Fv) (w : World) (b o i : Nat) : Prop := ∃ v0 v1, (w.cell? ⟨b, o, none⟩ = some v0 ∧ w.cell? ⟨b, o + 1, none⟩ = some v1) ∧ FvIs w (F i) v0 v1
theorem FvIn.stays (F : Nat → Fv) : Stays (FvIn F) := fun {_ _ b o _} h hb hw => by
  obtain ⟨v0, v1, ⟨c0, c1⟩, hf⟩ := h
  exact ⟨v0, v1, ⟨(hw.cell (p := ⟨b, o, none⟩) hb).trans c0, (hw.cell (p := ⟨b, o + 1, none⟩) hb).trans c1⟩, hf.below hw⟩
def FvsAt (w : World) (v : Value) (n : Nat) (F : Nat → Fv) : Prop := RowAt 2 (FvIn F) w v n
theorem FvsAt.below {w w' : World} {v : Value} {n : Nat} {F : Nat → Fv} (h : FvsAt w v n F) (hb : Below w.heap.size w w') : FvsAt w' v n F := RowAt.below (FvIn.stays F) h hb

/-! Worlds. -/
structure Wd where
  nz : Nat
  Z : Nat → Int
  nf : Nat
  F : Nat → Fv
def WdAt (w : World) (z f : Value) (W : Wd) : Prop := IntsAt w z W.nz W.Z ∧ FvsAt w f W.nf W.F
theorem WdAt.below {w w' : World} {z f : Value} {W : Wd} (h : WdAt w z f W) (hb : Below w.heap.size w w') : WdAt w' z f W := ⟨h.1.below hb, h.2.below hb⟩
theorem WdAt.alloc {w : World} {z f : Value} {W : Wd} (h : WdAt w z f W) (o : Obj) : WdAt (w.alloc o) z f W := h.below ((Below.refl _ _).alloc (Nat.le_refl _) _)
end Go.Proofs.YtlhnffmbjejphaaGreat

namespace Go.Proofs.YtlhnffmbjejphaaGreat

/-! All below a number. -/
def upTo : Nat → (Nat → Bool) → Bool
  | 0, _ => true
  | n + 1, p => upTo n p && p n
theorem upTo_iff (n : Nat) (p : Nat → Bool) : upTo n p = true ↔ ∀ i, i < n → p i = true := by
  induction n with
  | zero => simp [upTo]
  | succ n ih =>
    rw [upTo, Bool.and_eq_true, ih]
    constructor
    · rintro ⟨h1, h2⟩ i hi
      by_cases e : i = n
      · subst e; exact h2
      · exact h1 i (by omega)
    · exact fun h => ⟨fun i hi => h i (by omega), h n (by omega)⟩
theorem upTo_no {n i : Nat} {p : Nat → Bool} (hi : i < n) (h : p i = false) : upTo n p = false := by
  cases hk : upTo n p with
  | false => rfl
  | true => rw [(upTo_iff n p).1 hk i hi] at h; cases h
theorem upTo_yes {n : Nat} {p : Nat → Bool} (h : ∀ i, i < n → p i = true) : upTo n p = true := (upTo_iff n p).2 h
theorem upTo_congr {n : Nat} {p q : Nat → Bool} (h : ∀ i, i < n → p i = q i) : upTo n p = upTo n q := by
  induction n with
  | zero => rfl
  | succ n ih => rw [upTo, upTo, ih fun i hi => h i (by omega), h n (by omega)]

/-! Names. -/
def whI (c : Int) : Bool := decide (c = 32 ∨ c = 9 ∨ c = 10 ∨ c = 13)
def inI (c : Int) : Bool := decide ((c ≠ 124 ∧ c ≠ 92) ∧ (32 ≤ c ∧ c ≤ 126 ∨ (c = 32 ∨ c = 9 ∨ c = 10 ∨ c = 13)))
def inB (c : UInt8) : Bool := inI c.toNat
def byteAt (s : ByteArray) (i : Nat) : UInt8 := s.data.toList.getD i 0
def mayS (s : ByteArray) : Bool := decide (s.size ≤ 100) && upTo s.size fun i => inB (byteAt s i)
def isS (l : List (List UInt8)) (s : ByteArray) : Bool := l.any fun t => s.toList == t
/-- _ ! as let exists forall match par -/
def resS (s : ByteArray) : Bool := isS [[95], [33], [97, 115], [108, 101, 116], [101, 120, 105, 115, 116, 115], [102, 111, 114, 97, 108, 108], [109, 97, 116, 99, 104], [112, 97, 114]] s
/-- true false not and or xor => = distinct ite + - <= < >= > -/
def coreS (s : ByteArray) : Bool := isS [[116, 114, 117, 101], [102, 97, 108, 115, 101], [110, 111, 116], [97, 110, 100], [111, 114], [120, 111, 114], [61, 62], [61], [100, 105, 115, 116, 105, 110, 99, 116], [105, 116, 101], [43], [45], [60, 61], [60], [62, 61], [62]] s
def useS (s : ByteArray) : Bool := mayS s && !resS s
end Go.Proofs.YtlhnffmbjejphaaGreat

namespace Go.Proofs.YtlhnffmbjejphaaGreat

/-- The first place below n that p holds of; -1: none. -/
def firstI : Nat → (Nat → Bool) → Int
  | 0, _ => -1
  | n + 1, p => if firstI n p ≠ -1 then firstI n p else if p n then n else -1
theorem firstI_none {n : Nat} {p : Nat → Bool} (h : ∀ i, i < n → p i = false) : firstI n p = -1 := by
  induction n with
  | zero => rfl
  | succ n ih => rw [firstI, ih fun i hi => h i (by omega), h n (by omega)]; simp
theorem firstI_hit {n j : Nat} {p : Nat → Bool} (hj : j < n) (h : ∀ i, i < j → p i = false) (hp : p j = true) : firstI n p = j := by
  induction n with
  | zero => omega
  | succ n ih =>
    rw [firstI]
    by_cases e : j = n
    · subst e
      rw [firstI_none h, hp]; simp
    · rw [ih (by omega), if_pos (by omega)]
theorem firstI_cases (n : Nat) (p : Nat → Bool) : (firstI n p = -1 ∧ ∀ i, i < n → p i = false) ∨ ∃ j, j < n ∧ firstI n p = j ∧ p j = true ∧ ∀ i, i < j → p i = false := by
  induction n with
  | zero => exact .inl ⟨rfl, fun i hi => absurd hi (Nat.not_lt_zero _)⟩
  | succ n ih =>
    rcases ih with ⟨h1, h2⟩ | ⟨j, hj, h1, h2, h3⟩
    · cases hp : p n with
      | true => exact .inr ⟨n, by omega, by rw [firstI, h1, hp]; simp, hp, h2⟩
      | false => exact .inl ⟨by rw [firstI, h1, hp]; simp, fun i hi => by
          by_cases e : i = n
          · subst e; exact hp
          · exact h2 i (by omega)⟩
    · exact .inr ⟨j, by omega, by rw [firstI, h1, if_pos (by omega)], h2, h3⟩

def eqS (s t : ByteArray) : Bool := s.toList == t.toList
end Go.Proofs.YtlhnffmbjejphaaGreat

namespace Go.Proofs.YtlhnffmbjejphaaGreat
open Go.RowKit
set_option maxRecDepth 100000
/-- ~ ! @ $ % ^ & * _ - + = < > . ? / -/
def signN (c : Nat) : Bool := decide (65 ≤ c ∧ c ≤ 90) || decide (97 ≤ c ∧ c ≤ 122) || decide (48 ≤ c ∧ c ≤ 57) || [126, 33, 64, 36, 37, 94, 38, 42, 95, 45, 43, 61, 60, 62, 46, 63, 47].contains c
def signB (c : UInt8) : Bool := signN c.toNat
theorem sign_none {c : Nat} (h : 128 ≤ c) : signN c = false := by
  have h1 : [126, 33, 64, 36, 37, 94, 38, 42, 95, 45, 43, 61, 60, 62, 46, 63, 47].contains c = false := by
    rw [Bool.eq_false_iff]
    intro h2
    simp at h2
    omega
  unfold signN
  rw [h1, decide_eq_false (by omega), decide_eq_false (by omega), decide_eq_false (by omega)]; rfl
theorem upTo_first (n : Nat) (p : Nat → Bool) : decide (0 ≤ firstI n p) = !upTo n fun i => !p i := by
  rcases firstI_cases n p with ⟨h1, h2⟩ | ⟨j, hj, h1, h2, _⟩
  · rw [h1, upTo_yes fun i hi => by rw [h2 i hi]; rfl]; rfl
  · rw [h1, upTo_no hj (by rw [h2]; rfl), decide_eq_true (by omega)]; rfl
def digB (c : UInt8) : Bool := decide (48 ≤ c.toNat ∧ c.toNat ≤ 57)
def numS (s : ByteArray) : Bool := decide (s.size ≠ 0) && !(decide (1 < s.size) && decide ((byteAt s 0).toNat = 48)) && upTo s.size fun i => digB (byteAt s i)
theorem isEmpty_size (s : ByteArray) : s.toList.isEmpty = decide (s.size = 0) := by
  rw [Go.ByteArray.toList_eq]
  obtain ⟨⟨l⟩⟩ := s
  cases l with
  | nil => rfl
  | cons a l => rfl
theorem byteAt_get (s : ByteArray) (j : Nat) (h : j < s.size) : byteAt s j = s[j] := by unfold byteAt; simp [List.getD, h]; rfl
/-- What num.Parse hands back: the error tells whether it is a numeral. -/
def ParsedP (s : ByteArray) (e : Ending) : Prop := ∃ n er : Int, e = .returned (.tuple #[.int .i64 n, .int .i64 er]) ∧ (er != 20) = numS s
theorem numS_no {s : ByteArray} {i : Nat} (hi : i < s.size) (h : digB (byteAt s i) = false) : numS s = false := by unfold numS; rw [upTo_no hi h, Bool.and_false]
def digI (c : Int) : Bool := decide (48 ≤ c ∧ c ≤ 57)
def symB (n : Nat) (t : ByteArray) : Bool := decide (n = 0) && mayS t
def nmB (n : Nat) (t : ByteArray) : Bool := decide (n = 0) && numS t && decide (t.size ≤ 100)
def kwB (n : Nat) (t : ByteArray) : Bool := decide (n = 0) && (upTo t.size fun i => signB (byteAt t i)) && decide (t.size ≠ 0) && decide (t.size ≤ 100)
def maxUp : Nat → (Nat → Int) → Int
  | 0, _ => 0
  | n + 1, f => max (maxUp n f) (f n)
theorem maxUp_nonneg (n : Nat) (f : Nat → Int) : 0 ≤ maxUp n f := by
  induction n with
  | zero => exact Int.le_refl _
  | succ n ih => rw [maxUp]; omega
def depX : Sx → Int
  | .nil => 0
  | .mk k _ n l => if k = 3 then wrap64 (maxUp n (fun i => depX (l i)) + 1) else 0
def stX : Sx → Bool
  | .nil => false
  | .mk k t n l => if k = 0 then symB n t else if k = 1 then nmB n t else if k = 2 then kwB n t else if k = 3 then t.toList.isEmpty && upTo n (fun i => stX (l i)) else false
def mayX (x : Sx) : Bool := decide (depX x ≤ 60) && stX x
theorem wrap_R64 (x : Int) : R64 (wrap64 x) := by unfold wrap64 R64; omega
theorem depX_R : ∀ x, R64 (depX x)
  | .nil => ⟨by decide, by decide⟩
  | .mk k _ n l => by
    rw [depX]
    split
    · exact wrap_R64 _
    · exact ⟨by decide, by decide⟩
theorem maxUp_le {n : Nat} {f : Nat → Int} (h : ∀ i, i < n → f i ≤ 9223372036854775807) : maxUp n f ≤ 9223372036854775807 := by
  induction n with
  | zero => show (0 : Int) ≤ _; decide
  | succ n ih => rw [maxUp]; have := ih fun i hi => h i (by omega); have := h n (by omega); omega
theorem SxIs.forms {w : World} {x : Sx} {kv tv lv : Value} (h : SxIs w x kv tv lv) : ∃ kk tt A nn cc, kv = .int .i8 kk ∧ tv = .string tt ∧ lv = .slice A nn cc := by
  cases x with
  | nil => exact h.elim
  | mk k t n l =>
    obtain ⟨rfl, _, rfl, _, A, c, rfl, _⟩ := h.row
    exact ⟨_, _, _, _, _, rfl, rfl, rfl⟩
theorem max_if (m d : Int) : (if m < d then d else m) = max m d := by split <;> omega
def thereB (ns : Nat) (x : Int) : Bool := decide (0 ≤ x ∧ x < (ns : Int) + 2)
theorem thereB_t {ns : Nat} {x : Int} (h : 0 ≤ x ∧ x < (ns : Int) + 2) : thereB ns x = true := decide_eq_true h
theorem thereB_f {ns : Nat} {x : Int} (h : ¬ (0 ≤ x ∧ x < (ns : Int) + 2)) : thereB ns x = false := decide_eq_false h
/-- May the i-th argument's sort be? -/
def fargB (ns : Nat) (f : Fn) (i : Nat) : Bool := if (i : Int) < f.len then thereB ns (f.arg i) else decide (f.arg i = 0)
def funB (ns : Nat) (f : Fn) : Bool := decide (0 ≤ f.len ∧ f.len ≤ 3) && thereB ns f.res && upTo 3 (fargB ns f)
theorem funB_len {ns : Nat} {f : Fn} (h : ¬ (0 ≤ f.len ∧ f.len ≤ 3)) : funB ns f = false := by unfold funB; rw [decide_eq_false h]; rfl
theorem funB_res {ns : Nat} {f : Fn} (h : thereB ns f.res = false) : funB ns f = false := by unfold funB; rw [h, Bool.and_false]; rfl
theorem funB_arg {ns : Nat} {f : Fn} {i : Nat} (hi : i < 3) (h : fargB ns f i = false) : funB ns f = false := by unfold funB; rw [upTo_no hi h, Bool.and_false]
theorem funB_yes {ns : Nat} {f : Fn} (h : 0 ≤ f.len ∧ f.len ≤ 3) (h1 : thereB ns f.res = true) (h2 : ∀ i, i < 3 → fargB ns f i = true) : funB ns f = true := by unfold funB; rw [decide_eq_true h, h1, upTo_yes h2]; rfl
def fbox (w : World) (A : Option Addr) (n c : Nat) (fv mv : Value) (f : Fn) : List (Nat × Nat × Value) :=
  [(w.heap.size + 1, 0, .string f.name), (w.heap.size + 1, 1, .int .i64 f.len), (w.heap.size + 1, 2, .int .i64 f.a0), (w.heap.size + 1, 3, .int .i64 f.a1), (w.heap.size + 1, 4, .int .i64 f.a2), (w.heap.size + 1, 5, .int .i64 f.res),
   (w.heap.size, 0, .slice A n c), (w.heap.size, 1, fv), (w.heap.size, 2, mv)]
theorem run_ixA0 (W : World) (a b c : Int) : (Instr.index 51 (.agg #[.int .i64 a, .int .i64 b, .int .i64 c]) (.int .i64 0)).run Tryz.prog W = .ok (.int .i64 a) W := by kernel_rfl
theorem run_ixA1 (W : World) (a b c : Int) : (Instr.index 51 (.agg #[.int .i64 a, .int .i64 b, .int .i64 c]) (.int .i64 1)).run Tryz.prog W = .ok (.int .i64 b) W := by kernel_rfl
theorem run_ixA2 (W : World) (a b c : Int) : (Instr.index 51 (.agg #[.int .i64 a, .int .i64 b, .int .i64 c]) (.int .i64 2)).run Tryz.prog W = .ok (.int .i64 c) W := by kernel_rfl
theorem run_ixF (f : Fn) (j : Nat) (hj : j < 3) (W : World) : (Instr.index 51 (.agg #[.int .i64 f.a0, .int .i64 f.a1, .int .i64 f.a2]) (.int .i64 j)).run Tryz.prog W = .ok (.int .i64 (f.arg j)) W := by
  have h : j = 0 ∨ j = 1 ∨ j = 2 := by omega
  rcases h with rfl | rfl | rfl
  · exact run_ixA0 W _ _ _
  · exact run_ixA1 W _ _ _
  · exact run_ixA2 W _ _ _
theorem fbox_len {w x : World} {A : Option Addr} {n c : Nat} {fv mv : Value} {f : Fn} (h : Bx w (fbox w A n c fv mv f) x) : x.cell? ⟨w.heap.size + 1, 1, none⟩ = some (.int .i64 f.len) := h.cells.2.1.1
theorem eqS_iff {s t : ByteArray} : eqS s t = true ↔ s = t := by
  unfold eqS
  rw [Go.ByteArray.toList_eq, Go.ByteArray.toList_eq]
  constructor
  · intro h
    have h' : s.data.toList = t.data.toList := by simpa using h
    exact Go.WideShapes.bytes_inj h'
  · rintro rfl; simp
theorem eqS_self (s : ByteArray) : eqS s s = true := eqS_iff.2 rfl
theorem eqS_ne {s t : ByteArray} (h : s ≠ t) : eqS s t = false := by
  cases he : eqS s t with
  | false => rfl
  | true => exact absurd (eqS_iff.1 he) h
/-- Is s among the first n of these? -/
def amongS (n : Nat) (f : Nat → ByteArray) (s : ByteArray) : Bool := !upTo n fun k => !eqS (f k) s
theorem among_same {n : Nat} {f : Nat → ByteArray} : amongS (n + 1) f (f n) = true := by unfold amongS; rw [upTo, eqS_self]; simp
theorem among_other {n : Nat} {f : Nat → ByteArray} {s : ByteArray} (h : s ≠ f n) : amongS (n + 1) f s = amongS n f s := by unfold amongS; rw [upTo, eqS_ne (fun e => h e.symm)]; simp
def pmB (ns : Nat) (ps : Nat → Pm) (i : Nat) : Bool := !amongS i (fun k => (ps k).name) (ps i).name && useS (ps i).name && thereB ns (ps i).sort
def macB (ns : Nat) (m : Mc) : Bool := upTo m.np (pmB ns m.ps) && decide (m.np ≤ 3) && thereB ns m.res && mayX m.body
theorem macB_pm {ns : Nat} {m : Mc} {i : Nat} (hi : i < m.np) (h : pmB ns m.ps i = false) : macB ns m = false := by unfold macB; rw [upTo_no hi h]; rfl
def mbox (w : World) (A : Option Addr) (n c : Nat) (fv mv v0 v1 v2 v3 v4 v5 : Value) : List (Nat × Nat × Value) :=
  [(w.heap.size + 1, 0, v0), (w.heap.size + 1, 1, v1), (w.heap.size + 1, 2, v2), (w.heap.size + 1, 3, v3), (w.heap.size + 1, 4, v4), (w.heap.size + 1, 5, v5),
   (w.heap.size, 0, .slice A n c), (w.heap.size, 1, fv), (w.heap.size, 2, mv)]
def frB (S : ByteArray × Bool → Bool) (s : ByteArray) (b : Bool) : Bool := useS s && !S (s, b) && (b || !coreS s)
def addN (S : ByteArray × Bool → Bool) (i : ByteArray × Bool) (j : ByteArray × Bool) : Bool := decide (j = i) || S j
def boolS : ByteArray := ⟨#[66, 111, 111, 108]⟩
def intS : ByteArray := ⟨#[73, 110, 116]⟩
theorem boolS_R : StrR boolS := by unfold StrR; decide
theorem intS_R : StrR intS := by unfold StrR; decide
def bltn (j : ByteArray × Bool) : Bool := j.2 && (eqS boolS j.1 || eqS intS j.1)
def SSn (g : Sg) : Nat → ByteArray × Bool → Bool
  | 0 => bltn
  | n + 1 => addN (SSn g n) (g.S n, true)
def SFn (g : Sg) : Nat → ByteArray × Bool → Bool
  | 0 => SSn g g.ns
  | n + 1 => addN (SFn g n) ((g.F n).name, false)
def SMn (g : Sg) : Nat → ByteArray × Bool → Bool
  | 0 => SFn g g.nf
  | n + 1 => addN (SMn g n) ((g.M n).name, false)
def okSn (g : Sg) (i : Nat) : Bool := frB (SSn g i) (g.S i) true
def okFn (g : Sg) (i : Nat) : Bool := frB (SFn g i) (g.F i).name false && funB g.ns (g.F i)
def okMn (g : Sg) (i : Nat) : Bool := frB (SMn g i) (g.M i).name false && macB g.ns (g.M i)
def fewG (g : Sg) : Bool := decide (g.ns ≤ 4) && decide (g.nf ≤ 12) && decide (g.nm ≤ 12)
def checkG (g : Sg) : Bool := fewG g && upTo g.ns (okSn g) && upTo g.nf (okFn g) && upTo g.nm (okMn g)
def chV (b : Bool) : Int := if b then 0 else 2
structure FewG (g : Sg) : Prop where
  ns : g.ns ≤ 1000
  nf : g.nf ≤ 1000
  nm : g.nm ≤ 1000
end Go.Proofs.YtlhnffmbjejphaaGreat

namespace Go.Proofs.YtlhnffmbjejphaaGreat

theorem addN_iff {S : ByteArray × Bool → Bool} {i j : ByteArray × Bool} : addN S i j = true ↔ j = i ∨ S j = true := by unfold addN; rw [Bool.or_eq_true, decide_eq_true_iff]
theorem SSn_iff (g : Sg) (k : Nat) (s : ByteArray) (b : Bool) : SSn g k (s, b) = true ↔ b = true ∧ (s = boolS ∨ s = intS ∨ ∃ i, i < k ∧ g.S i = s) := by
  induction k with
  | zero =>
    show bltn (s, b) = true ↔ _
    unfold bltn
    rw [Bool.and_eq_true, Bool.or_eq_true, eqS_iff, eqS_iff]
    constructor
    · rintro ⟨h1, h2 | h2⟩
      · exact ⟨h1, .inl h2.symm⟩
      · exact ⟨h1, .inr (.inl h2.symm)⟩
    · rintro ⟨h1, h2 | h2 | ⟨i, hi, _⟩⟩
      · exact ⟨h1, .inl h2.symm⟩
      · exact ⟨h1, .inr h2.symm⟩
      · omega
  | succ k ih =>
    show addN (SSn g k) (g.S k, true) (s, b) = true ↔ _
    rw [addN_iff, ih]
    constructor
    · rintro (h | ⟨h1, h2 | h2 | ⟨i, hi, h2⟩⟩)
      · injection h with h1 h2
        exact ⟨h2, .inr (.inr ⟨k, by omega, h1.symm⟩)⟩
      · exact ⟨h1, .inl h2⟩
      · exact ⟨h1, .inr (.inl h2)⟩
      · exact ⟨h1, .inr (.inr ⟨i, by omega, h2⟩)⟩
    · rintro ⟨rfl, h2 | h2 | ⟨i, hi, h2⟩⟩
      · exact .inr ⟨rfl, .inl h2⟩
      · exact .inr ⟨rfl, .inr (.inl h2)⟩
      · by_cases e : i = k
        · subst e; exact .inl (by rw [h2])
        · exact .inr ⟨rfl, .inr (.inr ⟨i, by omega, h2⟩)⟩
theorem SFn_iff (g : Sg) (k : Nat) (s : ByteArray) : SFn g k (s, false) = true ↔ ∃ i, i < k ∧ (g.F i).name = s := by
  induction k with
  | zero =>
    show SSn g g.ns (s, false) = true ↔ _
    rw [SSn_iff]
    constructor
    · rintro ⟨h, _⟩; cases h
    · rintro ⟨i, hi, _⟩; omega
  | succ k ih =>
    show addN (SFn g k) ((g.F k).name, false) (s, false) = true ↔ _
    rw [addN_iff, ih]
    constructor
    · rintro (h | ⟨i, hi, h2⟩)
      · injection h with h1 _
        exact ⟨k, by omega, h1.symm⟩
      · exact ⟨i, by omega, h2⟩
    · rintro ⟨i, hi, h2⟩
      by_cases e : i = k
      · subst e; exact .inl (by rw [h2])
      · exact .inr ⟨i, by omega, h2⟩
theorem SMn_iff (g : Sg) (k : Nat) (s : ByteArray) : SMn g k (s, false) = true ↔ (∃ i, i < g.nf ∧ (g.F i).name = s) ∨ ∃ i, i < k ∧ (g.M i).name = s := by
  induction k with
  | zero =>
    show SFn g g.nf (s, false) = true ↔ _
    rw [SFn_iff]
    constructor
    · exact .inl
    · rintro (h | ⟨i, hi, _⟩)
      · exact h
      · omega
  | succ k ih =>
    show addN (SMn g k) ((g.M k).name, false) (s, false) = true ↔ _
    rw [addN_iff, ih]
    constructor
    · rintro (h | h | ⟨i, hi, h2⟩)
      · injection h with h1 _
        exact .inr ⟨k, by omega, h1.symm⟩
      · exact .inl h
      · exact .inr ⟨i, by omega, h2⟩
    · rintro (h | ⟨i, hi, h2⟩)
      · exact .inr (.inl h)
      · by_cases e : i = k
        · subst e; exact .inl (by rw [h2])
        · exact .inr (.inr ⟨i, by omega, h2⟩)

/-- A signature that may be. -/
structure CheckG (g : Sg) : Prop where
  ns : g.ns ≤ 4
  nf : g.nf ≤ 12
  nm : g.nm ≤ 12
  sort : ∀ i, i < g.ns → useS (g.S i) = true ∧ g.S i ≠ boolS ∧ g.S i ≠ intS ∧ ∀ k, k < i → g.S k ≠ g.S i
  fn : ∀ i, i < g.nf → useS (g.F i).name = true ∧ coreS (g.F i).name = false ∧ (∀ k, k < i → (g.F k).name ≠ (g.F i).name) ∧ funB g.ns (g.F i) = true
  mc : ∀ i, i < g.nm → useS (g.M i).name = true ∧ coreS (g.M i).name = false ∧ (∀ k, k < g.nf → (g.F k).name ≠ (g.M i).name) ∧ (∀ k, k < i → (g.M k).name ≠ (g.M i).name) ∧ macB g.ns (g.M i) = true
theorem frB_iff (S : ByteArray × Bool → Bool) (s : ByteArray) (b : Bool) : frB S s b = true ↔ useS s = true ∧ S (s, b) = false ∧ (b = true ∨ coreS s = false) := by
  unfold frB
  rw [Bool.and_eq_true, Bool.and_eq_true, Bool.or_eq_true]
  simp [and_assoc]
theorem okSn_iff (g : Sg) (i : Nat) : okSn g i = true ↔ useS (g.S i) = true ∧ g.S i ≠ boolS ∧ g.S i ≠ intS ∧ ∀ k, k < i → g.S k ≠ g.S i := by
  unfold okSn
  rw [frB_iff, Bool.eq_false_iff, Ne, SSn_iff]
  constructor
  · rintro ⟨h1, h2, _⟩
    exact ⟨h1, fun h => h2 ⟨rfl, .inl h⟩, fun h => h2 ⟨rfl, .inr (.inl h)⟩, fun k hk h => h2 ⟨rfl, .inr (.inr ⟨k, hk, h⟩)⟩⟩
  · rintro ⟨h1, h2, h3, h4⟩
    refine ⟨h1, ?_, .inl rfl⟩
    rintro ⟨_, h | h | ⟨k, hk, h⟩⟩
    · exact h2 h
    · exact h3 h
    · exact h4 k hk h
theorem okFn_iff (g : Sg) (i : Nat) : okFn g i = true ↔ useS (g.F i).name = true ∧ coreS (g.F i).name = false ∧ (∀ k, k < i → (g.F k).name ≠ (g.F i).name) ∧ funB g.ns (g.F i) = true := by
  unfold okFn
  rw [Bool.and_eq_true, frB_iff, Bool.eq_false_iff, Ne, SFn_iff]
  constructor
  · rintro ⟨⟨h1, h2, h3⟩, h4⟩
    refine ⟨h1, ?_, fun k hk h => h2 ⟨k, hk, h⟩, h4⟩
    rcases h3 with h3 | h3
    · cases h3
    · exact h3
  · rintro ⟨h1, h2, h3, h4⟩
    exact ⟨⟨h1, fun ⟨k, hk, h⟩ => h3 k hk h, .inr h2⟩, h4⟩
theorem okMn_iff (g : Sg) (i : Nat) : okMn g i = true ↔ useS (g.M i).name = true ∧ coreS (g.M i).name = false ∧ (∀ k, k < g.nf → (g.F k).name ≠ (g.M i).name) ∧ (∀ k, k < i → (g.M k).name ≠ (g.M i).name) ∧ macB g.ns (g.M i) = true := by
  unfold okMn
  rw [Bool.and_eq_true, frB_iff, Bool.eq_false_iff, Ne, SMn_iff]
  constructor
  · rintro ⟨⟨h1, h2, h3⟩, h4⟩
    refine ⟨h1, ?_, fun k hk h => h2 (.inl ⟨k, hk, h⟩), fun k hk h => h2 (.inr ⟨k, hk, h⟩), h4⟩
    rcases h3 with h3 | h3
    · cases h3
    · exact h3
  · rintro ⟨h1, h2, h3, h4, h5⟩
    refine ⟨⟨h1, ?_, .inr h2⟩, h5⟩
    rintro (⟨k, hk, h⟩ | ⟨k, hk, h⟩)
    · exact h3 k hk h
    · exact h4 k hk h
theorem checkG_iff (g : Sg) : checkG g = true ↔ CheckG g := by
  unfold checkG fewG
  rw [Bool.and_eq_true, Bool.and_eq_true, Bool.and_eq_true, Bool.and_eq_true, Bool.and_eq_true, decide_eq_true_iff, decide_eq_true_iff, decide_eq_true_iff, upTo_iff, upTo_iff, upTo_iff]
  constructor
  · rintro ⟨⟨⟨⟨⟨h1, h2⟩, h3⟩, h4⟩, h5⟩, h6⟩
    exact ⟨h1, h2, h3, fun i hi => (okSn_iff g i).1 (h4 i hi), fun i hi => (okFn_iff g i).1 (h5 i hi), fun i hi => (okMn_iff g i).1 (h6 i hi)⟩
  · intro h
    exact ⟨⟨⟨⟨⟨h.ns, h.nf⟩, h.nm⟩, fun i hi => (okSn_iff g i).2 (h.sort i hi)⟩, fun i hi => (okFn_iff g i).2 (h.fn i hi)⟩, fun i hi => (okMn_iff g i).2 (h.mc i hi)⟩

end Go.Proofs.YtlhnffmbjejphaaGreat

namespace Go.Proofs.YtlhnffmbjejphaaGreat
open Go.RowKit
set_option maxRecDepth 100000

theorem white_any (c : Int) (w : World) : Calls Tryz.prog 160 #[.int .u8 c] w fun e w' => e = .returned (.bool (whI c)) ∧ w = w' := by
  go_enter Tryz.func160, Tryz.ntmps160
  go_wp2
  all_goals go_ret
  all_goals refine ⟨ret_bool ?_, rfl⟩
  all_goals (show (_ : Bool) = _; rw [Bool.eq_iff_iff]; simp [whI]; try omega)
theorem inside_any (c : Int) (w : World) : Calls Tryz.prog 152 #[.int .u8 c] w fun e w' => e = .returned (.bool (inI c)) ∧ w = w' := by
  go_enter Tryz.func152, Tryz.ntmps152
  go_wp2_with (go_at_call 160; refine (white_any _ _).mono ?_; rintro e w' ⟨rfl, rfl⟩)
  all_goals go_ret
  all_goals refine ⟨ret_bool ?_, rfl⟩
  all_goals (show (_ : Bool) = _; rw [Bool.eq_iff_iff]; simp [whI, inI]; try omega)
theorem Reserved_any (s : ByteArray) (w : World) : Calls Tryz.prog 132 #[.string s] w fun e w' => e = .returned (.bool (resS s)) ∧ w = w' := by
  go_enter Tryz.func132, Tryz.ntmps132
  go_wp2
  all_goals go_ret
  all_goals first | (exfalso; simp_all; done) | (refine ⟨ret_bool ?_, rfl⟩; simp_all [resS, isS])
theorem Core_any (s : ByteArray) (w : World) : Calls Tryz.prog 99 #[.string s] w fun e w' => e = .returned (.bool (coreS s)) ∧ w = w' := by
  go_enter Tryz.func99, Tryz.ntmps99
  go_wp2
  all_goals go_ret
  all_goals first | (exfalso; simp_all; done) | (refine ⟨ret_bool ?_, rfl⟩; simp_all [coreS, isS])
set_option maxHeartbeats 1000000 in
theorem all_in (s : ByteArray) (w : World) (hs : s.size ≤ 100) : Calls Tryz.prog 151 #[.string s, .func (.func 152) #[] #[]] w fun e w' => e = .returned (.bool (upTo s.size fun i => inB (byteAt s i))) ∧ w = w' := by
  go_enter Tryz.func151, Tryz.ntmps151
  go_wp2
  go_loopw [8] (fun i wr => ∃ j : Nat, j ≤ s.size ∧ i = .int .i64 j ∧ w = wr ∧ Hid (∀ k, k < j → inB (byteAt s k) = true)) (fun i _ => s.size - (intOf i).toNat)
  case atStart => exact ⟨0, Nat.zero_le _, rfl, rfl, fun k hk => absurd hk (Nat.not_lt_zero _)⟩
  case round =>
    obtain ⟨j, hj, rfl, rfl, hall⟩ := hrel
    by_cases hlt : j < s.size
    · have i1 : decide ((j : Int) < (s.size : Int)) = true := decide_eq_true (by omega)
      have hb : byteAt s j = s[j] := by unfold byteAt; simp [List.getD, hlt]; rfl
      cases hi : inI (s[j].toNat : Int) with
      | true =>
        have hj1 : Hid (inB (byteAt s j) = true) := by unfold Hid inB; rw [hb]; exact hi
        clear hb
        go_wp2_with (go_at_call 152; refine (inside_any _ _).mono ?_; rintro e w' ⟨rfl, rfl⟩)
        go_roundw
        case rel => exact ⟨j + 1, by omega, by go_num, trivial, fun k hk => by
          by_cases e : k = j
          · subst e; exact hj1.out
          · exact hall.out k (by omega)⟩
        case measure => simp [intOf]; omega
      | false =>
        have hno := Lib.hid (upTo_no (p := fun i => inB (byteAt s i)) hlt (by show inB (byteAt s j) = false; unfold inB; rw [hb]; exact hi))
        clear hb
        go_wp2_with (go_at_call 152; refine (inside_any _ _).mono ?_; rintro e w' ⟨rfl, rfl⟩)
        go_ret
        exact ⟨ret_bool hno.out.symm, rfl⟩
    · have i1 : decide ((j : Int) < (s.size : Int)) = false := decide_eq_false (by omega)
      have hyes := Lib.hid (upTo_yes (n := s.size) fun i hi => hall.out i (by omega))
      go_wp2
      go_ret
      exact ⟨ret_bool hyes.out.symm, rfl⟩
theorem LMay_any (s : ByteArray) (w : World) (hs : StrR s) : Calls Tryz.prog 131 #[.string s] w fun e w' => e = .returned (.bool (mayS s)) ∧ w = w' := by
  unfold StrR at hs
  by_cases h : s.size ≤ 100
  · have d0 : decide ((s.size : Int) ≤ 100) = true := decide_eq_true (by omega)
    have hm : Hid (mayS s = upTo s.size fun i => inB (byteAt s i)) := by unfold Hid mayS; rw [decide_eq_true h]; rfl
    have h' := Lib.hid h
    clear h
    go_enter Tryz.func131, Tryz.ntmps131
    go_wp2_with (go_at_call 151; refine (all_in _ _ h'.out).mono ?_; rintro e w' ⟨rfl, rfl⟩)
    go_ret
    exact ⟨ret_bool hm.out.symm, rfl⟩
  · have d0 : decide ((s.size : Int) ≤ 100) = false := decide_eq_false (by omega)
    have hm : Hid (mayS s = false) := by unfold Hid mayS; rw [decide_eq_false h]; rfl
    clear h
    go_enter Tryz.func131, Tryz.ntmps131
    go_wp2_with fail
    go_ret
    exact ⟨ret_bool hm.out.symm, rfl⟩
theorem usable_any (s : ByteArray) (w : World) (hs : StrR s) : Calls Tryz.prog 98 #[.string s] w fun e w' => e = .returned (.bool (useS s)) ∧ w = w' := by
  cases hm : mayS s with
  | true =>
    have hu : Hid (useS s = !resS s) := by unfold Hid useS; rw [hm]; rfl
    go_enter Tryz.func98, Tryz.ntmps98
    go_wp2_with (first | (go_at_call 131; refine (LMay_any _ _ hs).mono ?_; rintro e w' ⟨rfl, rfl⟩) | (go_at_call 132; refine (Reserved_any _ _).mono ?_; rintro e w' ⟨rfl, rfl⟩))
    go_ret
    exact ⟨ret_bool hu.out.symm, rfl⟩
  | false =>
    have hu : Hid (useS s = false) := by unfold Hid useS; rw [hm]; rfl
    go_enter Tryz.func98, Tryz.ntmps98
    go_wp2_with (first | (go_at_call 131; refine (LMay_any _ _ hs).mono ?_; rintro e w' ⟨rfl, rfl⟩) | (go_at_call 132; refine (Reserved_any _ _).mono ?_; rintro e w' ⟨rfl, rfl⟩))
    go_ret
    exact ⟨ret_bool hu.out.symm, rfl⟩
end Go.Proofs.YtlhnffmbjejphaaGreat

namespace Go.Proofs.YtlhnffmbjejphaaGreat
open Go.RowKit
set_option maxRecDepth 100000

theorem there_any (A : Option Addr) (n c : Nat) (fv mv : Value) (x : Int) (w : World) (hn : n ≤ 9223372036854775800) :
    Calls Tryz.prog 133 #[.agg #[.slice A n c, fv, mv], .int .i64 x] w fun e w' => e = .returned (.bool (thereB n x)) ∧ Below w.heap.size w w' := by
  by_cases h0 : 0 ≤ x
  · by_cases h1 : x < (n : Int) + 2
    · have hR := Lib.hid (thereB_t (ns := n) ⟨h0, h1⟩)
      have d0 : decide (0 ≤ x) = true := decide_eq_true h0
      have d1 : decide (x < 2 + (n : Int)) = true := decide_eq_true (by omega)
      clear h0 h1
      go_enter Tryz.func133, Tryz.ntmps133
      go_wp2
      go_ret
      exact ⟨ret_bool hR.out.symm, (Below.refl _ _).alloc (Nat.le_refl _) _⟩
    · have hR := Lib.hid (thereB_f (ns := n) (x := x) (fun h => h1 h.2))
      have d0 : decide (0 ≤ x) = true := decide_eq_true h0
      have d1 : decide (x < 2 + (n : Int)) = false := decide_eq_false (by omega)
      clear h0 h1
      go_enter Tryz.func133, Tryz.ntmps133
      go_wp2
      go_ret
      exact ⟨ret_bool hR.out.symm, (Below.refl _ _).alloc (Nat.le_refl _) _⟩
  · have hR := Lib.hid (thereB_f (ns := n) (x := x) (fun h => h0 h.1))
    have d0 : decide (0 ≤ x) = false := decide_eq_false h0
    clear h0
    go_enter Tryz.func133, Tryz.ntmps133
    go_wp2
    go_ret
    exact ⟨ret_bool hR.out.symm, (Below.refl _ _).alloc (Nat.le_refl _) _⟩

set_option maxHeartbeats 4000000 in
theorem fun_any (A : Option Addr) (n c : Nat) (fv mv : Value) (f : Fn) (w : World) (hn : n ≤ 9223372036854775800) :
    Calls Tryz.prog 100 #[.agg #[.slice A n c, fv, mv], fnV f] w fun e w' => e = .returned (.bool (funB n f)) ∧ Below w.heap.size w w' := by
  unfold fnV
  by_cases hl : 0 ≤ f.len ∧ f.len ≤ 3
  · have e0 : decide (f.len < 0) = false := decide_eq_false (by omega)
    have e1 : decide (3 < f.len) = false := decide_eq_false (by omega)
    have hl' := Lib.hid hl
    clear hl
    have hth := Lib.hid fun x w => there_any A n c fv mv x w hn
    have hx0 : Bx w (fbox w A n c fv mv f) ((w.alloc (.cells #[.slice A n c, fv, mv] 26)).alloc (.cells #[.string f.name, .int .i64 f.len, .int .i64 f.a0, .int .i64 f.a1, .int .i64 f.a2, .int .i64 f.res] 66)) :=
      (((Bx.nil w).row #[.slice A n c, fv, mv] 26).row #[.string f.name, .int .i64 f.len, .int .i64 f.a0, .int .i64 f.a1, .int .i64 f.a2, .int .i64 f.res] 66).cast (by simp [rowK, fbox])
    go_enter Tryz.func100, Tryz.ntmps100
    go_wp2_with fail
    refine (hth.out f.res _).mono ?_
    rintro e w1 ⟨rfl, hb1⟩
    have hx1 := hx0.step hb1
    have hres := hl'.out
    clear hb1 hx0
    cases hr : thereB n f.res with
    | false =>
      have hF := Lib.hid (funB_res (ns := n) (f := f) hr)
      have hbw := hx1.bel
      clear hres
      go_wp2_with fail
      go_ret
      exact ⟨ret_bool hF.out.symm, hbw⟩
    | true =>
      have hr' := Lib.hid hr
      clear hr
      have hx1' := Lib.hid hx1
      obtain ⟨c0, c1, c2, c3, c4, c5, c6, c7, c8, _⟩ := hx1.cells
      replace c0 := c0.1
      replace c1 := c1.1
      replace c2 := c2.1
      replace c3 := c3.1
      replace c4 := c4.1
      replace c5 := c5.1
      replace c6 := c6.1
      replace c7 := c7.1
      replace c8 := c8.1
      clear hx1 hres
      go_wp2_with fail
      clear c0 c1 c2 c3 c4 c5 c6 c7 c8
      have hix : ∀ (j : Nat) (W : World), j < 3 → (Instr.index 51 (.agg #[.int .i64 f.a0, .int .i64 f.a1, .int .i64 f.a2]) (.int .i64 j)).run Tryz.prog W = .ok (.int .i64 (f.arg j)) W := fun j W hj => run_ixF f j hj W
      have hix' := Lib.hid hix
      clear hix
      go_loopw [5, 6, 24] (fun _ _ i wr => ∃ j : Nat, j ≤ 3 ∧ i = .int .i64 j ∧ Hid (∀ k, k < j → fargB n f k = true) ∧ Hid (Bx w (fbox w A n c fv mv f) wr)) (fun _ _ i _ => 3 - (intOf i).toNat)
      case atStart => exact ⟨0, Nat.zero_le _, rfl, fun k hk => absurd hk (Nat.not_lt_zero _), hx1'.out⟩
      case round =>
        obtain ⟨j, hj, rfl, hall, hx⟩ := hrel
        have hxo := hx.out
        unfold fbox at hxo
        obtain ⟨c0, c1, c2, c3, c4, c5, c6, c7, c8, _⟩ := hxo.cells
        replace c0 := c0.1
        replace c1 := c1.1
        replace c2 := c2.1
        replace c3 := c3.1
        replace c4 := c4.1
        replace c5 := c5.1
        replace c6 := c6.1
        replace c7 := c7.1
        replace c8 := c8.1
        clear hxo
        by_cases hlt : j < 3
        · have i1 : decide ((j : Int) < 3) = true := decide_eq_true (by omega)
          have hij := fun W => hix'.out j W hlt
          have hlt' := Lib.hid hlt
          by_cases hjl : (j : Int) < f.len
          · have d1 : decide ((j : Int) < f.len) = true := decide_eq_true hjl
            have d2 : decide (f.len ≤ (j : Int)) = false := decide_eq_false (by omega)
            cases ht : thereB n (f.arg j) with
            | true =>
              have hok : Hid (fargB n f j = true) := by unfold Hid fargB; rw [if_pos hjl]; exact ht
              clear hjl hlt
              go_wp2_with (go_at_call 133; (with_reducible refine (hth.out (f.arg j) _).mono ?_); rintro e w2 ⟨rfl, hb2⟩; have hx2 := Lib.hid (hx.out.step hb2); clear hb2; have q1 := fbox_len hx2.out)
              go_roundw
              case rel => exact ⟨j + 1, by have := hlt'.out; omega, by go_num, fun k hk => by
                by_cases e : k = j
                · subst e; exact hok.out
                · exact hall.out k (by omega), hx2.out⟩
              case measure => have := hlt'.out; simp [intOf]; omega
            | false =>
              have hF := Lib.hid (funB_arg (ns := n) (f := f) hlt (by unfold fargB; rw [if_pos hjl]; exact ht))
              clear hjl hlt
              go_wp2_with (go_at_call 133; (with_reducible refine (hth.out (f.arg j) _).mono ?_); rintro e w2 ⟨rfl, hb2⟩; have hx2 := Lib.hid (hx.out.step hb2); clear hb2; have q1 := fbox_len hx2.out)
              go_ret
              exact ⟨ret_bool hF.out.symm, hx2.out.bel⟩
          · have d1 : decide ((j : Int) < f.len) = false := decide_eq_false hjl
            have d2 : decide (f.len ≤ (j : Int)) = true := decide_eq_true (by omega)
            by_cases hz : f.arg j = 0
            · have d3 : (f.arg j != 0) = false := by simpa using hz
              have hok : Hid (fargB n f j = true) := by unfold Hid fargB; rw [if_neg hjl]; exact decide_eq_true hz
              clear hjl hlt hz
              go_wp2_with fail
              go_roundw
              case rel => exact ⟨j + 1, by have := hlt'.out; omega, by go_num, fun k hk => by
                by_cases e : k = j
                · subst e; exact hok.out
                · exact hall.out k (by omega), hx.out⟩
              case measure => have := hlt'.out; simp [intOf]; omega
            · have d3 : (f.arg j != 0) = true := by simpa using hz
              have hF := Lib.hid (funB_arg (ns := n) (f := f) hlt (by unfold fargB; rw [if_neg hjl]; exact decide_eq_false hz))
              clear hjl hlt hz
              go_wp2_with fail
              go_ret
              exact ⟨ret_bool hF.out.symm, hx.out.bel⟩
        · have i1 : decide ((j : Int) < 3) = false := decide_eq_false (by omega)
          have hF := Lib.hid (funB_yes (ns := n) (f := f) hl'.out hr'.out fun i hi => hall.out i (by omega))
          clear hlt
          go_wp2_with fail
          go_ret
          exact ⟨ret_bool hF.out.symm, hx.out.bel⟩
  · have hF := Lib.hid (funB_len (ns := n) hl)
    by_cases h0 : f.len < 0
    · have e0 : decide (f.len < 0) = true := decide_eq_true h0
      clear hl h0
      go_enter Tryz.func100, Tryz.ntmps100
      go_wp2_with fail
      go_ret
      exact ⟨ret_bool hF.out.symm, ((Below.refl _ _).alloc (Nat.le_refl _) _).alloc (by simp) _⟩
    · have e0 : decide (f.len < 0) = false := decide_eq_false h0
      have e1 : decide (3 < f.len) = true := decide_eq_true (by omega)
      clear hl h0
      go_enter Tryz.func100, Tryz.ntmps100
      go_wp2_with fail
      go_ret
      exact ⟨ret_bool hF.out.symm, ((Below.refl _ _).alloc (Nat.le_refl _) _).alloc (by simp) _⟩
end Go.Proofs.YtlhnffmbjejphaaGreat
