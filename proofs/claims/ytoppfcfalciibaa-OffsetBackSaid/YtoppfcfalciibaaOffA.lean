/- summer.add, summer.sub. -/
import Derived.Test.YtoppfcfalciibaaNumAdd
namespace Go.Proofs.Ytoppfcfalciibaa
open Go.RowKit
set_option maxRecDepth 100000

/-- A summer at block g. -/
structure SBox (g : Nat) (k er : Int) (w : World) : Prop where
  n : w.cell? ⟨g, 0, none⟩ = some (.int .i64 k)
  e : w.cell? ⟨g, 1, none⟩ = some (.int .i64 er)
  fn : w.frozen? ⟨g, 0, none⟩ = false
  fe : w.frozen? ⟨g, 1, none⟩ = false
  lt : g < w.heap.size
theorem SBox.step {g : Nat} {k er : Int} {w w' : World} (h : SBox g k er w) (hb : Below w.heap.size w w') : SBox g k er w' :=
  ⟨(hb.cell (p := ⟨g, 0, none⟩) h.lt).trans h.n, (hb.cell (p := ⟨g, 1, none⟩) h.lt).trans h.e, (hb.frozen (p := ⟨g, 0, none⟩) h.lt).trans h.fn, (hb.frozen (p := ⟨g, 1, none⟩) h.lt).trans h.fe, by have := hb.size; have := h.lt; omega⟩
theorem SBox.put {g : Nat} {k er : Int} {w : World} (h : SBox g k er w) (k' er' : Int) : SBox g k' er' ((w.setCell ⟨g, 0, none⟩ (.int .i64 k')).setCell ⟨g, 1, none⟩ (.int .i64 er')) := by
  have ne : (⟨g, 1, none⟩ : Addr) ≠ ⟨g, 0, none⟩ := by intro e; injection e with _ e; cases e
  have c0 : (w.setCell ⟨g, 0, none⟩ (.int .i64 k')).cell? ⟨g, 0, none⟩ = some (.int .i64 k') := World.cell?_setCell_same' _ _ _ (by rw [h.n]; rfl)
  have c1 : (w.setCell ⟨g, 0, none⟩ (.int .i64 k')).cell? ⟨g, 1, none⟩ = some (.int .i64 er) := (World.cell?_setCell_other _ _ _ _ ne.symm).trans h.e
  refine ⟨(World.cell?_setCell_other _ _ _ _ ne).trans c0, World.cell?_setCell_same' _ _ _ (by rw [c1]; rfl), ?_, ?_, by simpa using h.lt⟩
  · rw [World.frozen?_setCell, World.frozen?_setCell]; exact h.fn
  · rw [World.frozen?_setCell, World.frozen?_setCell]; exact h.fe
def SPost (g : Nat) (ok : Bool) (k er k0 : Int) (w : World) (x : Ending) (w' : World) : Prop :=
  (∃ v, x = .returned v) ∧ SBox g (if er = 0 then (if ok then k else 0) else k0) (if er = 0 then (if ok then 0 else 10) else er) w' ∧ Below g w w'

theorem Sadd_no (g : Nat) (k er x : Int) (w : World) (h : SBox g k er w) (he : er ≠ 0) :
    Calls Try.prog 60 #[.pointer (some ⟨g, 0, none⟩), .int .i64 x] w (SPost g (addOk k x) (k + x) er k w) := by
  have hh := Lib.hid h
  obtain ⟨c0, c1, f0, f1, hg⟩ := h
  have d0 : (er == 0) = false := by simpa using he
  have he' := Lib.hid he
  clear he
  go_enter Try.func60, Try.ntmps60
  go_wp2
  go_end0
  exact ⟨⟨_, rfl⟩, by rw [if_neg he'.out, if_neg he'.out]; exact hh.out, Below.refl _ _⟩
theorem Sadd_yes (g : Nat) (k x : Int) (w : World) (h : SBox g k 0 w) (hk : R64 k) (hx : R64 x) :
    Calls Try.prog 60 #[.pointer (some ⟨g, 0, none⟩), .int .i64 x] w (SPost g (addOk k x) (k + x) 0 k w) := by
  have hh := Lib.hid h
  obtain ⟨c0, c1, f0, f1, hg⟩ := h
  go_enter Try.func60, Try.ntmps60
  go_wp2_with fail
  refine (NAdd_any k x w hk hx).mono ?_
  rintro e w2 ⟨rfl, hb2⟩
  have hs2 := hh.out.step hb2
  have hs2' := Lib.hid hs2
  obtain ⟨c0', c1', f0', f1', hg'⟩ := hs2
  clear c0 c1 f0 f1
  cases hok : addOk k x with
  | true =>
    rw [numV_yes rfl]
    go_wp2
    go_end0
    exact ⟨⟨_, rfl⟩, by rw [if_pos rfl, if_pos rfl, if_pos hok, if_pos hok]; exact hs2'.out.put _ _, ((hb2.mono (Nat.le_of_lt hg)).setCell (Nat.le_refl _) _).setCell (Nat.le_refl _) _⟩
  | false =>
    rw [numV_no rfl]
    go_wp2
    go_end0
    exact ⟨⟨_, rfl⟩, by rw [if_pos rfl, if_pos rfl, if_neg (by rw [hok]; decide), if_neg (by rw [hok]; decide)]; exact hs2'.out.put _ _, ((hb2.mono (Nat.le_of_lt hg)).setCell (Nat.le_refl _) _).setCell (Nat.le_refl _) _⟩
theorem Sadd_any (g : Nat) (k er x : Int) (w : World) (h : SBox g k er w) (hk : R64 k) (hx : R64 x) :
    Calls Try.prog 60 #[.pointer (some ⟨g, 0, none⟩), .int .i64 x] w (SPost g (addOk k x) (k + x) er k w) := by
  by_cases he : er = 0
  · subst he; exact Sadd_yes g k x w h hk hx
  · exact Sadd_no g k er x w h he
theorem Ssub_no (g : Nat) (k er x : Int) (w : World) (h : SBox g k er w) (he : er ≠ 0) :
    Calls Try.prog 61 #[.pointer (some ⟨g, 0, none⟩), .int .i64 x] w (SPost g (subOk k x) (k - x) er k w) := by
  have hh := Lib.hid h
  obtain ⟨c0, c1, f0, f1, hg⟩ := h
  have d0 : (er == 0) = false := by simpa using he
  have he' := Lib.hid he
  clear he
  go_enter Try.func61, Try.ntmps61
  go_wp2
  go_end0
  exact ⟨⟨_, rfl⟩, by rw [if_neg he'.out, if_neg he'.out]; exact hh.out, Below.refl _ _⟩
theorem Ssub_yes (g : Nat) (k x : Int) (w : World) (h : SBox g k 0 w) (hk : R64 k) (hx : R64 x) :
    Calls Try.prog 61 #[.pointer (some ⟨g, 0, none⟩), .int .i64 x] w (SPost g (subOk k x) (k - x) 0 k w) := by
  have hh := Lib.hid h
  obtain ⟨c0, c1, f0, f1, hg⟩ := h
  go_enter Try.func61, Try.ntmps61
  go_wp2_with fail
  refine (NSub_any k x w hk hx).mono ?_
  rintro e w2 ⟨rfl, hb2⟩
  have hs2 := hh.out.step hb2
  have hs2' := Lib.hid hs2
  obtain ⟨c0', c1', f0', f1', hg'⟩ := hs2
  clear c0 c1 f0 f1
  cases hok : subOk k x with
  | true =>
    rw [numV_yes rfl]
    go_wp2
    go_end0
    exact ⟨⟨_, rfl⟩, by rw [if_pos rfl, if_pos rfl, if_pos hok, if_pos hok]; exact hs2'.out.put _ _, ((hb2.mono (Nat.le_of_lt hg)).setCell (Nat.le_refl _) _).setCell (Nat.le_refl _) _⟩
  | false =>
    rw [numV_no rfl]
    go_wp2
    go_end0
    exact ⟨⟨_, rfl⟩, by rw [if_pos rfl, if_pos rfl, if_neg (by rw [hok]; decide), if_neg (by rw [hok]; decide)]; exact hs2'.out.put _ _, ((hb2.mono (Nat.le_of_lt hg)).setCell (Nat.le_refl _) _).setCell (Nat.le_refl _) _⟩
theorem Ssub_any (g : Nat) (k er x : Int) (w : World) (h : SBox g k er w) (hk : R64 k) (hx : R64 x) :
    Calls Try.prog 61 #[.pointer (some ⟨g, 0, none⟩), .int .i64 x] w (SPost g (subOk k x) (k - x) er k w) := by
  by_cases he : er = 0
  · subst he; exact Ssub_yes g k x w h hk hx
  · exact Ssub_no g k er x w h he
end Go.Proofs.Ytoppfcfalciibaa
