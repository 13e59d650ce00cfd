/- sig.Sort, Fun, Macro, Free. -/
import Derived.Test.YthkbekfdjfmmbaaFindF
import Derived.Test.YthkbekfdjfmmbaaRowG
import Derived.Test.YthkbekfdjfmmbaaSigD
namespace Go.Proofs.Ythkbekfdjfmmbaa
open Go.RowKit
set_option maxRecDepth 100000

/-- The names of sorts: Bool, Int, those that are declared. -/
def sortN (g : Sg) (i : Nat) : ByteArray := if i < 2 then (if i = 0 then boolS else intS) else g.S (i - 2)
def sortI (g : Sg) (name : ByteArray) : Int := firstI (g.ns + 2) fun i => eqS (sortN g i) name
def funI (g : Sg) (name : ByteArray) : Int := firstI g.nf fun i => eqS (g.F i).name name
def macI (g : Sg) (name : ByteArray) : Int := firstI g.nm fun i => eqS (g.M i).name name
theorem Fun_any (sv fv mv : Value) (g : Sg) (name : ByteArray) (w : World) (hG : SgAt w sv fv mv g) :
    Calls Try.prog 20 #[.agg #[sv, fv, mv], .string name] w fun e w' => e = .returned (findV (funI g name)) ∧ Below w.heap.size w w' := by
  have hb := (Below.refl w.heap.size w).alloc (Nat.le_refl _) (.cells #[sv, fv, mv] 26)
  have hc := Lib.hid (find_fun fv g.nf g.F name _ (hG.2.1.below hb))
  go_enter Try.func20, Try.ntmps20
  go_wp2_with fail
  refine hc.out.mono ?_
  rintro e w2 ⟨rfl, hb2⟩
  have hbw := Lib.hid (hb.trans (hb2.mono hb.size))
  clear hb hb2
  unfold findV
  go_wp2
  go_ret2
  exact ⟨rfl, hbw.out⟩
theorem Macro_any (sv fv mv : Value) (g : Sg) (name : ByteArray) (w : World) (hG : SgAt w sv fv mv g) :
    Calls Try.prog 37 #[.agg #[sv, fv, mv], .string name] w fun e w' => e = .returned (findV (macI g name)) ∧ Below w.heap.size w w' := by
  have hb := (Below.refl w.heap.size w).alloc (Nat.le_refl _) (.cells #[sv, fv, mv] 26)
  have hc := Lib.hid (find_mac mv g.nm g.M name _ (hG.2.2.below hb))
  go_enter Try.func37, Try.ntmps37
  go_wp2_with fail
  refine hc.out.mono ?_
  rintro e w2 ⟨rfl, hb2⟩
  have hbw := Lib.hid (hb.trans (hb2.mono hb.size))
  clear hb hb2
  unfold findV
  go_wp2
  go_ret2
  exact ⟨rfl, hbw.out⟩
theorem Sort_any (sv fv mv : Value) (g : Sg) (name : ByteArray) (w : World) (hG : SgAt w sv fv mv g) (hf : FewG g) :
    Calls Try.prog 16 #[.agg #[sv, fv, mv], .string name] w fun e w' => e = .returned (findV (sortI g name)) ∧ Below w.heap.size w w' := by
  have hns := hf.ns
  have hb := ((Below.refl w.heap.size w).alloc (Nat.le_refl _) (.cells #[sv, fv, mv] 26)).alloc (by simp) (.cells #[.string ⟨#[66, 111, 111, 108]⟩, .string ⟨#[73, 110, 116]⟩] 9)
  have hS := hG.1.below hb
  have hR : ∀ i, i < g.ns → StrR (g.S i) := fun i hi => by
    obtain ⟨_, _, _, _, hc⟩ := hG.1
    obtain ⟨_, _, _, _, hc⟩ := hc (by omega)
    exact (hc i hi).2
  have ho : OwnG ((w.alloc (.cells #[sv, fv, mv] 26)).alloc (.cells #[.string ⟨#[66, 111, 111, 108]⟩, .string ⟨#[73, 110, 116]⟩] 9)) w.heap.size 9 1 (.slice (some ⟨(w.alloc (.cells #[sv, fv, mv] 26)).heap.size, 0, none⟩) 2 2) 2 (strC fun i => if i = 0 then boolS else intS) :=
    own_lit _ _ _ 1 2 _ _ (by simp) (by unfold maxLen; omega) rfl rfl
  rw [World.size_alloc] at ho
  have hR' := Lib.hid hR
  have hS' := Lib.hid hS
  have ho' := Lib.hid ho
  have hb' := Lib.hid hb
  clear hR hS ho hb
  go_enter Try.func16, Try.ntmps16
  go_wp2_with (at_builtin; refine wpList_appS rfl rfl _ _ rfl w.heap.size _ 2 _ rfl ho'.out sv g.ns g.S rfl hS'.out (by omega) (by simp; omega) ?_; intro v' w2 hown hb2 _)
  have hst : StrsAt w2 v' (2 + g.ns) (sortN g) := (hown.strs (fun i hi => by
    show StrR (if i < 2 then _ else _)
    split
    · split
      · exact boolS_R
      · exact intS_R
    · exact hR'.out _ (by omega)))
  have hb2' := Lib.hid hb2
  have hc := Lib.hid (find_str v' (2 + g.ns) (sortN g) name w2 hst)
  clear hown hb2 hst
  go_wp2_with fail
  refine hc.out.mono ?_
  rintro e w3 ⟨rfl, hb3⟩
  have hbw : Hid (Below w.heap.size w w3) := hb'.out.trans (hb2'.out.trans (hb3.mono (by have := hb2'.out.size; simp at this; omega)))
  have hI : Hid (sortI g name = firstI (2 + g.ns) fun i => eqS (sortN g i) name) := by unfold Hid sortI; rw [Nat.add_comm]
  clear hb3 hb2' hb' hc
  generalize (firstI (2 + g.ns) fun i => eqS (sortN g i) name) = r at *
  unfold findV
  go_wp2
  go_ret2
  exact ⟨by rw [hI.out]; rfl, hbw.out⟩
end Go.Proofs.Ythkbekfdjfmmbaa
