/- atoms.arguments: a map of counts. -/
import Derived.Test.YtoppfcfalciibaaAtmA
import Derived.Test.YtoppfcfalciibaaPlaces
namespace Go.Proofs.Ytoppfcfalciibaa
open Go.RowKit Go.Maps
set_option maxRecDepth 100000

theorem int_law : Keyed Try.prog 3 := int_keyed Try.underlying3
theorem key_int {x : Int} (h : R64 x) : keyOf Try.prog 3 (.int .i64 x) = some (.int .i64 x) := keyOf_int_mk Try.underlying3 (wf_i64 h)
/-- Block b of w is a map of ints to counts S, made by at most n stores. -/
def CntAt (w : World) (b n : Nat) (S : Int → Int) : Prop :=
  ∃ D : DataW Unit, w.ownsMap Try.prog 3 (plainElem Try.prog 3) b n D ∧ ∀ x, R64 x → D.atKey (.int .i64 x) (.lit (.int .i64 0)) = .lit (.int .i64 (S x))
section
variable {w w' : World} {b n : Nat} {S : Int → Int}
theorem CntAt.made (w : World) : CntAt (w.alloc (.map #[] 0)) w.heap.size 0 (fun _ => 0) := ⟨.map [], World.ownsMap_made _ _ _ _, fun _ _ => rfl⟩
theorem CntAt.lt (h : CntAt w b n S) : b < w.heap.size := by obtain ⟨D, h, _⟩ := h; exact h.lt
theorem CntAt.kept {row : Option Nat} (h : CntAt w b n S) (hg : w.grownBy w' row) (hne : some b ≠ row) : CntAt w' b n S := by
  obtain ⟨D, h, hS⟩ := h
  exact ⟨D, h.kept hg hne, hS⟩
theorem CntAt.alloc (h : CntAt w b n S) (o : Obj) : CntAt (w.alloc o) b n S := h.kept (World.grownBy_alloc w o none) (by simp)
theorem CntAt.below {B : Nat} (h : CntAt w b n S) (hb : Below B w w') (hB : b < B) : CntAt w' b n S := by
  obtain ⟨D, ⟨es, clock, h1, h2⟩, hS⟩ := h
  exact ⟨D, ⟨es, clock, (hb.block b hB).trans h1, h2⟩, hS⟩
theorem CntAt.look (h : CntAt w b n S) {x : Int} (hx : R64 x) : (Instr.lookup 113 (.map (some b)) (.int .i64 x) false).run Try.prog w = .ok (.int .i64 (S x)) w := by
  obtain ⟨D, ho, hS⟩ := h
  obtain ⟨c, hrun, hat, _⟩ := ho.lookup_int int_law Try.underlying113 Try.underlying3 (zero_int w) (key_int hx)
  rw [hS x hx] at hat
  simp only [DataW.lit.injEq, Lit.int.injEq, true_and] at hat
  rw [hrun, hat]
theorem CntAt.store (h : CntAt w b n S) (hn : n < maxLen) {x k : Int} (hx : R64 x) (hk : R64 k) :
    ∃ w', (Instr.mapUpdate 113 (.map (some b)) (.int .i64 x) (.int .i64 k)).run Try.prog w = .ok () w' ∧ CntAt w' b (n + 1) (fun y => if y = x then k else S y) ∧ w.grownBy w' (some b) := by
  obtain ⟨D, ho, hS⟩ := h
  obtain ⟨w', hrun, h1, h2⟩ := ho.update int_law Try.underlying113 hn (key_int hx) (plainElem_int Try.underlying3 (wf_i64 hk))
  have hkl : WideAt.IsKeyLit (.int .i64 x) := int_law.key (key_int hx)
  refine ⟨w', hrun, ⟨_, h1, fun y hy => ?_⟩, h2⟩
  by_cases e : y = x
  · subst e
    simp only [if_true]
    rw [atKey_put_same ho.isMap hkl]
  · simp only [e, if_false]
    rw [atKey_put_other (by intro h; injection h with _ h; exact e h)]
    exact hS y hy
end
theorem wpList_count {w : World} {ops : Array Oper} {rest : List Oper} {o : Oper} {a : Act} {Q : Exit → Act → World → Prop} (hg : o.guard = none) (m x v : Operand) (hop : o.op = Op.mapUpdate 113 m x v)
    (b n : Nat) (S : Int → Int) (hm : a.eval m = .map (some b)) (h : CntAt w b n S) (hn : n < maxLen) (y k : Int) (hx : a.eval x = .int .i64 y) (hv : a.eval v = .int .i64 k) (hy : R64 y) (hk : R64 k)
    (hK : ∀ w', CntAt w' b (n + 1) (fun z => if z = y then k else S z) → w.grownBy w' (some b) → wpList Try.prog ops Q rest (a.put o.dst undef) w') :
    wpList Try.prog ops Q (o :: rest) a w := by
  refine wpList_plain hg fun K' hK' => ?_
  obtain ⟨w', hrun, r1, r2⟩ := h.store hn hy hk
  unfold Oper.wp
  simp [execOp, hop, hm, hx, hv, hrun, Result.andThen]
  exact hK' _ _ (hK w' r1 r2)

/-- x is an argument, bare, of an application among the first i nodes, or of the i-th's first k arguments. -/
def ArgU (N : Nat → Nd) (i k : Nat) (x : Int) : Prop :=
  ∃ p q : Nat, ((p < i ∧ (q : Int) < (N p).len) ∨ (p = i ∧ q < k)) ∧ (N p).op = 13 ∧ ∃ j r, BareR N ((N p).arg q).toNat false j r ∧ x = (j : Nat)
def CntOk (N : Nat → Nd) (i k m : Nat) (S : Int → Int) : Prop := ∀ x, (0 ≤ S x ∧ S x ≤ m) ∧ (0 < S x ↔ ArgU N i k x)
theorem CntOk.skip {N : Nat → Nd} {i k m : Nat} {S : Int → Int} (h : CntOk N i k m S) (hop : (N i).op ≠ 13) : CntOk N i (k + 1) m S := fun x => by
  refine ⟨(h x).1, (h x).2.trans ⟨?_, ?_⟩⟩
  · rintro ⟨p, q, h1, h2⟩
    exact ⟨p, q, by omega, h2⟩
  · rintro ⟨p, q, h1, h2, h3⟩
    rcases h1 with h1 | ⟨rfl, h1⟩
    · exact ⟨p, q, .inl h1, h2, h3⟩
    · exact absurd h2 hop
theorem CntOk.put {N : Nat → Nd} {i k m : Nat} {S : Int → Int} (h : CntOk N i k m S) (hop : (N i).op = 13) {j : Nat} {r : Bool} (hb : BareR N ((N i).arg k).toNat false j r) : CntOk N i (k + 1) (m + 1) (fun y => if y = (j : Int) then S j + 1 else S y) := fun x => by
  obtain ⟨⟨a0, a1⟩, a2⟩ := h x
  by_cases e : x = (j : Int)
  · subst e
    simp only [if_true]
    exact ⟨by omega, fun _ => ⟨i, k, .inr ⟨rfl, by omega⟩, hop, j, r, hb, rfl⟩, fun _ => by omega⟩
  · simp only [e, if_false]
    refine ⟨by omega, a2.trans ⟨?_, ?_⟩⟩
    · rintro ⟨p, q, h1, h2⟩
      exact ⟨p, q, by omega, h2⟩
    · rintro ⟨p, q, h1, h2, j', r', h3, h4⟩
      rcases h1 with h1 | ⟨rfl, h1⟩
      · exact ⟨p, q, .inl h1, h2, j', r', h3, h4⟩
      · by_cases eq : q = k
        · subst eq
          obtain ⟨rfl, _⟩ := bare_det hb h3
          exact absurd h4 e
        · exact ⟨p, q, .inr ⟨rfl, by omega⟩, h2, j', r', h3, h4⟩
theorem CntOk.next {N : Nat → Nd} {i k m : Nat} {S : Int → Int} (h : CntOk N i k m S) (hk : (k : Int) = (N i).len) : CntOk N (i + 1) 0 m S := fun x => by
  refine ⟨(h x).1, (h x).2.trans ⟨?_, ?_⟩⟩
  · rintro ⟨p, q, h1, h2⟩
    exact ⟨p, q, .inl (by rcases h1 with h1 | ⟨rfl, h1⟩ <;> omega), h2⟩
  · rintro ⟨p, q, h1, h2⟩
    refine ⟨p, q, ?_, h2⟩
    rcases h1 with ⟨h1, h3⟩ | h1
    · by_cases e : p = i
      · subst e; exact .inr ⟨rfl, by omega⟩
      · exact .inl ⟨by omega, h3⟩
    · omega
theorem cntOk0 (N : Nat → Nd) : CntOk N 0 0 (3 * 0) (fun _ => 0) := fun x => by
  refine ⟨⟨Int.le_refl 0, Int.le_refl 0⟩, fun h => absurd h (Int.lt_irrefl 0), ?_⟩
  rintro ⟨p, q, h, _⟩
  omega
def argN (n : Nat) (N : Nat → Nd) (x : Int) : Prop := ArgU N n 0 x
theorem CheckP.args {n : Nat} {N : Nat → Nd} (h : CheckP n N) {i k : Nat} (hi : i < n) (hk : (k : Int) < (N i).len) : 0 ≤ (N i).arg k ∧ (N i).arg k < i ∧ k < 3 := by
  have hs := h.all i hi
  have := hs.len3
  have hk3 : k = 0 ∨ k = 1 ∨ k = 2 := by omega
  rcases hk3 with rfl | rfl | rfl
  · exact ⟨(hs.arg0.1 hk).1, (hs.arg0.1 hk).2, by omega⟩
  · exact ⟨(hs.arg1.1 hk).1, (hs.arg1.1 hk).2, by omega⟩
  · exact ⟨(hs.arg2.1 hk).1, (hs.arg2.1 hk).2, by omega⟩
def ArgsPost (n : Nat) (N : Nat → Nd) (w : World) (x : Ending) (w' : World) : Prop :=
  ∃ b m S, x = .returned (.map (some b)) ∧ CntAt w' b m S ∧ CntOk N n 0 (3 * n) S ∧ w.heap.size ≤ b ∧ Below w.heap.size w w'

set_option maxHeartbeats 4000000 in
theorem Args_any (B : Nat) (A : Option Addr) (n c : Nat) (N : Nat → Nd) (w : World) (hB : w.cell? ⟨B, 0, none⟩ = some (.slice A n c)) (hBs : B < w.heap.size) (hv : NdsAt w (.slice A n c) n N) (hn : n ≤ 1000000) (hch : CheckP n N) :
    Calls Try.prog 66 #[.pointer (some ⟨B, 0, none⟩)] w (ArgsPost n N w) := by
  have hv' := Lib.hid hv
  have hr := Lib.hid hv.ranges
  have hch' := Lib.hid hch
  obtain ⟨A', c', eA, hc, _, hcs⟩ := hv
  injection eA with eA1 _ eA3
  subst eA1
  have eA3' := Lib.hid eA3
  clear eA3
  obtain ⟨b, o, rfl, hbl, hcs⟩ := hcs (by have := hch.two; omega)
  have hcs' := Lib.hid hcs
  have hmk : (Instr.makeMap 113 none).run Try.prog w = .ok (.map (some w.heap.size)) (w.alloc (.map #[] 0)) := by
    simp [Instr.makeMap]
  have hB0 := Lib.hid hB
  clear hcs hch
  go_enter Try.func66, Try.ntmps66
  go_wp2
  clear hmk
  have hb0 : Below w.heap.size w (w.alloc (.map #[] 0)) := (Below.refl _ _).alloc (Nat.le_refl _) _
  go_loopw [15] (fun x wr => ∃ (i m : Nat) (S : Int → Int), i ≤ n ∧ x = .int .i64 i ∧ Hid (CntAt wr w.heap.size m S) ∧ Hid (CntOk N i 0 (3 * i) S) ∧ m ≤ 3 * i ∧ w.heap.size < wr.heap.size ∧ Below w.heap.size w wr) (fun x _ => n - (intOf x).toNat)
  case atStart => exact ⟨0, 0, fun _ => 0, Nat.zero_le _, rfl, CntAt.made w, cntOk0 N, by omega, by simp, hb0⟩
  case round =>
    clear hB hb0
    obtain ⟨i, m, S, hi, rfl, hcnt, hok, hm, hzr, hb⟩ := hrel
    by_cases hlt : i < n
    · obtain ⟨e0, e1, e2, e3, e4, e5, e6, e7⟩ := (hcs'.out i hlt).below hb hbl
      have hst := hch'.out.all i hlt
      have hl0 := hst.len0
      have hl3 := hst.len3
      have hnd : Hid (NdIn (wr.alloc (.cells #[.int .i8 (N i).op, .int .i8 (N i).len, .int .i64 (N i).a0, .int .i64 (N i).a1, .int .i64 (N i).a2, .int .i64 (N i).sort, .int .i64 (N i).fn, .int .i64 (N i).num] 28)) wr.heap.size 0 (N i)) := ⟨by simp, by simp, by simp, by simp, by simp, by simp, by simp, by simp⟩
      have hcnt1 := Lib.hid (hcnt.out.alloc (.cells #[.int .i8 (N i).op, .int .i8 (N i).len, .int .i64 (N i).a0, .int .i64 (N i).a1, .int .i64 (N i).a2, .int .i64 (N i).sort, .int .i64 (N i).fn, .int .i64 (N i).num] 28))
      have hb1 : Below w.heap.size w (wr.alloc (.cells #[.int .i8 (N i).op, .int .i8 (N i).len, .int .i64 (N i).a0, .int .i64 (N i).a1, .int .i64 (N i).a2, .int .i64 (N i).sort, .int .i64 (N i).fn, .int .i64 (N i).num] 28)) := hb.alloc (by omega) _
      have hz1 : wr.heap.size < (wr.alloc (.cells #[.int .i8 (N i).op, .int .i8 (N i).len, .int .i64 (N i).a0, .int .i64 (N i).a1, .int .i64 (N i).a2, .int .i64 (N i).sort, .int .i64 (N i).fn, .int .i64 (N i).num] 28)).heap.size := by simp
      clear hst
      go_wp2
      clear e0 e1 e2 e3 e4 e5 e6 e7
      generalize wr.alloc (.cells #[.int .i8 (N i).op, .int .i8 (N i).len, .int .i64 (N i).a0, .int .i64 (N i).a1, .int .i64 (N i).a2, .int .i64 (N i).sort, .int .i64 (N i).fn, .int .i64 (N i).num] 28) = w1 at *
      obtain ⟨wo, rfl⟩ : ∃ wo : World, wo = wr := ⟨_, rfl⟩
      go_loopw [22] (fun x wx => ∃ (k m' : Nat) (S' : Int → Int), (k : Int) ≤ (N i).len ∧ x = .int .i64 k ∧ Hid (CntAt wx w.heap.size m' S') ∧ Hid (CntOk N i k (3 * i + k) S') ∧ m' ≤ 3 * i + k ∧ Hid (NdIn wx wo.heap.size 0 (N i)) ∧ wo.heap.size < wx.heap.size ∧ Below w.heap.size w wx) (fun x _ => ((N i).len - intOf x).toNat)
      case atStart => exact ⟨0, m, S, by omega, rfl, hcnt1.out, hok.out, by omega, hnd.out, hz1, hb1⟩
      case round =>
        clear hcnt1 hnd hz1 hb1 hb hcnt hok hm
        obtain ⟨k, m', S', hk, rfl, hcnt, hok, hm, hnd, hzx, hb⟩ := hrel
        by_cases hlk : (k : Int) < (N i).len
        · obtain ⟨a0, a1, hk3⟩ := hch'.out.args hlt hlk
          obtain ⟨f0, f1, f2, f3, f4, f5, f6, f7⟩ := hnd.out
          simp only [Nat.zero_add] at f1 f2 f3 f4 f5 f6 f7
          have hck : wr.cell? ⟨wo.heap.size, 2 + k, none⟩ = some (.int .i64 ((N i).arg k)) := by
            have h3 : k = 0 ∨ k = 1 ∨ k = 2 := by omega
            rcases h3 with rfl | rfl | rfl
            · exact f2
            · exact f3
            · exact f4
          by_cases h13 : (N i).op = 13
          · have d13 : ((N i).op == 13) = true := by simpa using h13
            obtain ⟨p, hp⟩ := Int.eq_ofNat_of_zero_le a0
            have hpn : p < n := by omega
            obtain ⟨j, r, hbr⟩ := bare_total hch'.out p hpn false
            have hbr' := Lib.hid hbr
            have hjp := hbr.lt hch'.out hpn
            have hok' : Hid (CntOk N i (k + 1) (3 * i + k + 1) (fun y => if y = (j : Int) then S' j + 1 else S' y)) := hok.out.put h13 (r := r) (by rw [hp, Int.toNat_natCast]; exact hbr)
            obtain ⟨s0, s1⟩ := (hok.out j).1
            have hzz := hb.size
            rw [hp] at hck
            clear f0 f2 f3 f4 f5 f6 f7 hbr h13 hp a0 a1
            obtain ⟨f0, _⟩ := hnd.out
            go_wp2_with fail
            refine (Bare_any B _ n c p N wr ((hb.cell (p := ⟨B, 0, none⟩) hBs).trans hB0.out) (hv'.out.below hb) hn hch'.out hpn j r hbr'.out).mono ?_
            rintro x w3 ⟨rfl, d3, rfl⟩
            have hcnt3 : Hid (CntAt (wr.drewN d3) w.heap.size m' S') := hcnt.out.below (below_drewN (Below.refl wr.heap.size wr) d3) (by omega)
            have hlook := hcnt3.out.look (x := j) (by unfold R64; omega)
            go_wp2_with (at_mapUpdate; refine wpList_count rfl _ _ _ rfl w.heap.size m' S' rfl hcnt3.out (by unfold maxLen; omega) j (S' j + 1) rfl rfl (by unfold R64; omega) (by unfold R64; omega) ?_)
            intro w4 hc4 hg4
            have hb4 : Below w.heap.size w w4 := (below_drewN hb d3).trans ((Below.refl w.heap.size (wr.drewN d3)).grown hg4 hb.size (fun q e => by cases e; exact Nat.le_refl _))
            have hsz4 := hg4.size
            have hnd4 : Hid (NdIn w4 wo.heap.size 0 (N i)) := hnd.out.keep fun q => hg4.cell_far ⟨wo.heap.size, q, none⟩ hzx (by intro e; injection e with e; exact absurd (show wo.heap.size = w.heap.size from e) (by omega))
            clear hlook hck f0 f1
            go_wp2
            go_roundw
            case rel => exact ⟨k + 1, m' + 1, _, by omega, by go_num, hc4, by rw [show 3 * i + (k + 1) = 3 * i + k + 1 by omega]; exact hok'.out, by omega, hnd4.out, by simp at hsz4; omega, hb4⟩
            case measure => simp [intOf]; omega
          · have d13 : ((N i).op == 13) = false := by simpa using h13
            have hok' : Hid (CntOk N i (k + 1) (3 * i + (k + 1)) S') := fun x => by
              have := hok.out.skip h13 x
              exact ⟨by omega, this.2⟩
            clear hck f2 f3 f4 f5 f6 f7 h13
            go_wp2
            go_roundw
            case rel => exact ⟨k + 1, m', S', by omega, by go_num, hcnt.out, hok'.out, by omega, hnd.out, hzx, hb⟩
            case measure => simp [intOf]; omega
        · have hkl : (k : Int) = (N i).len := by omega
          have hok' : Hid (CntOk N (i + 1) 0 (3 * (i + 1)) S') := fun x => by
            have := hok.out.next hkl x
            exact ⟨by omega, this.2⟩
          go_wp2
          go_roundw
          case rel => exact ⟨i + 1, m', S', by omega, by go_num, hcnt.out, hok'.out, by omega, by omega, hb⟩
          case measure => simp [intOf]; omega
    · obtain rfl : i = n := by omega
      go_wp2
      go_ret
      exact ⟨w.heap.size, m, S, rfl, hcnt.out, hok.out, Nat.le_refl _, hb⟩
end Go.Proofs.Ytoppfcfalciibaa
