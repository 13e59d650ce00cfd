/- core.ways, (*maker).done. -/
import Derived.Test.YtecmoahadckomaaZMkIMkJ
import Derived.Laws.CopyOwn
import Derived.Maps.AppendAt
namespace Go.Proofs.Ytecmoahadckomaa
open Go.RowKit Go.Maps
set_option maxRecDepth 100000

def waysA : Array Value := #[.func (.func 35) #[] #[], .func (.func 36) #[] #[], .func (.func 37) #[] #[], .func (.func 37) #[] #[], .func (.func 38) #[] #[], .func (.func 39) #[] #[], .func (.func 40) #[] #[], .func (.func 41) #[] #[], .func (.func 42) #[] #[], .func (.func 43) #[] #[], .func (.func 44) #[] #[], .func (.func 45) #[] #[], .func (.func 46) #[] #[], .func (.func 47) #[] #[]]
theorem waysA_at {i : Nat} (h : i < 14) : waysA[i]? = some (.func (.func (wayK (i : Int))) #[] #[]) := by
  have : i = 0 ∨ i = 1 ∨ i = 2 ∨ i = 3 ∨ i = 4 ∨ i = 5 ∨ i = 6 ∨ i = 7 ∨ i = 8 ∨ i = 9 ∨ i = 10 ∨ i = 11 ∨ i = 12 ∨ i = 13 := by omega
  rcases this with rfl | rfl | rfl | rfl | rfl | rfl | rfl | rfl | rfl | rfl | rfl | rfl | rfl | rfl <;> rfl
theorem waysA_size : (Try.prog.info? 48).map (·.size) = some waysA.size := by kernel_rfl
theorem waysA_one : waysA.all (·.oneCell') = true := by kernel_rfl
theorem results_way12 {fn : Func} {p : Tmp} (h : fn.results = #[.cell p 48]) (tmps : Array Value) (w : World) (g : Nat)
    (hp : tmps.getD p undef = .pointer (some ⟨g, 0, none⟩)) (hc : w.heap[g]? = some (.cells waysA 48 (0, 0))) : (results fn tmps).run Try.prog w = .ok (.agg waysA) w := by
  have hp' : tmps[p]?.getD undef = .pointer (some ⟨g, 0, none⟩) := by simpa using hp
  have hl := run_loadVar_row (P := Try.prog) w g 48 48 waysA (0, 0) _ hc Try.underlying48 rfl waysA_size
  simp [results, h, hp', asAddr, hl]
set_option maxHeartbeats 4000000 in
theorem ways12_any (w : World) : Calls Try.prog 21 #[] w fun e w' => e = .returned (.agg waysA) ∧ Below w.heap.size w w' := by
  go_enter Try.func21, Try.ntmps21
  go_wp2_with (refine wpList_store_last rfl rfl (.tmp 0) (.tmp 1) rfl w.heap.size rfl rfl (c' := waysA) rfl waysA_size rfl waysA_one ?_)
  refine bodyPost_ret (results_way12 rfl _ _ w.heap.size rfl (heap_alloc_new _ _)) rfl ⟨rfl, (Below.refl _ _).alloc (Nat.le_refl _) _⟩
def DoneP (s : CSt) (id : Int) (w : World) (z : Ending) (w' : World) : Prop :=
  ∃ v', z = .returned (.tuple #[.agg #[v'], .int .i64 (if s.e = 0 then id else 0), .int .i64 s.e]) ∧ (s.e = 0 → NdsAt w' v' s.n s.N) ∧ (s.e ≠ 0 → v' = .slice none 0 0) ∧ Below w.heap.size w w'
set_option maxHeartbeats 4000000 in
theorem MkDone_any (g : Nat) (most : Int) (s : CSt) (id : Int) (w : World) (hM : MkrAt w g most s) :
    Calls Try.prog 23 #[.pointer (some ⟨g, 0, none⟩), .int .i64 id] w (DoneP s id w) := by
  have hbA := Lib.hid ((Below.refl w.heap.size w).alloc (Nat.le_refl _) (.cells #[.slice none 0 0] 24))
  have hl := hM.lt
  obtain ⟨A, c, p0, -, p2, -, -, hN⟩ := hM.cells
  have q0 := (hbA.out.cell (p := ⟨g, 0, none⟩) hl).trans p0
  have q2 := (hbA.out.cell (p := ⟨g, 2, none⟩) hl).trans p2
  have hx0 := (Bx.nil w).one (.slice none 0 0) 24
  obtain ⟨⟨r0, rz⟩, -⟩ := hx0.cells
  have hN' := Lib.hid hN
  clear hM hN p0 p2
  by_cases he : s.e = 0
  · have d : (s.e != 0) = false := by rw [he]; rfl
    have he' := Lib.hid he
    clear he
    go_enter Try.func23, Try.ntmps23
    go_wp2_with fail
    refine bodyPost_ret (results_tab2 rfl _ _ w.heap.size (.slice A s.n c) rfl (by simp)) rfl ⟨_, by rw [if_pos he'.out, he'.out]; rfl, fun _ => hN'.out.alloc _, fun h => absurd he'.out h, (Below.refl _ _).alloc (Nat.le_refl _) _⟩
  · have d : (s.e != 0) = true := by simpa using he
    have he' := Lib.hid he
    clear he
    go_enter Try.func23, Try.ntmps23
    go_upto_region 2 with fail
    have hb0 : Below w.heap.size w (w.alloc (.cells #[.slice none 0 0] 24)).drew := hbA.out.drew
    have k2 : (w.alloc (.cells #[.slice none 0 0] 24)).drew.cell? ⟨g, 2, none⟩ = some (.int .i64 s.e) := q2
    go_region_held3 (fun x => x.cell? ⟨g, 2, none⟩ = some (.int .i64 s.e)) (first | exact k2 | fail) (first | fail)
    go_wp2_with fail
    refine bodyPost_ret (results_tab2 rfl _ _ w.heap.size (.slice none 0 0) rfl r0) rfl ⟨_, by rw [if_neg he'.out]; rfl, fun h => absurd h he'.out, fun _ => rfl, ((Below.refl _ _).alloc (Nat.le_refl _) _).drew⟩
end Go.Proofs.Ytecmoahadckomaa

namespace Go.Proofs.Ytecmoahadckomaa
open Go.RowKit Go.Maps
set_option maxRecDepth 100000

/-- Does a node's sort fit? -/
def fitN (N : Nat → Nd) (e : Nd) : Bool := if e.op = 13 then true else decide (opT e.op e.len.toNat (sortsN N e) = (e.sort, 0))
def fitsB (n : Nat) (N : Nat → Nd) : Bool := upTo n (fun i => fitN N (N i))
set_option maxHeartbeats 8000000 in
theorem Fits_any (v : Value) (n : Nat) (N : Nat → Nd) (w : World) (hv : NdsAt w v n N) (hc : CheckP n N) (hn : n ≤ 1000000) :
    Calls Try.prog 19 #[.agg #[v]] w fun z w' => z = .returned (.bool (fitsB n N)) ∧ Below w.heap.size w w' := by
  have h2 := hc.two
  have hNR := Lib.hid hv.ranges
  have hc' := Lib.hid hc
  obtain ⟨A, c, rfl, -, -, hnd⟩ := hv
  obtain ⟨tb, to_, rfl, htb, hnd⟩ := hnd (by omega)
  have hnd' := Lib.hid hnd
  have hx0 := Lib.hid ((Bx.nil w).one (.slice (some ⟨tb, to_, none⟩) n c) 24)
  have hmk : ∀ W : World, (Instr.makeSlice 25 (.int .i64 0) (.int .i64 3)).run Try.prog W = .ok (.slice (some ⟨W.heap.size, 0, none⟩) 0 3) (W.alloc (.cells #[.int .i64 0, .int .i64 0, .int .i64 0] 3)) := fun _ => by kernel_rfl
  have hal : Try.prog.arrayLen 37 = 3 := by kernel_rfl
  obtain ⟨⟨k0, -⟩, -⟩ := hx0.out.cells
  clear hnd hc
  go_enter Try.func19, Try.ntmps19
  go_wp2_with fail
  go_loopw [13] (fun i wr => ∃ j : Nat, j ≤ n ∧ i = .int .i64 j ∧ Hid (upTo j (fun i => fitN N (N i)) = true) ∧ Hid (Bx w [(w.heap.size, 0, .slice (some ⟨tb, to_, none⟩) n c)] wr)) (fun i _ => n - (intOf i).toNat)
  case atStart => exact ⟨0, Nat.zero_le _, rfl, upTo_yes (fun i hi => absurd hi (Nat.not_lt_zero i)), hx0.out⟩
  case round =>
  clear hx0 k0
  obtain ⟨j, hj, rfl, hup, hx⟩ := hrel
  by_cases hlt : j < n
  · have i1 : decide ((j : Int) < (n : Int)) = true := decide_eq_true (by omega)
    have hst := Lib.hid (hc'.out.all j hlt)
    have hl0 := hst.out.len0
    have hl3 := hst.out.len3
    obtain ⟨m, hlm⟩ : ∃ m : Nat, (N j).len = m := ⟨(N j).len.toNat, by omega⟩
    obtain ⟨n0, n1, n2, n3, n4, n5, n6, n7⟩ := (hnd'.out j hlt).keep (w' := wr) (fun k => hx.out.bel.cell (p := ⟨tb, k, none⟩) htb)
    rw [hlm] at n1
    have hm0 : (0 : Int) ≤ (m : Int) := by omega
    have hm3 : (m : Int) ≤ 3 := by omega
    have hlm' := Lib.hid hlm
    have hjn : (j : Int) < (n : Int) := by omega
    have hj0 : (0 : Int) ≤ (j : Int) := by omega
    have hwz := Lib.hid hx.out.bel.size
    clear hlm hl0 hl3
    by_cases h13 : (N j).op = 13
    · have d13 : ((N j).op == 13) = true := by rw [h13]; rfl
      have hnx : Hid (upTo (j + 1) (fun i => fitN N (N i)) = true) := upTo_yes fun i hi => by
        by_cases e : i = j
        · subst e; unfold fitN; rw [if_pos h13]
        · exact (upTo_iff _ _).1 hup.out i (by omega)
      have hx1 := Lib.hid (hx.out.skip (.cells #[.int .i8 (N j).op, .int .i8 m, .int .i64 (N j).a0, .int .i64 (N j).a1, .int .i64 (N j).a2, .int .i64 (N j).sort, .int .i64 (N j).fn, .int .i64 (N j).num] 39))
      clear h13
      go_wp2_with fail
      go_roundw
      case rel => exact ⟨j + 1, by omega, by go_num, hnx, hx1.out⟩
      case measure => simp [intOf]; omega
    have d13 : ((N j).op == 13) = false := by simpa using h13
    have hws := wk_start wr (N j) (sortsN N (N j))
    rw [hlm'.out] at hws
    have hws' := Lib.hid hws
    have hB1 := Lib.hid (((Below.refl wr.heap.size wr).alloc (Nat.le_refl _) (.cells #[.int .i8 (N j).op, .int .i8 m, .int .i64 (N j).a0, .int .i64 (N j).a1, .int .i64 (N j).a2, .int .i64 (N j).sort, .int .i64 (N j).fn, .int .i64 (N j).num] 39)).alloc (by simp) (.cells #[.int .i64 0, .int .i64 0, .int .i64 0] 3))
    have h13' := Lib.hid h13
    clear hws h13
    go_wp2_with fail
    clear n0 n1 n2 n3 n4 n5 n6 n7
    generalize hnb : wr.heap.size = nb at *
    have hnb' := Lib.hid hnb
    clear hnb
    have hx' := hx
    have hwr : ∃ wq, wq = wr ∧ Hid (Below nb wq _) := ⟨wr, rfl, hB1⟩
    clear hB1
    obtain ⟨wq, hwq, hB1⟩ := hwr
    rw [← hwq] at hx' hnb'
    clear hwq hx
    go_loopw [5, 26] (fun z i wr => ∃ k : Nat, k ≤ m ∧ i = .int .i64 k ∧ z = .slice (some ⟨nb + 1, 0, none⟩) k 3 ∧ Hid (Below nb wq wr ∧ wr.rowIs nb 39 8 (ndF (N j)) ∧ wr.rowIs (nb + 1) 3 3 (sF (sortsN N (N j)) k))) (fun _ i _ => m - (intOf i).toNat)
    case atStart => exact ⟨0, Nat.zero_le _, rfl, rfl, hB1.out, hws'.out.1, hws'.out.2⟩
    case round =>
    clear hB1 hws'
    obtain ⟨k, hk, rfl, rfl, hI⟩ := hrel
    have hx2 := Lib.hid (hx'.out.step (by rw [hnb'.out]; exact hI.out.1))
    obtain ⟨⟨k0, -⟩, -⟩ := hx2.out.cells
    by_cases hlk : k < m
    · have i2 : decide ((k : Int) < (m : Int)) = true := decide_eq_true (by omega)
      have pa := hI.out.2.1.cell (i := 2 + k) (by omega)
      rw [ndF_arg _ (by omega)] at pa
      have hab := hc'.out.argB hlt (k := k) (by rw [hlm'.out]; omega)
      obtain ⟨a, haa⟩ : ∃ a : Nat, (N j).arg k = a := ⟨((N j).arg k).toNat, by omega⟩
      rw [haa] at pa
      have hso := (hx2.out.bel.cell (p := ⟨tb, to_ + a * 8 + 5, none⟩) htb).trans (hnd'.out a (by omega)).2.2.2.2.2.1
      have hss : Hid (sortsN N (N j) k = (N a).sort) := by unfold Hid sortsN; rw [haa]; rfl
      have han : (a : Int) < (n : Int) := by omega
      have ha0 : (0 : Int) ≤ (a : Int) := by omega
      have hk0 : (0 : Int) ≤ (k : Int) := by omega
      have hkm : (k : Int) < (m : Int) := by omega
      have hb5 := Lib.hid ((Below.refl wr.heap.size wr).alloc (Nat.le_refl _) (.cells #[.int .i64 (N a).sort] 3))
      have hra := Lib.hid (hI.out.2.1.alloc (.cells #[.int .i64 (N a).sort] 3))
      have hrb := Lib.hid (hI.out.2.2.alloc (.cells #[.int .i64 (N a).sort] 3))
      have hG5 : (wr.alloc (.cells #[.int .i64 (N a).sort] 3)).cell? ⟨wr.heap.size, 0, none⟩ = some (.int .i64 (N a).sort) := by simp
      have hnbw : Hid (nb ≤ wr.heap.size) := by unfold Hid; rw [← hnb'.out]; exact hI.out.1.size
      generalize hw5 : wr.alloc (.cells #[.int .i64 (N a).sort] 3) = w5 at *
      have hI3 : Hid (Below nb wq (w5.setCell ⟨nb + 1, k, none⟩ (.int .i64 (N a).sort)) ∧ (w5.setCell ⟨nb + 1, k, none⟩ (.int .i64 (N a).sort)).rowIs nb 39 8 (ndF (N j)) ∧ (w5.setCell ⟨nb + 1, k, none⟩ (.int .i64 (N a).sort)).rowIs (nb + 1) 3 3 (sF (sortsN N (N j)) (k + 1))) := by
        refine ⟨(hI.out.1.trans (hb5.out.mono hnbw.out)).setCell (p := ⟨nb + 1, k, none⟩) (by show nb ≤ nb + 1; omega) _, hra.out.setOther (by show nb ≠ nb + 1; omega) _, ?_⟩
        have := hrb.out.set k (.int .i64 (N a).sort)
        rw [← hss.out, sF_set] at this
        rw [← hss.out]
        exact this
      clear hab haa
      go_wp2_with (at_builtin; refine wpList_appR rfl _ _ rfl (nb + 1) k wr.heap.size 1 _ (N a).sort rfl rfl hrb.out hG5 (by omega) ?_)
      clear hw5
      go_wp2_with fail
      go_roundw
      case rel => exact ⟨k + 1, by omega, by go_num, rfl, hI3.out⟩
      case measure => simp [intOf]; omega
    · have i2 : decide ((k : Int) < (m : Int)) = false := decide_eq_false (by omega)
      obtain rfl : k = m := by omega
      have hmm : (N j).len.toNat = k := by rw [hlm'.out]; simp
      have hSR : ∀ i, i < k → R64 (sortsN N (N j) i) := fun i hi => by
        have := hc'.out.argB hlt (k := i) (by rw [hlm'.out]; omega)
        exact (hNR.out _ (by omega)).sort
      have hints : IntsAt wr (.slice (some ⟨nb + 1, 0, none⟩) k 3) k (sortsN N (N j)) := IntsAt.of_row hI.out.2.2 (by omega) (by omega) hSR (fun i hi => by unfold sF; rw [if_pos hi]) 3
      have hTO := Lib.hid (TOp_any (N j).op _ k (sortsN N (N j)) wr (hNR.out j hlt).op hints (fun A n c e => by injection e with _ e2 e3; omega))
      have hfit : Hid (fitN N (N j) = decide (opT (N j).op k (sortsN N (N j)) = ((N j).sort, 0))) := by unfold Hid fitN; rw [if_neg h13'.out, hmm]
      have m0 := hI.out.2.1.cell (i := 0) (by omega)
      have m0' : wr.cell? ⟨nb, 0, none⟩ = some (.int .i8 (N j).op) := m0
      obtain ⟨p, hp⟩ : ∃ p, p = opT (N j).op k (sortsN N (N j)) := ⟨_, rfl⟩
      rw [← hp] at hTO hfit
      unfold opV at hTO
      clear hints hSR m0 hp
      go_wp2_with fail
      refine hTO.out.mono ?_
      rintro e w6 ⟨rfl, hb6⟩
      have hx6 := Lib.hid (hx2.out.step hb6)
      have hr6 : w6.cell? ⟨nb, 5, none⟩ = some (.int .i64 (N j).sort) := (hb6.cell (p := ⟨nb, 5, none⟩) hI.out.2.1.lt).trans (hI.out.2.1.cell (i := 5) (by omega))
      clear hTO hb6 m0' k0
      by_cases hp2 : p.2 = 0
      case neg =>
        have d2 : (p.2 != 0) = true := by simpa using hp2
        have hF : Hid (fitsB n N = false) := upTo_no hlt (by rw [hfit.out]; exact decide_eq_false (fun e => hp2 (by rw [e])))
        clear hp2
        go_wp2_with fail
        go_ret
        exact ⟨by rw [hF.out]; rfl, hx6.out.bel⟩
      have d2 : (p.2 != 0) = false := by rw [hp2]; rfl
      by_cases hp1 : p.1 = (N j).sort
      case neg =>
        have d3 : (p.1 != (N j).sort) = true := by simpa using hp1
        have hF : Hid (fitsB n N = false) := upTo_no hlt (by rw [hfit.out]; exact decide_eq_false (fun e => hp1 (by rw [e])))
        clear hp1 hp2
        go_wp2_with fail
        go_ret
        exact ⟨by rw [hF.out]; rfl, hx6.out.bel⟩
      have d3 : (p.1 != (N j).sort) = false := by rw [hp1]; simp
      have hnx : Hid (upTo (j + 1) (fun i => fitN N (N i)) = true) := upTo_yes fun i hi => by
        by_cases e : i = j
        · subst e
          rw [hfit.out]
          exact decide_eq_true (Prod.ext hp1 hp2)
        · exact (upTo_iff _ _).1 hup.out i (by omega)
      clear hp1 hp2
      go_wp2_with fail
      go_roundw
      case rel => exact ⟨j + 1, by omega, by go_num, hnx, hx6.out⟩
      case measure => simp [intOf]; omega
  · have i1 : decide ((j : Int) < (n : Int)) = false := decide_eq_false (by omega)
    obtain rfl : j = n := by omega
    have hF : Hid (fitsB j N = true) := hup.out
    go_wp2_with fail
    go_ret
    exact ⟨by rw [hF.out]; rfl, hx.out.bel⟩
end Go.Proofs.Ytecmoahadckomaa

namespace Go.Proofs.Ytecmoahadckomaa
open Go.RowKit Go.Maps
set_option maxRecDepth 100000

def OwnI (w : World) (base : Nat) (v : Value) (xs : List Int) : Prop := OwnL w base v xs ∧ ∀ g, v.ownBlock = some g → ∀ k u, w.cell? ⟨g, k, none⟩ = some u → ∃ y, u = .int .i64 y
theorem OwnI.nil (w : World) (base : Nat) : OwnI w base (.slice none 0 0) [] := ⟨OwnL.nil w base, fun g h => by cases h⟩
theorem zeroCells_int {k j : Nat} {u : Value} (h : (Builtin.zeroCells #[.int .i64 0] k)[j]? = some u) : u = .int .i64 0 := by
  unfold Builtin.zeroCells at h
  rw [Array.getElem?_map] at h
  cases hr : (Array.range (k * (#[Value.int .i64 0] : Array Value).size))[j]? with
  | none => rw [hr] at h; cases h
  | some i =>
    rw [hr] at h
    simp at h
    rw [← h]
    simp [Nat.mod_one]
theorem app_int {A B : Array Value} (hA : ∀ (j : Nat) (u : Value), A[j]? = some u → ∃ y : Int, u = Value.int .i64 y) (hB : ∀ (j : Nat) (u : Value), B[j]? = some u → ∃ y : Int, u = Value.int .i64 y) : ∀ (j : Nat) (u : Value), (A ++ B)[j]? = some u → ∃ y : Int, u = Value.int .i64 y := by
  intro j u h
  rw [Array.getElem?_append] at h
  split at h
  · exact hA _ _ h
  · exact hB _ _ h
theorem OwnI.but {S : List Nat} {w w' : World} {base : Nat} {v : Value} {xs : List Int} (h : OwnI w base v xs) (hb : But S w.heap.size w w') (hS : ∀ x ∈ S, x < base) : OwnI w' base v xs := by
  obtain ⟨⟨h1, h2⟩, hc⟩ := h
  rcases h2 with ⟨rfl, h0⟩ | ⟨g, cap, cur, rfl, hbg, hg, hr⟩
  · exact ⟨⟨h1, .inl ⟨rfl, h0⟩⟩, fun g h => by cases h⟩
  · have hlt := lt_of_block hg
    have hm : g ∉ S := fun h => by have := hS g h; omega
    have e := hb.block g hlt hm
    refine ⟨⟨h1, .inr ⟨g, cap, cur, rfl, hbg, e.trans hg, hr⟩⟩, fun g' hg' k u hu => ?_⟩
    have hg'' : some g = some g' := hg'
    injection hg'' with hg''
    subst hg''
    exact hc g rfl k u ((World.cell?_of_block (w := w) (a := ⟨g, k, none⟩) e).symm.trans hu)
theorem OwnI.ne {w : World} {base : Nat} {v : Value} {xs : List Int} (h : OwnI w base v xs) {b o c n : Nat} {N : Nat → Nd} (hN : NdsAt w (.slice (some ⟨b, o, none⟩) n c) n N) (h0 : 0 < n) : v.ownBlock ≠ some b := by
  intro hg
  obtain ⟨A, c', e, _, _, hc⟩ := hN
  injection e with e1 _ e3
  subst e1
  obtain ⟨b', o', e, _, hc⟩ := hc h0
  injection e with e
  injection e with e1 e2
  subst e1 e2
  obtain ⟨y, hy⟩ := h.2 b hg _ _ (hc 0 h0).1
  cases hy
set_option maxHeartbeats 1000000 in
theorem run_appI (w : World) (base : Nat) (v : Value) (xs : List Int) (hown : OwnI w base v xs) (G c : Nat) (y : Int) (hG : w.cell? ⟨G, 0, none⟩ = some (.int .i64 y)) (hlen : xs.length ≤ 1000000) (hb : base ≤ w.heap.size) (ty : TypeId) :
    ∃ v' w', (Builtin.append_ #[25, 25] ty #[v, .slice (some ⟨G, 0, none⟩) 1 c]).run Try.prog w = .ok v' w' ∧ OwnI w' base v' (xs ++ [y]) ∧ w.grownBy w' v.ownBlock := by
  obtain ⟨i0, hi, hz0, hz1, hz2⟩ := info_parts info_int
  have hnew : ∀ j u, [Value.int .i64 y][j]? = some u → w.cell? ((⟨G, 0, none⟩ : Addr).add j) = some u := by
    intro j u hu
    cases j with
    | zero => simp at hu; subst hu; exact hG
    | succ j => simp at hu
  have h1 : ∀ u ∈ [Value.int .i64 y], u.oneCell' = true := fun u hu => by simp at hu; subst hu; rfl
  obtain ⟨v', w', hr, hown', hgr, -, -⟩ := run_append_own_at (P := Try.prog) w base 25 ty 3 i0 (.int .i64 0) 1 8 Try.underlying25 hi hz0 hz1 hz2 rfl (by decide) v xs.length _ hown.1 ⟨G, 0, none⟩ 1 c [.int .i64 y] rfl hnew h1 (by unfold maxLen; omega) (by omega) hb
  have hL : OwnL w' base v' (xs ++ [y]) := by
    unfold OwnL
    rw [List.map_append, List.length_append]
    exact hown'
  refine ⟨v', w', hr, ⟨hL, ?_⟩, hgr⟩
  obtain ⟨⟨hl1, hl2⟩, hc⟩ := hown
  rcases hl2 with ⟨rfl, h0⟩ | ⟨g, cap, cur, rfl, hbg, hg, hnc, hcm, hcs, htk⟩
  · have hxs : xs = [] := List.eq_nil_of_length_eq_zero h0
    subst hxs
    have hr2 := run_append_nil (P := Try.prog) w 25 ty 3 i0 (.int .i64 0) Try.underlying25 hi hz0 ⟨G, 0, none⟩ 1 c [.int .i64 y] (by rw [hz1]; rfl) hnew (by decide) (by decide) (by rw [hz2]; decide)
    have := hr.symm.trans hr2
    injection this with e1 e2
    subst e1 e2
    intro g hg k u hu
    injection hg with hg
    have hg : w.heap.size = g := hg
    subst hg
    rw [cell_of_row _ w.heap.size _ _ _ _ (show (w.drew.alloc _).heap[w.heap.size]? = _ from heap_alloc_new w.drew _)] at hu
    refine app_int (fun j u h => ?_) (fun j u h => ⟨0, zeroCells_int h⟩) k u hu
    cases j with
    | zero => simp at h; exact ⟨y, h.symm⟩
    | succ j => simp at h
  · by_cases hroom : xs.length + 1 ≤ cap
    · have hr2 := run_append_room_cells (P := Try.prog) w 25 ty 3 i0 Try.underlying25 hi g 0 xs.length cap ⟨G, 0, none⟩ 1 c [.int .i64 y] (by rw [hz1]; rfl) hnew h1 hroom (fun j hj => by
        have hj : j < 1 := hj
        rw [hz1, cell_of_row _ _ _ _ _ _ hg, Array.getElem?_eq_getElem (by omega)]; rfl) (fun j hj => by simp [World.frozen?, hg])
      have := hr.symm.trans hr2
      injection this with e1 e2
      subst e1 e2
      intro g' hg' k u hu
      have hg' : some g = some g' := hg'
      injection hg' with hg'
      subst hg'
      rw [hz1] at hu
      by_cases e : k = 0 + xs.length * 1 + 0
      · subst e
        have hu : (w.setCell ⟨g, 0 + xs.length * 1, none⟩ (.int .i64 y)).cell? ⟨g, 0 + xs.length * 1, none⟩ = some u := hu
        rw [World.cell?_setCell_same' _ _ _ (by rw [cell_of_row _ _ _ _ _ _ hg, Array.getElem?_eq_getElem (by omega)]; rfl)] at hu
        injection hu with hu
        exact ⟨y, hu.symm⟩
      · have hu : (w.setCell ⟨g, 0 + xs.length * 1, none⟩ (.int .i64 y)).cell? ⟨g, k, none⟩ = some u := hu
        rw [World.cell?_setCell_other _ _ _ _ (fun h => e (by injection h with _ h; omega))] at hu
        exact hc g rfl k u hu
    · have holds : ∀ j u, (xs.map fun x => Value.int .i64 x)[j]? = some u → w.cell? ((⟨g, 0, none⟩ : Addr).add j) = some u := (World.ownsRow.cells (w := w) (base := base) (e := 3) (size := 1) ⟨hl1, .inr ⟨g, cap, cur, rfl, hbg, hg, hnc, hcm, hcs, htk⟩⟩ (g := g) rfl)
      have hr2 := run_append_grow (P := Try.prog) w 25 ty 3 i0 (.int .i64 0) Try.underlying25 hi hz0 ⟨g, 0, none⟩ xs.length cap _ (by rw [hz1]; exact hl1) holds ⟨G, 0, none⟩ 1 c [.int .i64 y] (by rw [hz1]; rfl) hnew (by omega) (by omega) (growslice_fits (by omega) (by rw [hz2]; omega))
      have := hr.symm.trans hr2
      injection this with e1 e2
      subst e1 e2
      intro g' hg' k u hu
      have hg' : some w.heap.size = some g' := hg'
      injection hg' with hg'
      subst hg'
      rw [cell_of_row _ w.heap.size _ _ _ _ (show (w.drew.alloc _).heap[w.heap.size]? = _ from heap_alloc_new w.drew _)] at hu
      refine app_int (app_int (fun j u h => ?_) (fun j u h => ?_)) (fun j u h => ⟨0, zeroCells_int h⟩) k u hu
      · simp at h
        obtain ⟨a, _, h⟩ := h
        exact ⟨a, h.symm⟩
      · cases j with
        | zero => simp at h; exact ⟨y, h.symm⟩
        | succ j => simp at h
theorem wpList_appI {ops : Array Oper} {rest : List Oper} {o : Oper} {a : Act} {w : World} {Q : Exit → Act → World → Prop} (hgd : o.guard = none) (s x : Operand)
    (ho : o.op = .call { callee := .builtin .append, args := #[s, x], argTypes := #[25, 25] }) (base : Nat) (v : Value) (xs : List Int) (hs : a.eval s = v) (hown : OwnI w base v xs) (G c : Nat) (hx : a.eval x = .slice (some ⟨G, 0, none⟩) 1 c) (y : Int)
    (hG : w.cell? ⟨G, 0, none⟩ = some (.int .i64 y)) (hlen : xs.length ≤ 1000000) (hb : base ≤ w.heap.size)
    (h : ∀ v' w', OwnI w' base v' (xs ++ [y]) → w.grownBy w' v.ownBlock → wpList Try.prog ops Q rest (a.put o.dst v') w') : wpList Try.prog ops Q (o :: rest) a w := by
  refine wpList_plain hgd fun K hK' => ?_
  obtain ⟨v', w', hrun, h1, h2⟩ := run_appI w base v xs hown G c y hG hlen hb o.type
  unfold Oper.wp
  simp [execOp, ho, resolve, invoke, builtin, hs, hx, hrun, Result.andThen]
  exact hK' _ _ (h v' w' h1 h2)
end Go.Proofs.Ytecmoahadckomaa
