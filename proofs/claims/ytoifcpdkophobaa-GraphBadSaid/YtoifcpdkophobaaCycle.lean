/- graph.Cycle. -/
import Derived.Test.YtoifcpdkophobaaGraphK
import Derived.Test.YtoifcpdkophobaaReverse
namespace Go.Proofs.Ytoifcpdkophobaa
open Go.RowKit

theorem Cycle_no (n : Int) (v : Value) (m : Nat) (E : Nat → Ed) (w : World) (hv : EdsAt w v m E) (hm : m ≤ 1000000) (hn0 : -9223372036854775808 ≤ n) (hn1 : n ≤ 9223372036854775807) (hb : badR n m E = false) :
    Calls Try.prog 17 #[.int .i64 n, v] w fun e w' => e = .returned (.tuple #[.slice none 0 0, .bool false]) ∧ Below w.heap.size w w' := by
  have hv' := Lib.hid hv
  clear hv
  by_cases hc : checkR n m E = 0
  · obtain ⟨k0, k1, hE, hs⟩ := check_ok hc
    obtain ⟨k, rfl⟩ := Int.eq_ofNat_of_zero_le k0
    have hf : (relaxR k E m).fell < 0 := by unfold badR at hb; simp [hc] at hb; exact hb
    have hE' := Lib.hid hE
    have hc' := Lib.hid hc
    clear hE hs hc hb
    go_enter Try.func17, Try.ntmps17
    go_wp2_with fail
    refine (GCheck_any _ _ _ _ _ hv'.out hm (by omega) (by omega)).mono ?_
    rintro e w1 ⟨rfl, hb1⟩
    rw [hc'.out]
    go_wp2_with fail
    refine (relax_any k _ m E _ (hv'.out.below hb1) hm (by omega) hE'.out).mono ?_
    rintro e w2 ⟨u1, u2, rfl, hu1, hu2, hb2⟩
    go_wp2
    go_ret2
    exact ⟨rfl, hb1.trans (hb2.mono hb1.size)⟩
  · have hc' : (checkR n m E != 0) = true := by simpa using hc
    clear hb
    go_enter Try.func17, Try.ntmps17
    go_wp2_with fail
    refine (GCheck_any _ _ _ _ _ hv'.out hm (by omega) (by omega)).mono ?_
    rintro e w1 ⟨rfl, hb1⟩
    go_wp2
    go_ret2
    exact ⟨rfl, hb1⟩

theorem OwnL.form {w : World} {base : Nat} {v : Value} {xs : List Int} (h : OwnL w base v xs) : ∃ A c, v = .slice A xs.length c := by
  rcases h.2 with ⟨rfl, h0⟩ | ⟨g, cap, cur, rfl, _⟩
  · exact ⟨none, 0, by rw [h0]⟩
  · exact ⟨_, _, rfl⟩
/-- A cycle that is told: its edges' places, by a function. -/
structure Cyc (n m : Nat) (E : Nat → Ed) (s : BS) (at_ c : Nat) : Prop where
  pos : 1 ≤ c
  le : c ≤ n
  ret : itr E s.b c at_ = at_
  least : ∀ i, 1 ≤ i → i < c → itr E s.b i at_ ≠ at_
  by_ : ∀ j, 0 ≤ s.b (itr E s.b j at_) ∧ s.b (itr E s.b j at_) < m

set_option maxRecDepth 100000 in
set_option maxHeartbeats 1600000 in
theorem Cycle_yes (n : Nat) (v : Value) (m : Nat) (E : Nat → Ed) (w : World) (hv : EdsAt w v m E) (hm : m ≤ 1000000) (hb : badR n m E = true) :
    Calls Try.prog 17 #[.int .i64 n, v] w fun e w' => ∃ u at_ c, e = .returned (.tuple #[u, .bool true]) ∧ Cyc n m E (relaxR n E m).s at_ c ∧ IntsAt w' u c (fun i => (relaxR n E m).s.b (itr E (relaxR n E m).s.b (c - 1 - i) at_)) ∧ Below w.heap.size w w' := by
  have hv' := Lib.hid hv
  have hbf : checkR n m E = 0 ∧ 0 ≤ (relaxR n E m).fell := by unfold badR at hb; simpa using hb
  obtain ⟨hc, hf⟩ := hbf
  obtain ⟨k0, k1, hE, _⟩ := check_ok hc
  simp only [Int.toNat_natCast] at hE
  have hS := check_sumN hc
  have hn : 0 < n := by
    rcases Nat.eq_zero_or_pos n with h | h
    · exfalso
      subst h
      have hm0 : m = 0 := by
        rcases Nat.eq_zero_or_pos m with h | h
        · exact h
        · have := hE 0 h; omega
      subst hm0
      have : (relaxR 0 E 0).fell < 0 := relax_conv (x := fun _ => 0) hE hS (fun i hi => by omega)
      omega
    · exact h
  obtain ⟨⟨t, k, L, hI⟩, hch⟩ := bad_chain (n := n) (fun i hi => (hE i hi).2.2.1) hS hf
  obtain ⟨c, hc1, hc2, hret, hall⟩ := bad_cycle hE hS hf hn
  have hfl := fell_lt hE hn
  have hlt : ∀ j, 0 ≤ (relaxR n E m).s.b j → (relaxR n E m).s.b j < m := fun j hj => by
    rcases hI.rng j with h | ⟨_, h, _⟩ <;> omega
  have hnode : ∀ j, itr E (relaxR n E m).s.b j (relaxR n E m).fell.toNat < n ∨ n < j := by
    intro j
    cases j with
    | zero => exact .inl hfl
    | succ j =>
      by_cases hj : j ≤ n
      · left
        have h1 := hch j hj
        obtain ⟨h3, h4, _⟩ := hE ((relaxR n E m).s.b (itr E (relaxR n E m).s.b j (relaxR n E m).fell.toNat)).toNat (by have := hlt _ h1; omega)
        show (E ((relaxR n E m).s.b (itr E (relaxR n E m).s.b j (relaxR n E m).fell.toNat)).toNat).src.toNat < n
        omega
      · right; omega
  have hnode2 : ∀ j, itr E (relaxR n E m).s.b j (itr E (relaxR n E m).s.b n (relaxR n E m).fell.toNat) < n := by
    intro j
    cases j with
    | zero => rcases hnode n with h | h
              · exact h
              · omega
    | succ j =>
      have h1 := hall j
      obtain ⟨h3, h4, _⟩ := hE ((relaxR n E m).s.b (itr E (relaxR n E m).s.b j (itr E (relaxR n E m).s.b n (relaxR n E m).fell.toNat))).toNat (by have := hlt _ h1; omega)
      show (E ((relaxR n E m).s.b (itr E (relaxR n E m).s.b j (itr E (relaxR n E m).s.b n (relaxR n E m).fell.toNat))).toNat).src.toNat < n
      omega
  have hsrc : ∀ i, i < m → 0 ≤ (E i).src := fun i hi => (hE i hi).1
  have hc' := Lib.hid hc
  have hE' := Lib.hid hE
  clear hc hE hS hI hb
  obtain ⟨A, cc, rfl, hm', hr, hcell⟩ := hv
  have hcell' := Lib.hid hcell
  clear hcell hr
  go_enter Try.func17, Try.ntmps17
  go_wp2_with fail
  refine (GCheck_any _ _ _ _ _ hv'.out hm (by omega) (by omega)).mono ?_
  rintro e w1 ⟨rfl, hb1⟩
  rw [hc'.out]
  go_wp2_with fail
  refine (relax_any n _ m E _ (hv'.out.below hb1) hm (by omega) hE'.out).mono ?_
  rintro e w2 ⟨u1, u2, rfl, hu1, hu2, hb2⟩
  have hbw := hb1.trans (hb2.mono hb1.size)
  clear hb1 hb2 hu1 hv'
  generalize hs : (relaxR n E m).s = s at *
  have hs' := Lib.hid hs
  clear hs
  obtain ⟨f0, hf0⟩ := Int.eq_ofNat_of_zero_le hf
  rw [hf0] at hch hret hall hnode hnode2 hfl ⊢
  rw [Int.toNat_natCast] at hch hret hall hnode hnode2 hfl
  clear hf0 hf
  obtain ⟨A2, c2, rfl, _, hr2, hcell2⟩ := hu2
  have hcell2' := Lib.hid hcell2
  have hch' := Lib.hid hch
  have hret' := Lib.hid hret
  have hall' := Lib.hid hall
  have hnode' := Lib.hid hnode
  have hnode2' := Lib.hid hnode2
  have hlt' := Lib.hid hlt
  have hsrc' := Lib.hid hsrc
  clear hcell2 hr2 hch hret hall hnode hnode2 hlt hsrc
  go_wp2
  go_loop [8, 25] (fun a i => ∃ j : Nat, j ≤ n ∧ i = .int .i64 j ∧ a = .int .i64 (itr E s.b j f0 : Nat)) (fun _ i => n - (intOf i).toNat)
  case atStart => exact ⟨0, Nat.zero_le _, rfl, rfl⟩
  case round =>
    obtain ⟨j, hj, rfl, rfl⟩ := hrel
    by_cases hlt : j < n
    · have hnj : itr E s.b j f0 < n := by rcases hnode'.out j with h | h <;> omega
      obtain ⟨q, hq⟩ := Int.eq_ofNat_of_zero_le (hch'.out j (by omega))
      have hqm : q < m := by have := hlt'.out _ (hch'.out j (by omega)); omega
      have hnx : Hid ((E q).src = (itr E s.b (j + 1) f0 : Nat)) := by
        show (E q).src = ((E (s.b (itr E s.b j f0)).toNat).src.toNat : Int)
        rw [hq, Int.toNat_natCast]
        have := hsrc'.out q hqm
        omega
      obtain ⟨b2, o2, rfl, hbl2, hcs2⟩ := hcell2'.out (by omega)
      have p0 := hcs2 _ hnj
      rw [hq] at p0
      obtain ⟨b, o, rfl, hbl, hcs⟩ := hcell'.out (by omega)
      have p1 := (hbw.cell (p := ⟨b, o + q * 3, none⟩) hbl).trans (hcs q hqm).1
      clear hcs hcs2 hq
      generalize hx : itr E s.b j f0 = x at *
      generalize hy : (E q).src = y at *
      have hx' := Lib.hid hx
      have hy' := Lib.hid hy
      clear hx hy
      go_wp2
      go_round
      case rel => exact ⟨j + 1, by omega, by go_num, by rw [hnx.out]⟩
      case measure => simp [intOf]; omega
    · have hjn : j = n := by omega
      have hat : Hid (itr E s.b j f0 = itr E s.b n f0) := by rw [hjn]; rfl
      rw [hat.out]
      clear hat hjn hnode' hch'
      generalize itr E s.b n f0 = at0 at *
      go_wp2
      go_loopw [8, 9] (fun a v9 wr => ∃ (j : Nat) (A3 : Option Addr) (c3 : Nat), j ≤ c ∧ a = .int .i64 (itr E s.b j at0 : Nat) ∧ v9 = .slice A3 j c3 ∧ Hid (OwnL wr w2.heap.size (.slice A3 j c3) ((List.range j).map fun i => s.b (itr E s.b i at0))) ∧ Hid (∀ i, 1 ≤ i → i < j → itr E s.b i at0 ≠ at0) ∧ Below w2.heap.size w2 wr)
        (fun _ v9 _ => match v9 with | .slice _ j _ => c - j | _ => 0)
      case atStart => exact ⟨0, none, 0, Nat.zero_le _, rfl, rfl, OwnL.nil _ _, fun i h1 h2 => by omega, Below.refl _ _⟩
      case round =>
        obtain ⟨j, A3, c3, hj, rfl, rfl, hown, hle, hb⟩ := hrel
        have hz := hb.size
        by_cases hex : 1 ≤ j ∧ itr E s.b j at0 = at0
        · obtain ⟨hj1, hjr⟩ := hex
          have hjr' := Lib.hid hjr
          rw [hjr]
          have hd1 : ((j : Int) == 0) = false := by simp; omega
          have hd2 : ((at0 : Int) != (at0 : Int)) = false := by simp
          clear hjr
          obtain ⟨g, c4, hv4, hg, hblk⟩ := OwnL.blkI hown.out (by simp; omega)
          simp only [List.length_map, List.length_range] at hv4 hblk
          injection hv4 with hv5 _ _
          subst hv5
          have hblk' := Lib.hid hblk
          clear hblk
          go_wp2_with fail
          refine (Reverse_any g j _ _ wr hblk'.out (by omega) (by omega)).mono ?_
          rintro e w5 ⟨rfl, hblk5, hbel⟩
          have hb5 := hbw.trans ((hb.trans (hbel w2.heap.size hg)).mono hbw.size)
          have hblk5' := Lib.hid hblk5
          clear hbel hblk5
          go_wp2
          go_ret2
          rw [hs'.out]
          refine ⟨_, at0, j, rfl, ⟨hj1, by omega, hjr'.out, hle.out, fun i => ⟨hall'.out i, hlt'.out _ (hall'.out i)⟩⟩, ?_, hb5⟩
          refine ⟨_, _, rfl, by omega, fun i hi => ?_, fun _ => ⟨g, 0, rfl, hblk5'.out.1, fun i hi => ?_⟩⟩
          · have h1 := hall'.out (j - 1 - i)
            have h2 := hlt'.out _ h1
            show R64 (s.b (itr E s.b (j - 1 - i) at0))
            unfold R64; omega
          · have h3 := hblk5'.out.2.2 i hi
            rw [Nat.zero_add, h3]
            show some (Value.int .i64 (((List.range j).map fun i => s.b (itr E s.b i at0)).getD (j - 1 - i) 0)) = some (Value.int .i64 (s.b (itr E s.b (j - 1 - i) at0)))
            rw [getD_lt _ _ (by simp; omega)]; simp
        · have hjc : j < c := by
            by_cases e : j = c
            · exfalso; apply hex; subst e; exact ⟨by omega, hret'.out⟩
            · omega
          have hq0 := hall'.out j
          obtain ⟨q, hq⟩ := Int.eq_ofNat_of_zero_le hq0
          have hqm : q < m := by have := hlt'.out _ hq0; omega
          have hnj := hnode2'.out j
          have hnx : Hid ((E q).src = (itr E s.b (j + 1) at0 : Nat)) := by
            show (E q).src = ((E (s.b (itr E s.b j at0)).toNat).src.toNat : Int)
            rw [hq, Int.toNat_natCast]
            have := hsrc'.out q hqm
            omega
          obtain ⟨b2, o2, rfl, hbl2, hcs2⟩ := hcell2'.out (by omega)
          have p0 := hcs2 _ hnj
          rw [hq] at p0
          obtain ⟨b, o, rfl, hbl, hcs⟩ := hcell'.out (by omega)
          have p1 := (hbw.cell (p := ⟨b, o + q * 3, none⟩) hbl).trans (hcs q hqm).1
          have p0' := (hb.cell (p := ⟨b2, o2 + itr E s.b j at0, none⟩) hbl2).trans p0
          have p1' := (hb.cell (p := ⟨b, o + q * 3, none⟩) (show b < w2.heap.size by have := hbw.size; omega)).trans p1
          have hbs : b < wr.heap.size := by have := hbw.size; omega
          have hxs : Hid (s.b (itr E s.b j at0) = (q : Int)) := hq
          clear hcs hcs2 hq p0 p1 hq0
          have hxn : 1 ≤ j → ((itr E s.b j at0 : Int) != (at0 : Int)) = true := fun h => by simp; intro h2; exact hex ⟨h, by omega⟩
          have hxn' := Lib.hid hxn
          have hex' := Lib.hid hex
          clear hxn hex
          generalize hx : itr E s.b j at0 = x at *
          generalize hy : (E q).src = y at *
          have hx' := Lib.hid hx
          have hy' := Lib.hid hy
          clear hx hy
          by_cases hj0 : j = 0
          · subst hj0
            go_wp2_with (at_builtin; refine wpList_app1 rfl rfl _ _ rfl w2.heap.size _ _ (q : Int) rfl (hown.out.alloc _) wr.heap.size 1 rfl ?c1 ?c2 ?c3 ?_)
            try (case c1 => simp)
            try (case c2 => first | omega | (simp; omega) | simp)
            try (case c3 => first | omega | (simp; omega))
            intro v' w6 ho hb6 _
            obtain ⟨A4, c4, hv'⟩ := ho.form
            simp only [List.length_cons, List.length_nil, Nat.zero_add] at hv'
            subst hv'
            have hbr : Below w2.heap.size w2 w6 := (hb.alloc hz _).trans hb6
            have p0'' := (hb6.cell (p := ⟨b2, o2 + x, none⟩) hbl2).trans ((World.cell?_alloc_lt _ _ _ (show b2 < wr.heap.size by omega)).trans p0')
            have p1'' := (hb6.cell (p := ⟨b, o + q * 3, none⟩) (show b < w2.heap.size by have := hbw.size; omega)).trans ((World.cell?_alloc_lt _ _ _ hbs).trans p1')
            have ho' : Hid (OwnL w6 w2.heap.size (.slice A4 1 c4) ((List.range 1).map fun i => s.b (itr E s.b i at0))) := by
              show OwnL w6 w2.heap.size _ [s.b (itr E s.b 0 at0)]
              rw [hx'.out, hxs.out]; exact ho
            clear p0' p1' ho hb6
            go_wp2
            go_roundw
            case rel =>
              exact ⟨1, A4, c4, by omega, by rw [← hnx.out], rfl, ho'.out, fun i h1 h2 => by omega, hbr⟩
            case measure => simp; omega
          · have hd1 : ((j : Int) == 0) = false := by simp; omega
            have hd2 := hxn'.out (by omega)
            go_wp2_with (at_builtin; refine wpList_app1 rfl rfl _ _ rfl w2.heap.size _ _ (q : Int) rfl (hown.out.alloc _) wr.heap.size 1 rfl ?c1 ?c2 ?c3 ?_)
            try (case c1 => simp)
            try (case c2 => first | omega | (simp; omega) | simp)
            try (case c3 => first | omega | (simp; omega))
            intro v' w6 ho hb6 _
            obtain ⟨A4, c4, hv'⟩ := ho.form
            simp only [List.length_append, List.length_map, List.length_range, List.length_cons, List.length_nil, Nat.zero_add] at hv'
            subst hv'
            have hbr : Below w2.heap.size w2 w6 := (hb.alloc hz _).trans hb6
            have p0'' := (hb6.cell (p := ⟨b2, o2 + x, none⟩) hbl2).trans ((World.cell?_alloc_lt _ _ _ (show b2 < wr.heap.size by omega)).trans p0')
            have p1'' := (hb6.cell (p := ⟨b, o + q * 3, none⟩) (show b < w2.heap.size by have := hbw.size; omega)).trans ((World.cell?_alloc_lt _ _ _ hbs).trans p1')
            have ho' : Hid (OwnL w6 w2.heap.size (.slice A4 (j + 1) c4) ((List.range (j + 1)).map fun i => s.b (itr E s.b i at0))) := by
              unfold Hid
              rw [List.range_succ, List.map_append]
              show OwnL w6 w2.heap.size _ (_ ++ [s.b (itr E s.b j at0)])
              rw [hx'.out, hxs.out]; exact ho
            clear p0' p1' ho hb6
            go_wp2
            go_roundw
            case rel =>
              refine ⟨j + 1, A4, c4, by omega, by rw [← hnx.out], rfl, ho'.out, fun i h1 h2 => ?_, hbr⟩
              by_cases e : i = j
              · subst e; intro h3; exact hex'.out ⟨h1, by rw [← hx'.out]; exact h3⟩
              · exact hle.out i h1 (by omega)
            case measure => simp; omega
end Go.Proofs.Ytoifcpdkophobaa
