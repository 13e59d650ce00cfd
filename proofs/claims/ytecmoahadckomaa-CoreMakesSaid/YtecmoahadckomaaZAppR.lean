/- append of one element in a region that draws, whatever the element's type; rows of numbers of the call's own. -/
import Derived.Test.YtecmoahadckomaaZOwn
import Derived.Test.YtecmoahadckomaaZIntsToNumW
import Derived.Lib.OwnKind
namespace Go.Proofs.Ytecmoahadckomaa
open Go.RowKit
set_option maxRecDepth 100000
theorem lit_row (l : List Value) (i : Nat) (hi : i < l.toArray.size) : l.toArray[i]? = some (l.toArray.getD i .nilIface) := by
  have hi' : i < l.length := by simpa using hi
  simp [Array.getD, hi']
theorem lit_cells (w : World) (T : TypeId) (l : List Value) (r : Nat) (u : Value) (h : l[r]? = some u) : (w.alloc (.cells l.toArray T)).drew.cell? ⟨w.heap.size, r, none⟩ = some u := by
  have hr := World.rowIs_alloc w l.toArray T (fun i => l.toArray.getD i .nilIface) (lit_row l)
  have hlt : r < l.length := (List.getElem?_eq_some_iff.1 h).1
  have := hr.cell (i := r) (by simpa using hlt)
  show (w.alloc (.cells l.toArray T)).cell? ⟨w.heap.size, r, none⟩ = some u
  rw [this]
  rw [List.getElem?_eq_getElem hlt] at h
  injection h with h
  simp [Array.getD, hlt, h]
/-- append of one element, whose cells a row of one holds, in a region that draws. -/
theorem step_appRow {P : Program} {ops : Array Oper} {o : Oper} {a : Act} {w : World} {K : Act → World → Prop} {Q : Exit → Act → World → Prop} {E : Prop} (hgd : o.guard = none) (p q : Operand) (t e : TypeId)
    (ho : o.op = .call { callee := .builtin .append, args := #[p, q], argTypes := #[t, t] }) (i : TypeInfo) (z : Value) (bytes s : Nat) (ht : P.underlying t = some (.slice e)) (hi : P.info? e = some i) (hz : i.zero = some z)
    (hsize : i.size = s) (hby : i.bytes = bytes) (hzs : z.cells.size = s) (hsz : 0 < s) (base : Nat) (v : Value) (n : Nat) (g : Nat → List Value) (hp : a.eval p = v) (hown : OwnG w base e s v n g)
    (b c : Nat) (hq : a.eval q = .slice (some ⟨b, 0, none⟩) 1 c) (hb : b < w.heap.size) (hs : ∀ i, (g i).length = s) (hc : ∀ r u, (g n)[r]? = some u → w.cell? ⟨b, r, none⟩ = some u) (h1 : ∀ u ∈ g n, u.oneCell' = true)
    (hn : n ≤ 1000000) (hbb : bytes ≤ 1000) (hbase : base ≤ w.heap.size)
    (h : ∀ v' w', OwnG w' base e s v' (n + 1) g → Below base w w' → w.grownBy w' v.ownBlock → K (a.put o.dst v') w') :
    if Region.wanted o (yielded ops a.tmps) = true then Oper.wp P o a w K Q else E := by
  rw [if_pos (by simp [Region.wanted, hgd])]
  have hby2 : (n + 1) * bytes ≤ 140737488355328 := Nat.le_trans (Nat.mul_le_mul (by omega : n + 1 ≤ 1000001) hbb) (by decide)
  refine wp_append_src p q t ho i z bytes ht hi hz hsize hby hzs hsz hp hown _ hq (m := 1) (g' := fun _ => g n) ⟨_, _, rfl, fun _ => hs n, fun _ => ⟨b, 0, rfl, hb, fun i hi r u hu => ?_⟩⟩ (fun i _ u hu => h1 u hu) (by unfold maxLen; omega) hby2 hbase fun v' w' h2 h3 => h v' w' (h2.congr fun i hi => ?_) ((Below.refl base w).grown h3 hbase (fun k hk => (hown.lt k hk).1)) h3
  · obtain rfl : i = 0 := by omega
    have := hc r u hu
    simpa using this
  · by_cases hin : i < n
    · rw [if_pos hin]
    · obtain rfl : i = n := by omega
      rw [if_neg hin]
def intC (S : Nat → Int) (i : Nat) : List Value := [.int .i64 (S i)]
theorem OwnG.ints {w : World} {base n : Nat} {v : Value} {S : Nat → Int} (h : OwnG w base 3 1 v n (intC S)) (hn : n ≤ 9223372036854775807) (hS : ∀ i, i < n → R64 (S i)) : IntsAt w v n S := by
  obtain ⟨A, c, rfl, _, hc⟩ := h.at_ (fun _ => rfl)
  refine ⟨A, c, rfl, hn, hS, fun h0 => ?_⟩
  obtain ⟨b, o, rfl, hb, hcell⟩ := hc h0
  exact ⟨b, o, rfl, hb, fun i hi => by
    have := hcell i hi 0 _ rfl
    simpa using this⟩
theorem grown_setCell (w : World) (a : Addr) (u : Value) : w.grownBy (w.setCell a u) (some a.block) :=
  ⟨rfl, rfl, rfl, by simp, fun k _ hk => heap_setCell_other w a k u (fun e => hk (by rw [e]))⟩
theorem OwnG.setLow {w : World} {base s n : Nat} {e : TypeId} {v : Value} {g : Nat → List Value} (h : OwnG w base e s v n g) {b o : Nat} (hb : b < base) (u : Value) : OwnG (w.setCell ⟨b, o, none⟩ u) base e s v n g :=
  World.ownsRow.kept h (grown_setCell w ⟨b, o, none⟩ u) (by
    cases hv : v.ownBlock with
    | none => exact .inl rfl
    | some k => exact .inr fun e => by injection e with e; have := (World.ownsRow.lt h k hv).1; have : k = b := e; omega)
end Go.Proofs.Ytecmoahadckomaa
