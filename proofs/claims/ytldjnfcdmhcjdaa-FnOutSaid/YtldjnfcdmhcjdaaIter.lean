/- slices.Backward at []int: what it hands to a loop's body. -/
import Derived.Test.YtldjnfcdmhcjdaaBase
import Derived.RangeFuncNested
import Derived.RangeFuncBound
import Derived.RangeFuncCalls
import Derived.RangeFuncLeaves
import Derived.RangeFuncBox
import Derived.Shelf.Abstract
import Derived.OwnWalkIn
import Derived.TacticsInMore
import Derived.LoopNIn
import Derived.LoopIn
import Derived.Maps.AppendAt
namespace Go.Proofs.Ytldjnfcdmhcjdaa
open Go.RowKit Go.Shelf

attribute [local go_sem] Oper.semAt_some

/-- What has come when k rounds are over. -/
def upto {α : Type} (f : Nat → α) (k : Nat) : List α := (List.range k).map f
theorem upto_succ {α : Type} (f : Nat → α) (k : Nat) : upto f (k + 1) = upto f k ++ [f k] := by simp [upto, List.range_succ]
theorem upto_length {α : Type} (f : Nat → α) (k : Nat) : (upto f k).length = k := by simp [upto]

/-- The j-th pair that comes from the end. -/
def fromEnd (xs : List Int) (n j : Nat) : Nat × Int := (n - 1 - j, gi xs (n - 1 - j))
def encP (x : Nat × Int) : Array Value := #[Value.int .i64 (x.1 : Int), Value.int .i64 x.2]

/-- The blocks of S stand as they stood. -/
def KeepAt (S : Nat → Prop) (W W' : World) : Prop := ∀ k, S k → W'.heap[k]? = W.heap[k]?
theorem KeepAt.refl (S : Nat → Prop) (W : World) : KeepAt S W W := fun _ _ => rfl
theorem KeepAt.trans {S : Nat → Prop} {A B C : World} (h : KeepAt S A B) (k : KeepAt S B C) : KeepAt S A C := fun i hi => (k i hi).trans (h i hi)
theorem KeepAt.cell {S : Nat → Prop} {W W' : World} (h : KeepAt S W W') {p : Addr} (hp : S p.block) : W'.cell? p = W.cell? p := World.cell?_of_block (h p.block hp)
theorem KeepAt.put {S : Nat → Prop} {n : Nat} (hS : ∀ k, S k → k < n) (W : World) (l : Nat) (o o' : Obj) (hl : n ≤ l) (_ : W.heap[l]? = some o) (_ : o.isCells = false) (_ : o.isWalk = false) : KeepAt S W (W.putObj l o') :=
  fun k hk => World.putObj_heap_other (by have := hS k hk; omega)
theorem KeepAt.of_below {S : Nat → Prop} {n : Nat} {W W' : World} (hS : ∀ k, S k → k < n) (h : Below n W W') : KeepAt S W W' := fun k hk => h.block k (hS k hk)

set_option maxRecDepth 100000 in
set_option maxHeartbeats 2000000 in
theorem backward1_in (F : Fence) (n : Nat) (h8 : F.fn 69) (hro : F.round = none) (hn : 1 ≤ n) (S : Nat → Prop) (l Bs b off len cap : Nat) (zs : List Int) (hlen : len ≤ 1048576) (hlc : len ≤ cap) (hb : S b) (J Jx : List (Nat × Int) → World → Prop)
    (hY : ∀ pre x W, J pre W → pre.length < len → YieldAt F (n - 1) Try.prog l (encP x) W fun e W' =>
      (e = .returned (.bool true) ∧ J (pre ++ [x]) W' ∧ KeepAt S W W') ∨ (e = .returned (.bool false) ∧ Jx (pre ++ [x]) W'))
    (W : World) (hBs0 : S Bs) (hBs : W.cell? ⟨Bs, 0, none⟩ = some (.slice (some ⟨b, off, none⟩) len cap)) (hc : ∀ j, j < len → W.cell? ⟨b, off + j, none⟩ = some (.int .i64 (gi zs j))) (h0 : J [] W) :
    CallsIn F n Try.prog 69 #[.func (.yield l) #[] #[], .pointer (some ⟨Bs, 0, none⟩)] W fun e W' => (∃ v, e = .returned v) ∧
      ((∃ ys, ys = upto (fromEnd zs len) len ∧ J ys W') ∨ (∃ pre, (∃ k, k ≤ len ∧ pre = upto (fromEnd zs len) k) ∧ Jx pre W')) := by
  refine callsIn_of_wp Try.func69 rfl h8 ?_ hro
  simp only [Try.ntmps69, List.size_toArray, List.length_cons, List.length_nil, Nat.reduceAdd, Nat.reduceSub, Array.replicate_succ, Array.replicate_zero, List.push_toArray, List.append_toArray, List.nil_append, List.cons_append]
  gi_wp2
  gi_loopw [3] (fun i wr => ∃ k : Nat, k ≤ len ∧ i = .int .i64 ((len : Int) - 1 - k) ∧ J (upto (fromEnd zs len) k) wr ∧ KeepAt S W wr)
    (fun i _ => (intOf i + 1).toNat)
  case atStart => exact ⟨0, Nat.zero_le _, by simp, h0, KeepAt.refl _ _⟩
  case round =>
    obtain ⟨k, hk, rfl, hJs, hnx⟩ := hrel
    by_cases hlt : k < len
    · have hcx : wr.cell? ⟨b, off + (len - 1 - k), none⟩ = some (.int .i64 (gi zs (len - 1 - k))) := (hnx.cell (p := ⟨b, off + (len - 1 - k), none⟩) hb).trans (hc _ (by omega))
      have hbs := (hnx.cell (p := ⟨Bs, 0, none⟩) hBs0).trans hBs
      obtain ⟨fn, tmps, assign, body, hy, hR⟩ := hY _ (fromEnd zs len k) wr hJs (by rw [upto_length]; exact hlt)
      simp only [encP, fromEnd] at hy
      rw [show ((len - 1 - k : Nat) : Int) = (len : Int) - 1 - k from by omega] at hy
      gi_wp2
      refine hR.mono ?_
      rintro e W3 (⟨rfl, hJ3, hk3⟩ | ⟨rfl, hJx3⟩)
      · gi_wp2
        go_roundw
        case rel => exact ⟨k + 1, by omega, by simp only [Value.int.injEq, true_and]; omega, by rw [upto_succ]; exact hJ3, hnx.trans hk3⟩
        case measure => simp [intOf]; omega
      · gi_wp2
        refine bodyPost_ret (results_none rfl _ _ _) rfl ?_
        exact ⟨⟨_, rfl⟩, .inr ⟨_, ⟨k + 1, by omega, (upto_succ _ _).symm⟩, hJx3⟩⟩
    · obtain rfl : k = len := by omega
      gi_wp2
      go_end0
      exact ⟨⟨_, rfl⟩, .inl ⟨_, rfl, hJs⟩⟩

set_option maxRecDepth 100000 in
set_option maxHeartbeats 1000000 in
theorem backward0_in (F : Fence) (n : Nat) (h8 : F.fn 69) (hro : F.round = none) (l Bs cap : Nat) (a : Option Addr) (J : List (Nat × Int) → World → Prop) (W : World) (hBs : W.cell? ⟨Bs, 0, none⟩ = some (.slice a 0 cap)) (h0 : J [] W) :
    CallsIn F n Try.prog 69 #[.func (.yield l) #[] #[], .pointer (some ⟨Bs, 0, none⟩)] W fun e W' => (∃ v, e = .returned v) ∧ J [] W' := by
  refine callsIn_of_wp Try.func69 rfl h8 ?_ hro
  simp only [Try.ntmps69, List.size_toArray, List.length_cons, List.length_nil, Nat.reduceAdd, Nat.reduceSub, Array.replicate_succ, Array.replicate_zero, List.push_toArray, List.append_toArray, List.nil_append, List.cons_append]
  gi_wp2
  gi_loopw [3] (fun i wr => i = .int .i64 (-1) ∧ J [] wr) (fun _ _ => 0)
  case atStart => exact ⟨rfl, h0⟩
  case round =>
    obtain ⟨rfl, hJs⟩ := hrel
    gi_wp2
    go_end0
    exact ⟨⟨_, rfl⟩, hJs⟩

set_option maxHeartbeats 1000000 in
/-- slices.Backward(s): the slice value is boxed; the function value captures the box. -/
theorem backward_in (F : Fence) (n : Nat) (h6 : F.fn 57) (hro : F.round = none) (v : Value) (a : Option Addr) (len cap : Nat) (hv : v = .slice a len cap) (w : World) :
    CallsIn F n Try.prog 57 #[v] w fun e w' => e = .returned (.func (.func 69) #[] #[.pointer (some ⟨w.heap.size, 0, none⟩)]) ∧ w' = w.alloc (.cells #[v] 22) := by
  subst hv
  refine callsIn_of_wp Try.func57 rfl h6 ?_ hro
  simp only [Try.ntmps57, List.size_toArray, List.length_cons, List.length_nil, Nat.reduceAdd, Nat.reduceSub, Array.replicate_succ, Array.replicate_zero, List.push_toArray, List.append_toArray, List.nil_append, List.cons_append]
  gi_wp2
  go_ret
  exact ⟨rfl, rfl⟩

/-- slices.Backward(s) hands back a value that yields the pairs from the end. -/
theorem backward_stops (F : Fence) (n : Nat) (h8 : F.fn 69) (hro : F.round = none) (hn : 1 ≤ n) (S : Nat → Prop) (Bs hi : Nat) (sv : Value) (zs : List Int) (w : World) (hS : ∀ k, S k → k < w.heap.size) (hBs : S Bs)
    (hSv : ∀ b off n cap, sv = .slice (some ⟨b, off, none⟩) n cap → 0 < n → S b) (hc : w.cell? ⟨Bs, 0, none⟩ = some sv) (hI : Sl w hi sv zs) :
    SeqStopsK F n Try.prog 69 #[.pointer (some ⟨Bs, 0, none⟩)] encP (KeepAt S) (fun ys => ys = upto (fromEnd zs zs.length) zs.length)
      (fun pre => ∃ k, k ≤ zs.length ∧ pre = upto (fromEnd zs zs.length) k) zs.length w := fun l J Jx W hW _ _ hY h0 => by
  have hc' := (hW.cell (p := ⟨Bs, 0, none⟩) (by have := hS Bs hBs; show Bs < _; omega)).trans hc
  obtain ⟨a, n', cap, rfl, hl, hn', hcap, hcap2, hcs⟩ := hI.old hW
  rw [hl] at hY ⊢
  by_cases h00 : n' = 0
  · subst h00
    exact (backward0_in F n h8 hro l Bs cap a J W hc' h0).mono fun e W' ⟨he, hj⟩ => ⟨he, .inl ⟨_, rfl, hj⟩⟩
  · obtain ⟨b, off, rfl, hb, hcell⟩ := hcs (by omega)
    exact backward1_in F n h8 hro hn S l Bs b off n' cap zs hn' hcap (hSv b off n' cap rfl (by omega)) J Jx hY W hBs hc' hcell h0

end Go.Proofs.Ytldjnfcdmhcjdaa
