/- slices.Backward at sections: what it hands to a loop's body; linkOf. -/
import Derived.Test.YtoanefccnbnkmaaLink
import Derived.RangeFuncNested
import Derived.RangeFuncBound
import Derived.RangeFuncCalls
import Derived.RangeFuncLeaves
import Derived.RangeFuncBox
import Derived.Shelf.Abstract
import Derived.OwnWalkIn
import Derived.TacticsInMore
import Derived.LoopNIn
import Derived.LoopIn
import Derived.Maps.AppendAt
namespace Go.Proofs.Ytoanefccnbnkmaa
open Go.RowKit Go.Shelf

attribute [local go_sem] Oper.semAt_some

/-- What has come when k rounds are over. -/
def upto {α : Type} (f : Nat → α) (k : Nat) : List α := (List.range k).map f
theorem upto_succ {α : Type} (f : Nat → α) (k : Nat) : upto f (k + 1) = upto f k ++ [f k] := by simp [upto, List.range_succ]
theorem upto_length {α : Type} (f : Nat → α) (k : Nat) : (upto f k).length = k := by simp [upto]

/-- The j-th pair that comes from the end. -/
def fromEnd (n j : Nat) : Nat := n - 1 - j
def secV (cs : List Int) (x : Nat) : Value := .agg #[.int .i64 (mi cs x), .int .i64 (ki cs x), .int .i64 (oi cs x)]
def encS (cs : List Int) (x : Nat) : Array Value := #[Value.int .i64 (x : Int), secV cs x]

/-- The blocks of S stand as they stood. -/
def KeepAt (S : Nat → Prop) (W W' : World) : Prop := ∀ k, S k → W'.heap[k]? = W.heap[k]?
theorem KeepAt.refl (S : Nat → Prop) (W : World) : KeepAt S W W := fun _ _ => rfl
theorem KeepAt.trans {S : Nat → Prop} {A B C : World} (h : KeepAt S A B) (k : KeepAt S B C) : KeepAt S A C := fun i hi => (k i hi).trans (h i hi)
theorem KeepAt.cell {S : Nat → Prop} {W W' : World} (h : KeepAt S W W') {p : Addr} (hp : S p.block) : W'.cell? p = W.cell? p := World.cell?_of_block (h p.block hp)
theorem KeepAt.put {S : Nat → Prop} {n : Nat} (hS : ∀ k, S k → k < n) (W : World) (l : Nat) (o o' : Obj) (hl : n ≤ l) (_ : W.heap[l]? = some o) (_ : o.isCells = false) (_ : o.isWalk = false) : KeepAt S W (W.putObj l o') :=
  fun k hk => World.putObj_heap_other (by have := hS k hk; omega)
theorem KeepAt.of_below {S : Nat → Prop} {n : Nat} {W W' : World} (hS : ∀ k, S k → k < n) (h : Below n W W') : KeepAt S W W' := fun k hk => h.block k (hS k hk)

set_option maxRecDepth 100000 in
set_option maxHeartbeats 2000000 in
theorem backward1_in (F : Fence) (n : Nat) (h8 : F.fn 98) (hro : F.round = none) (hn : 1 ≤ n) (S : Nat → Prop) (l Bs b off len cap : Nat) (zs : List Int) (hlen : len ≤ 1048576) (hlc : len ≤ cap) (hb : S b) (J Jx : List Nat → World → Prop)
    (hY : ∀ pre x W, J pre W → pre.length < len → YieldAt F (n - 1) Try.prog l (encS zs x) W fun e W' =>
      (e = .returned (.bool true) ∧ J (pre ++ [x]) W' ∧ KeepAt S W W') ∨ (e = .returned (.bool false) ∧ Jx (pre ++ [x]) W'))
    (W : World) (hBs0 : S Bs) (hBs : W.cell? ⟨Bs, 0, none⟩ = some (.slice (some ⟨b, off, none⟩) len cap)) (hc : ∀ j, j < len * 3 → W.cell? ⟨b, off + j, none⟩ = some (.int .i64 (gi zs j))) (h0 : J [] W) :
    CallsIn F n Try.prog 98 #[.func (.yield l) #[] #[], .pointer (some ⟨Bs, 0, none⟩)] W fun e W' => (∃ v, e = .returned v) ∧
      ((∃ ys, ys = upto (fromEnd len) len ∧ J ys W') ∨ (∃ pre, (∃ k, k ≤ len ∧ pre = upto (fromEnd len) k) ∧ Jx pre W')) := by
  refine callsIn_of_wp Try.func98 rfl h8 ?_ hro
  simp only [Try.ntmps98, List.size_toArray, List.length_cons, List.length_nil, Nat.reduceAdd, Nat.reduceSub, Array.replicate_succ, Array.replicate_zero, List.push_toArray, List.append_toArray, List.nil_append, List.cons_append]
  gi_wp2
  gi_loopw [3] (fun i wr => ∃ k : Nat, k ≤ len ∧ i = .int .i64 ((len : Int) - 1 - k) ∧ J (upto (fromEnd len) k) wr ∧ KeepAt S W wr)
    (fun i _ => (intOf i + 1).toNat)
  case atStart => exact ⟨0, Nat.zero_le _, by simp, h0, KeepAt.refl _ _⟩
  case round =>
    obtain ⟨k, hk, rfl, hJs, hnx⟩ := hrel
    by_cases hlt : k < len
    · have hcx : ∀ j, j < len * 3 → wr.cell? ⟨b, off + j, none⟩ = some (.int .i64 (gi zs j)) := fun j hj => (hnx.cell (p := ⟨b, off + j, none⟩) hb).trans (hc j hj)
      obtain ⟨c0, c1, c2⟩ := cells3 hcx (show len - 1 - k < len by omega) (Below.refl _ _) (World.block_lt_of_cell? wr _ (hcx (k * 3) (by omega)))
      have hbs := (hnx.cell (p := ⟨Bs, 0, none⟩) hBs0).trans hBs
      obtain ⟨fn, tmps, assign, body, hy, hR⟩ := hY _ (fromEnd len k) wr hJs (by rw [upto_length]; exact hlt)
      simp only [encS, secV, fromEnd] at hy
      clear hcx
      rw [show ((len - 1 - k : Nat) : Int) = (len : Int) - 1 - k from by omega] at hy
      gi_wp2
      refine hR.mono ?_
      rintro e W3 (⟨rfl, hJ3, hk3⟩ | ⟨rfl, hJx3⟩)
      · gi_wp2
        go_roundw
        case rel => exact ⟨k + 1, by omega, by simp only [Value.int.injEq, true_and]; omega, by rw [upto_succ]; exact hJ3, hnx.trans hk3⟩
        case measure => simp [intOf]; omega
      · gi_wp2
        refine bodyPost_ret (results_none rfl _ _ _) rfl ?_
        exact ⟨⟨_, rfl⟩, .inr ⟨_, ⟨k + 1, by omega, (upto_succ _ _).symm⟩, hJx3⟩⟩
    · obtain rfl : k = len := by omega
      gi_wp2
      go_end0
      exact ⟨⟨_, rfl⟩, .inl ⟨_, rfl, hJs⟩⟩

set_option maxRecDepth 100000 in
set_option maxHeartbeats 1000000 in
theorem backward0_in (F : Fence) (n : Nat) (h8 : F.fn 98) (hro : F.round = none) (l Bs cap : Nat) (a : Option Addr) (J : List Nat → World → Prop) (W : World) (hBs : W.cell? ⟨Bs, 0, none⟩ = some (.slice a 0 cap)) (h0 : J [] W) :
    CallsIn F n Try.prog 98 #[.func (.yield l) #[] #[], .pointer (some ⟨Bs, 0, none⟩)] W fun e W' => (∃ v, e = .returned v) ∧ J [] W' := by
  refine callsIn_of_wp Try.func98 rfl h8 ?_ hro
  simp only [Try.ntmps98, List.size_toArray, List.length_cons, List.length_nil, Nat.reduceAdd, Nat.reduceSub, Array.replicate_succ, Array.replicate_zero, List.push_toArray, List.append_toArray, List.nil_append, List.cons_append]
  gi_wp2
  gi_loopw [3] (fun i wr => i = .int .i64 (-1) ∧ J [] wr) (fun _ _ => 0)
  case atStart => exact ⟨rfl, h0⟩
  case round =>
    obtain ⟨rfl, hJs⟩ := hrel
    gi_wp2
    go_end0
    exact ⟨⟨_, rfl⟩, hJs⟩

set_option maxHeartbeats 1000000 in
/-- slices.Backward(s): the slice value is boxed; the function value captures the box. -/
theorem backward_in (F : Fence) (n : Nat) (h6 : F.fn 95) (hro : F.round = none) (v : Value) (a : Option Addr) (len cap : Nat) (hv : v = .slice a len cap) (w : World) :
    CallsIn F n Try.prog 95 #[v] w fun e w' => e = .returned (.func (.func 98) #[] #[.pointer (some ⟨w.heap.size, 0, none⟩)]) ∧ w' = w.alloc (.cells #[v] 29) := by
  subst hv
  refine callsIn_of_wp Try.func95 rfl h6 ?_ hro
  simp only [Try.ntmps95, List.size_toArray, List.length_cons, List.length_nil, Nat.reduceAdd, Nat.reduceSub, Array.replicate_succ, Array.replicate_zero, List.push_toArray, List.append_toArray, List.nil_append, List.cons_append]
  gi_wp2
  go_ret
  exact ⟨rfl, rfl⟩

/-- slices.Backward(s) hands back a value that yields the pairs from the end. -/
theorem backward_stops (F : Fence) (m : Nat) (h8 : F.fn 98) (hro : F.round = none) (hn : 1 ≤ m) (S : Nat → Prop) (Bs hi len : Nat) (sv : Value) (zs : List Int) (w : World) (hS : ∀ k, S k → k < w.heap.size) (hBs : S Bs)
    (hSv : ∀ b off n cap, sv = .slice (some ⟨b, off, none⟩) n cap → 0 < n → S b) (hc : w.cell? ⟨Bs, 0, none⟩ = some sv) (hI : SlF 3 w hi sv zs len) :
    SeqStopsK F m Try.prog 98 #[.pointer (some ⟨Bs, 0, none⟩)] (encS zs) (KeepAt S) (fun ys => ys = upto (fromEnd len) len)
      (fun pre => ∃ k, k ≤ len ∧ pre = upto (fromEnd len) k) len w := fun l J Jx W hW _ _ hY h0 => by
  have hc' := (hW.cell (p := ⟨Bs, 0, none⟩) (by have := hS Bs hBs; show Bs < _; omega)).trans hc
  obtain ⟨a, cap, rfl, hl, hn', hcap, hcap2, hcs⟩ := hI.old hW
  by_cases h00 : len = 0
  · subst h00
    exact (backward0_in F m h8 hro l Bs cap a J W hc' h0).mono fun e W' ⟨he, hj⟩ => ⟨he, .inl ⟨_, rfl, hj⟩⟩
  · obtain ⟨b, off, rfl, hb, hcell⟩ := hcs (by omega)
    exact backward1_in F m h8 hro hn S l Bs b off len cap zs hn' hcap (hSv b off len cap rfl (by omega)) J Jx hY W hBs hc' hcell h0

/-- p leads to links of these sections. -/
def LkL (W : World) (B : Nat) (cs : List Int) : List Nat → Value → Prop
  | [], p => p = .pointer none
  | x :: xs, p => ∃ g q, p = .pointer (some ⟨g, 0, none⟩) ∧ B ≤ g ∧ Row W g 111 #[.int .i64 (mi cs x), .int .i64 (ki cs x), .int .i64 (oi cs x), q] ∧ LkL W B cs xs q
theorem LkL.of_block {W W' : World} {B : Nat} {cs : List Int} (hb : ∀ g, B ≤ g → g < W.heap.size → (∃ cur e, W.heap[g]? = some (.cells cur e (0, 0))) → W'.heap[g]? = W.heap[g]?) : ∀ (l : List Nat) (p : Value), LkL W B cs l p → LkL W' B cs l p
  | [], _, h => h
  | _ :: l, _, ⟨g, q, e, hB, hr, hq⟩ => ⟨g, q, e, hB, (hb g hB hr.lt ⟨_, _, hr⟩).trans hr, LkL.of_block hb l q hq⟩
theorem LkL.ptr {W : World} {B : Nat} {cs : List Int} {l : List Nat} {p : Value} (h : LkL W B cs l p) : ∃ o, p = .pointer o := by
  cases l with
  | nil => exact ⟨_, h⟩
  | cons x l => obtain ⟨g, q, e, _⟩ := h; exact ⟨_, e⟩
theorem LkL.lk {W : World} {B : Nat} {cs : List Int} {n : Nat} : ∀ (j : Nat) (p : Value), LkL W B cs (upto (fromEnd n) j).reverse p → Lk W B cs n j p
  | 0, _, h => h
  | j + 1, p, h => by
    rw [upto_succ, List.reverse_append] at h
    obtain ⟨g, q, e, hB, hr, hq⟩ := h
    exact ⟨g, q, e, hB, hr, LkL.lk j q hq⟩

/-- The invariant of linkOf: the links of what has come, behind the variable F. -/
def LkI (w0 : World) (F : Nat) (cs : List Int) (z : Nat) (pre : List Nat) (W : World) : Prop :=
  ∃ p, Boxed W F 95 p ∧ LkL W (F + 1) cs pre.reverse p ∧ Below F w0 W ∧ z ≤ W.heap.size

set_option maxRecDepth 100000 in
set_option maxHeartbeats 2000000 in
theorem linkOf_any (v : Value) (cs : List Int) (n hi : Nat) (w : World) (hv : SlF 3 w hi v cs n) :
    Calls Try.prog 81 #[v] w fun e w' => ∃ p, e = .returned p ∧ Below w.heap.size w w' ∧ Lk w' (w.heap.size + 1) cs n n p := by
  have HV := Lib.hid hv
  obtain ⟨ad, cap, rfl, hl, hn, hcap, hcap2, hc⟩ := hv
  clear hl hc
  refine (callsIn_wide (n := 5)).1 ?_
  refine callsIn_of_wp_marks Try.func81 rfl trivial ?_ rfl
  simp only [Try.ntmps81, List.size_toArray, List.length_cons, List.length_nil, Nat.reduceAdd, Nat.reduceSub, Array.replicate_succ, Array.replicate_zero, List.push_toArray, List.append_toArray, List.nil_append, List.cons_append]
  gi_wp2_with (refine ⟨trivial, ?_⟩; gi_at_call 95; refine (backward_in Fence.wide _ trivial rfl _ _ _ _ rfl _).mono ?_; rintro e w' ⟨rfl, rfl⟩)
  have w2e : ((w.alloc (.cells #[.pointer none] 95)).alloc (.cells #[.slice ad n cap] 29)).heap.size = w.heap.size + 1 + 1 := by simp
  have B0 : Below w.heap.size w ((w.alloc (.cells #[.pointer none] 95)).alloc (.cells #[.slice ad n cap] 29)) := ((Below.refl _ w).alloc (Nat.le_refl _) _).alloc (by simp) _
  have bF : Boxed ((w.alloc (.cells #[.pointer none] 95)).alloc (.cells #[.slice ad n cap] 29)) w.heap.size 95 (.pointer none) := (Boxed.new w 95 _).alloc _
  have bS : Boxed ((w.alloc (.cells #[.pointer none] 95)).alloc (.cells #[.slice ad n cap] 29)) (w.heap.size + 1) 29 (.slice ad n cap) := by
    have := Boxed.new (w.alloc (.cells #[.pointer none] 95)) 29 (.slice ad n cap)
    rwa [World.size_alloc] at this
  have V0 := HV.out.old B0
  have HVF : ∀ b off m c, (.slice ad n cap : Value) = .slice (some ⟨b, off, none⟩) m c → 0 < m → b < w.heap.size := by
    intro b off m c e hm
    cases e
    obtain ⟨_, _, e2, _, _, _, _, hcs⟩ := HV.out
    cases e2
    obtain ⟨b', off', e3, _, hcell⟩ := hcs hm
    cases e3
    exact World.block_lt_of_cell? w _ (hcell 0 (by omega))
  refine wpIn_rangeFunc_ownH rfl (by omega) (gf := 98) (lb := #[.pointer (some ⟨w.heap.size + 1, 0, none⟩)]) rfl trivial (enters_of Try.func98 (by kernel_rfl) rfl)
    (backward_stops Fence.wide _ trivial rfl (by omega) (fun k => k < w.heap.size ∨ k = w.heap.size + 1) (w.heap.size + 1) hi n _ cs _ (by intro k hk; rw [w2e]; omega) (.inr rfl) (fun b off m c e hm => .inl (HVF b off m c e hm)) bS.cell V0)
    KeepAt.trans (KeepAt.put (by intro k hk; rw [w2e]; omega)) (Below.refl _ _) (fun _ => rfl)
    (LkI w w.heap.size cs (w.heap.size + 2)) (fun _ _ _ => False) ?hI (fun _ _ _ _ _ hs _ _ => hs) ?h0
    (fun x a' W => ∃ sB, a' = { tmps := #[.slice ad n cap, undef, .pointer none, .pointer (some ⟨w.heap.size, 0, none⟩), undef, .pointer (some ⟨sB, 0, none⟩), .slice ad n cap, .func (.func 98) #[] #[.pointer (some ⟨w.heap.size + 1, 0, none⟩)], .int .i64 (x : Int), secV cs x, undef, undef, undef, undef, undef], defers := [] } ∧
      Row W sB 76 #[.int .i64 (mi cs x), .int .i64 (ki cs x), .int .i64 (oi cs x)]) ?hAx ?assign ?body ?done ?stop
  case hI =>
    rintro pre A B row ⟨p, hF, hL, hB, hz⟩ hg hr
    rw [w2e] at hr
    have hF2 : some w.heap.size ≠ row := fun e => by have := (hr _ e.symm).1; omega
    refine ⟨p, hF.kept hg hF2, LkL.of_block (fun g _ hgs hcc => hg.block g hgs fun e => ?_) _ _ hL, ?_, Nat.le_trans hz hg.size⟩
    · obtain ⟨o, ho, hc⟩ := (hr g e.symm).2
      obtain ⟨cur, ty, hcc⟩ := hcc
      rw [hcc] at ho; cases ho; cases hc
    · exact ⟨hg.os.trans hB.os, hg.tape.trans hB.tape, hg.output.trans hB.output, Nat.le_trans hB.size hg.size, fun k hk => (hg.block k (Nat.lt_of_lt_of_le hk (by have := hB.size; omega)) (fun e => by have := (hr _ e.symm).1; omega)).trans (hB.block k hk)⟩
  case h0 => exact ⟨_, bF, rfl, B0, by rw [w2e]; omega⟩
  case hAx =>
    rintro x a' _ A B row ⟨sB, e, hr⟩ hg hrow
    refine ⟨sB, e, (hg.block sB hr.lt fun e => ?_).trans hr⟩
    obtain ⟨o, ho, hc⟩ := (hrow _ e.symm).2
    rw [show A.heap[sB]? = _ from hr] at ho
    cases ho; cases hc
  case assign =>
    rintro l pre x W K ⟨p, hF, hL, hB, hz⟩ hK
    have ba := (Below.refl W.heap.size W).alloc (Nat.le_refl _) (.cells #[.int .i64 (mi cs x), .int .i64 (ki cs x), .int .i64 (oi cs x)] 76)
    have hK2 := hK _ (W.alloc (.cells #[.int .i64 (mi cs x), .int .i64 (ki cs x), .int .i64 (oi cs x)] 76)) ((KeepsOthers.alloc W _).from _) (fun k hk => ba.block k (by omega))
      ⟨p, hF.alloc _, LkL.of_block (fun g _ hg _ => ba.block g hg) _ _ hL, hB.alloc hB.size _, by simp; omega⟩ ⟨W.heap.size, rfl, Row.new W _ _⟩
    have HK := Lib.hid hK2
    clear hK hK2 ba hF hL hB hz
    unfold encS secV
    gi_wp2
    exact HK.out
  case body =>
    rintro l pre x a' W hl hrec ⟨p, hF, hL, hB, hz⟩ ⟨sB, rfl, hR⟩ hpre
    obtain ⟨o, rfl⟩ := hL.ptr
    have cF := hF.cell
    have fF := hF.frozen
    have s0 : W.cell? ⟨sB, 0, none⟩ = some (.int .i64 (mi cs x)) := by rw [hR.cell]; rfl
    have s1 : W.cell? ⟨sB, 1, none⟩ = some (.int .i64 (ki cs x)) := by rw [hR.cell]; rfl
    have s2 : W.cell? ⟨sB, 2, none⟩ = some (.int .i64 (oi cs x)) := by rw [hR.cell]; rfl
    have ba := (Below.refl W.heap.size W).alloc (Nat.le_refl _) (.cells #[.int .i64 (mi cs x), .int .i64 (ki cs x), .int .i64 (oi cs x), .pointer o] 111)
    have cF2 := (hF.alloc (.cells #[.int .i64 (mi cs x), .int .i64 (ki cs x), .int .i64 (oi cs x), .pointer o] 111)).cell
    have fF2 := (hF.alloc (.cells #[.int .i64 (mi cs x), .int .i64 (ki cs x), .int .i64 (oi cs x), .pointer o] 111)).frozen
    have hFlt0 : w.heap.size < W.heap.size := by omega
    have HF := Lib.hid hF
    have HL := Lib.hid hL
    have HB := Lib.hid hB
    have HBA := Lib.hid ba
    clear hF hL hB ba hR hrec
    gi_wp2
    have hsz : (W.setCell ⟨w.heap.size, 0, none⟩ (.pointer (some ⟨W.heap.size, 0, none⟩))).heap.size = W.heap.size := by simp [World.setCell]
    have hoth : ∀ k, k ≠ w.heap.size → k < W.heap.size → ((W.setCell ⟨w.heap.size, 0, none⟩ (.pointer (some ⟨W.heap.size, 0, none⟩))).alloc (.cells #[.int .i64 (mi cs x), .int .i64 (ki cs x), .int .i64 (oi cs x), .pointer o] 111)).heap[k]? = W.heap[k]? := fun k h1 h2 =>
      (Below.heap_alloc _ _ k (by rw [hsz]; exact h2)).trans (Below.heap_setCell W ⟨w.heap.size, 0, none⟩ _ k h1)
    have hnew := Row.new (W.setCell ⟨w.heap.size, 0, none⟩ (.pointer (some ⟨W.heap.size, 0, none⟩))) #[.int .i64 (mi cs x), .int .i64 (ki cs x), .int .i64 (oi cs x), .pointer o] 111
    rw [hsz] at hnew
    have hbs := HB.out.setCell (p := ⟨w.heap.size, 0, none⟩) (Nat.le_refl _) (.pointer (some ⟨W.heap.size, 0, none⟩))
    refine ⟨((KeepsOthers.setCell W _ _).trans (KeepsOthers.alloc _ _)).from _, fun k hk => hoth k (by omega) (by omega), _, (HF.out.set _).alloc _, ?_, hbs.alloc hbs.size _, ?_⟩
    · rw [List.reverse_append]
      exact ⟨W.heap.size, .pointer o, rfl, by omega, hnew, LkL.of_block (fun g h1 h2 _ => hoth g (by omega) h2) _ _ HL.out⟩
    · simp [World.setCell]; omega
  case done =>
    rintro D ys W hD rfl ⟨p, hF, hL, hB, hz⟩ hK
    rw [w2e] at hD
    have cF := hF.cell
    have HL := Lib.hid hL
    have HB := Lib.hid hB
    clear hL hB hF
    gi_wp2
    refine ⟨by simp, .inl ⟨_, _, rfl, run_takeDeferred hK, ?_⟩⟩
    have bD : Below w.heap.size W (W.putObj D (.deferred none)) := belowK_b (w := w) (Nat.le_refl _) W D _ _ (by omega) hK rfl rfl
    refine ⟨_, results_tmp rfl _ _ _, p, rfl, HB.out.trans bD, ?_⟩
    refine LkL.lk n p (LkL.of_block (fun g _ _ hcc => World.putObj_heap_other fun e => ?_) _ _ HL.out)
    subst e
    obtain ⟨cur, ty, hcc⟩ := hcc
    rw [hK] at hcc; cases hcc
  case stop =>
    rintro D c pre W _ _ h _
    exact h.elim

end Go.Proofs.Ytoanefccnbnkmaa
