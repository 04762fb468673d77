/- Words for slices of ints that are read or written, what a step of the heap keeps of them, and two small tests. -/
import Derived.Test.YtoanefccnbnkmaaProg
import Derived.Test.YtoanefccnbnkmaaPlain
import Derived.WalkKit
import Derived.WalkSpells
import Derived.WalkLawsBesides
import Derived.BigQuiet
import Derived.Deep.QuietTactic
import Derived.Lib.Hide
namespace Go.Proofs.Ytoanefccnbnkmaa
open Go.RowKit

/-- A slice of ints that can be read; its cells lie in blocks below hi. -/
def Sl (w : World) (hi : Nat) (v : Value) (xs : List Int) : Prop :=
  ∃ a n cap, v = .slice a n cap ∧ xs.length = n ∧ n ≤ 1048576 ∧ n ≤ cap ∧ cap ≤ 9223372036854775807 ∧
    (0 < n → ∃ b off, a = some ⟨b, off, none⟩ ∧ b < hi ∧ ∀ k, k < n → w.cell? ⟨b, off + k, none⟩ = some (.int .i64 (gi xs k)))

/-- A slice of ints that can be written; its block lies in [lo, hi). -/
def Wr (w : World) (lo hi : Nat) (v : Value) (xs : List Int) : Prop :=
  ∃ a n cap, v = .slice a n cap ∧ xs.length = n ∧ n ≤ 1048576 ∧ n ≤ cap ∧ cap ≤ 9223372036854775807 ∧
    (0 < n → ∃ g off cur, a = some ⟨g, off, none⟩ ∧ lo ≤ g ∧ g < hi ∧ w.heap[g]? = some (.cells cur 3 (0, 0)) ∧ off + n ≤ cur.size ∧
      ∀ k, k < n → cur[off + k]? = some (.int .i64 (gi xs k)))

/-- All blocks outside [lo, hi) stand as they stood. -/
structure Out (lo hi : Nat) (w w' : World) : Prop where
  os : w'.os = w.os
  tape : w'.tape = w.tape
  output : w'.output = w.output
  size : w.heap.size ≤ w'.heap.size
  block : ∀ k, k < w.heap.size → (k < lo ∨ hi ≤ k) → w'.heap[k]? = w.heap[k]?

theorem Out.refl (lo hi : Nat) (w : World) : Out lo hi w w := ⟨rfl, rfl, rfl, Nat.le_refl _, fun _ _ _ => rfl⟩

theorem Out.below {lo hi B : Nat} {w w' : World} (h : Out lo hi w w') (hB : B ≤ lo) (hs : B ≤ w.heap.size) : Below B w w' :=
  ⟨h.os, h.tape, h.output, h.size, fun k hk => h.block k (by omega) (by omega)⟩

theorem Sl.old {w w' : World} {hi : Nat} {v : Value} {xs : List Int} (h : Sl w hi v xs) (hb : Below w.heap.size w w') : Sl w' hi v xs := by
  obtain ⟨a, n, cap, rfl, h1, h2, h3, h4, h5⟩ := h
  refine ⟨a, n, cap, rfl, h1, h2, h3, h4, fun hn => ?_⟩
  obtain ⟨b, off, rfl, hbh, hc⟩ := h5 hn
  exact ⟨b, off, rfl, hbh, fun k hk => (hb.cell (p := ⟨b, off + k, none⟩) (World.block_lt_of_cell? w _ (hc k hk))).trans (hc k hk)⟩

theorem Sl.below {w w' : World} {hi B : Nat} {v : Value} {xs : List Int} (h : Sl w hi v xs) (hb : Below B w w') (hB : hi ≤ B) : Sl w' hi v xs := by
  obtain ⟨a, n, cap, rfl, h1, h2, h3, h4, h5⟩ := h
  refine ⟨a, n, cap, rfl, h1, h2, h3, h4, fun hn => ?_⟩
  obtain ⟨b, off, rfl, hbh, hc⟩ := h5 hn
  exact ⟨b, off, rfl, hbh, fun k hk => (hb.cell (p := ⟨b, off + k, none⟩) (Nat.lt_of_lt_of_le hbh hB)).trans (hc k hk)⟩

theorem Sl.mono {w : World} {hi hi' : Nat} {v : Value} {xs : List Int} (h : Sl w hi v xs) (hh : hi ≤ hi') : Sl w hi' v xs := by
  obtain ⟨a, n, cap, rfl, h1, h2, h3, h4, h5⟩ := h
  refine ⟨a, n, cap, rfl, h1, h2, h3, h4, fun hn => ?_⟩
  obtain ⟨b, off, rfl, hbh, hc⟩ := h5 hn
  exact ⟨b, off, rfl, by omega, hc⟩

theorem Sl.len {w : World} {hi : Nat} {v : Value} {xs : List Int} (h : Sl w hi v xs) : xs.length ≤ 1048576 := by
  obtain ⟨a, n, cap, rfl, h1, h2, h3, h4⟩ := h
  omega

theorem Wr.len {w : World} {lo hi : Nat} {v : Value} {xs : List Int} (h : Wr w lo hi v xs) : xs.length ≤ 1048576 := by
  obtain ⟨a, n, cap, rfl, h1, h2, h3, h4⟩ := h
  omega

theorem Wr.sl {w : World} {lo hi : Nat} {v : Value} {xs : List Int} (h : Wr w lo hi v xs) : Sl w hi v xs := by
  obtain ⟨a, n, cap, rfl, h1, h2, h3, h4, h5⟩ := h
  refine ⟨a, n, cap, rfl, h1, h2, h3, h4, fun hn => ?_⟩
  obtain ⟨g, off, cur, rfl, _, hg, hh, hs, hc⟩ := h5 hn
  exact ⟨g, off, rfl, hg, fun k hk => by rw [cell_of_row w g (off + k) cur _ (0, 0) hh]; exact hc k hk⟩

theorem Wr.mono {w : World} {lo hi lo' hi' : Nat} {v : Value} {xs : List Int} (h : Wr w lo hi v xs) (hl : lo' ≤ lo) (hh : hi ≤ hi') : Wr w lo' hi' v xs := by
  obtain ⟨a, n, cap, rfl, h1, h2, h3, h4, h5⟩ := h
  refine ⟨a, n, cap, rfl, h1, h2, h3, h4, fun hn => ?_⟩
  obtain ⟨g, off, cur, rfl, hlo, hhi, r⟩ := h5 hn
  exact ⟨g, off, cur, rfl, by omega, by omega, r⟩

theorem Wr.of_block {w w' : World} {lo hi : Nat} {v : Value} {xs : List Int} (h : Wr w lo hi v xs) (hb : ∀ k, k < w.heap.size → lo ≤ k → k < hi → w'.heap[k]? = w.heap[k]?) : Wr w' lo hi v xs := by
  obtain ⟨a, n, cap, rfl, h1, h2, h3, h4, h5⟩ := h
  refine ⟨a, n, cap, rfl, h1, h2, h3, h4, fun hn => ?_⟩
  obtain ⟨g, off, cur, rfl, hlo, hhi, hh, r⟩ := h5 hn
  exact ⟨g, off, cur, rfl, hlo, hhi, (hb g (Array.getElem?_eq_some_iff.1 hh).1 hlo hhi).trans hh, r⟩

theorem Wr.old {w w' : World} {lo hi : Nat} {v : Value} {xs : List Int} (h : Wr w lo hi v xs) (hb : Below w.heap.size w w') : Wr w' lo hi v xs :=
  h.of_block fun k hk _ _ => hb.block k hk

theorem Wr.out {w w' : World} {lo hi lo' hi' : Nat} {v : Value} {xs : List Int} (h : Wr w lo hi v xs) (hb : Out lo' hi' w w') (hd : hi ≤ lo' ∨ hi' ≤ lo) : Wr w' lo hi v xs :=
  h.of_block fun k hk _ _ => hb.block k hk (by omega)

theorem Sl.out {w w' : World} {hi lo' hi' : Nat} {v : Value} {xs : List Int} (h : Sl w hi v xs) (hb : Out lo' hi' w w') (hd : hi ≤ lo') : Sl w' hi v xs := by
  obtain ⟨a, n, cap, rfl, h1, h2, h3, h4, h5⟩ := h
  refine ⟨a, n, cap, rfl, h1, h2, h3, h4, fun hn => ?_⟩
  obtain ⟨b, off, rfl, hbh, hc⟩ := h5 hn
  exact ⟨b, off, rfl, hbh, fun k hk => (World.cell?_of_block (a := ⟨b, off + k, none⟩) (hb.block b (World.block_lt_of_cell? w _ (hc k hk)) (by omega))).trans (hc k hk)⟩

/-- Some draws of the tape; memory stands. -/
def Q (w w' : World) : Prop := ∃ m, w' = w.drewN m
theorem Q.refl (w : World) : Q w w := ⟨0, rfl⟩
theorem Q.more {w : World} (d m : Nat) : Q w ((w.drewN d).drewN m) := ⟨d + m, World.drewN_drewN w d m⟩
/-- A contract that leaves the world alone, or only draws, met inside a region that is walked once. -/
theorem quietS {P : Program} {f : FuncId} {args : Array Value} {w : World} {n : Nat} {v : Value}
    (h : Calls P f args (w.drewN n) fun e w' => e = .returned v ∧ w.drewN n = w') : Calls P f args (w.drewN n) fun e w'' => e = .returned v ∧ ∃ m, w'' = w.drewN m :=
  h.mono fun _ _ ⟨he, hm⟩ => ⟨he, n, hm.symm⟩
theorem quietQ {P : Program} {f : FuncId} {args : Array Value} {w : World} {n : Nat} {v : Value}
    (h : Calls P f args (w.drewN n) fun e w' => e = .returned v ∧ Q (w.drewN n) w') : Calls P f args (w.drewN n) fun e w'' => e = .returned v ∧ ∃ m, w'' = w.drewN m :=
  Calls.quiet_of h
theorem quietS' {P : Program} {f : FuncId} {args : Array Value} {w : World} {d n : Nat} {v : Value}
    (h : Calls P f args (w.drewN (d + n)) fun e w' => e = .returned v ∧ w.drewN (d + n) = w') : Calls P f args (w.drewN (d + n)) fun e w'' => e = .returned v ∧ ∃ m, w'' = w.drewN (d + m) :=
  h.mono fun _ _ ⟨he, hm⟩ => ⟨he, n, hm.symm⟩
theorem quietQ' {P : Program} {f : FuncId} {args : Array Value} {w : World} {d n : Nat} {v : Value}
    (h : Calls P f args (w.drewN (d + n)) fun e w' => e = .returned v ∧ Q (w.drewN (d + n)) w') : Calls P f args (w.drewN (d + n)) fun e w'' => e = .returned v ∧ ∃ m, w'' = w.drewN (d + m) :=
  h.mono fun _ _ ⟨he, m, hm⟩ => ⟨he, n + m, by rw [hm, World.drewN_drewN, Nat.add_assoc]⟩
theorem Sl.drewN {w : World} {hi : Nat} {v : Value} {xs : List Int} (h : Sl w hi v xs) (n : Nat) : Sl (w.drewN n) hi v xs := h
theorem Wr.drewN {w : World} {lo hi : Nat} {v : Value} {xs : List Int} (h : Wr w lo hi v xs) (n : Nat) : Wr (w.drewN n) lo hi v xs := h
theorem Q.below {w w' : World} (h : Q w w') : Below w.heap.size w w' := by
  obtain ⟨m, rfl⟩ := h
  exact below_drewN (Below.refl _ _) m
theorem Q.trans {a b c : World} (h : Q a b) (k : Q b c) : Q a c := by
  obtain ⟨m, rfl⟩ := h
  obtain ⟨n, rfl⟩ := k
  exact Q.more m n

/-- What a row of the call's own is worth. -/
theorem Wr.of_own {w : World} {B n : Nat} {v : Value} {xs : List Int} (h : w.ownsRow B 3 1 v n (xs.map (Value.int .i64))) (hn : n ≤ 1048576) : Wr w B w.heap.size v xs := by
  obtain ⟨hl, hv⟩ := h
  have hln : xs.length = n := by simpa using hl
  rcases hv with ⟨rfl, rfl⟩ | ⟨g, cap, cur, rfl, hB, hg, hc1, hc2, hc3, hc4⟩
  · exact ⟨none, 0, 0, rfl, hln, by omega, by omega, by omega, fun h => by omega⟩
  · refine ⟨some ⟨g, 0, none⟩, n, cap, rfl, hln, hn, hc1, hc2, fun _ => ⟨g, 0, cur, rfl, hB, (Array.getElem?_eq_some_iff.1 hg).1, hg, by omega, fun k hk => ?_⟩⟩
    have : (cur.toList.take (n * 1))[k]? = some (.int .i64 (gi xs k)) := by
      rw [hc4, List.getElem?_map]
      have : k < xs.length := by omega
      simp [gi, this]
    rw [List.getElem?_take] at this
    split at this
    · simpa using this
    · cases this

theorem Wr.nil (w : World) (lo hi : Nat) : Wr w lo hi (.slice none 0 0) [] := ⟨none, 0, 0, rfl, rfl, by omega, by omega, by omega, fun h => by omega⟩

theorem infoInt : (Try.prog.info? 3).map (fun i => (i.zero, i.size, i.bytes)) = some (some (.int .i64 0), 1, 8) := by kernel_rfl

theorem l6In_any (n a b : Int) (w : World) :
    Calls Try.prog 66 #[.int .i64 n, .int .i64 a, .int .i64 b] w fun e w' => e = .returned (.bool (inB n a b)) ∧ w = w' := by
  go_enter Try.func66, Try.ntmps66
  go_wp2
  all_goals go_ret
  · have h : a ≤ n := by assumption
    exact ⟨by simp [inB, h], rfl⟩
  · have h : n < a := by assumption
    exact ⟨by simp [inB]; omega, rfl⟩

theorem within_any (n a b : Int) (w : World) :
    Calls Try.prog 90 #[.int .i64 n, .int .i64 a, .int .i64 b] w fun e w' => e = .returned (.bool (inB n a b)) ∧ w = w' := by
  go_enter Try.func90, Try.ntmps90
  go_wp2
  all_goals go_ret
  · have h : a ≤ n := by assumption
    exact ⟨by simp [inB, h], rfl⟩
  · have h : n < a := by assumption
    exact ⟨by simp [inB]; omega, rfl⟩

theorem l6In_is {r : Bool} (n a b : Int) (w : World) (h : inB n a b = r) :
    Calls Try.prog 66 #[.int .i64 n, .int .i64 a, .int .i64 b] w fun e w' => e = .returned (.bool r) ∧ w = w' := h ▸ l6In_any n a b w
theorem within_is {r : Bool} (n a b : Int) (w : World) (h : inB n a b = r) :
    Calls Try.prog 90 #[.int .i64 n, .int .i64 a, .int .i64 b] w fun e w' => e = .returned (.bool r) ∧ w = w' := h ▸ within_any n a b w

end Go.Proofs.Ytoanefccnbnkmaa
