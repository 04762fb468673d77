/- Stacks: push and top; an append whose own block is told. -/
import Derived.Test.YthbkimojbbkeiaaDoorPush
import Derived.ArgAppend
import Derived.RangeFuncBox
namespace Go.Proofs.YthbkimojbbkeiaaDoor
open Go.RowKit

theorem grow2 {a b c : World} {r : Option Nat} (h : a.grownBy b r) (k : b.grownBy c r) : a.grownBy c r :=
  ⟨k.os.trans h.os, k.tape.trans h.tape, k.output.trans h.output, Nat.le_trans h.size k.size, fun i hi hr => (k.block i (Nat.lt_of_lt_of_le hi h.size) hr).trans (h.block i hi hr)⟩
theorem grow_none {a b : World} {r : Option Nat} (h : a.grownBy b none) : a.grownBy b r := ⟨h.os, h.tape, h.output, h.size, fun k hk _ => h.block k hk (by simp)⟩
theorem owns_mono {w : World} {b b' : Nat} {e : TypeId} {s : Nat} {v : Value} {n : Nat} {xs : List Value} (h : w.ownsRow b e s v n xs) (hb : b' ≤ b) : w.ownsRow b' e s v n xs := by
  obtain ⟨h1, h2⟩ := h
  refine ⟨h1, ?_⟩
  rcases h2 with h2 | ⟨g, cap, cur, hv, hg, r⟩
  · exact .inl h2
  · exact .inr ⟨g, cap, cur, hv, by omega, r⟩

/-- Where an append leaves the slice. -/
def NewBlk (w : World) (v v' : Value) : Prop := v'.ownBlock = v.ownBlock ∨ ∃ g, v'.ownBlock = some g ∧ w.heap.size ≤ g

theorem wpList_push2 {ops : Array Oper} {rest : List Oper} {o : Oper} {a : Act} {Q : Exit → Act → World → Prop} {w : World} {B : Nat} {v : Value} {ys : List Int} {y : Int} {s x : Operand} {t : TypeId} (ht : Tryd.prog.underlying t = some (.slice 3)) (hown : OwI w B v ys) (hgd : o.guard = none)
    (ho : o.op = .call { callee := .builtin .append, args := #[s, x], argTypes := #[t, t] })
    (hs : a.eval s = v) (hx : a.eval x = .slice (some ⟨w.heap.size, 0, none⟩) 1 1) (hlen : ys.length ≤ 1048576) (hB : B ≤ w.heap.size)
    (h : ∀ g c w', OwI w' B (.slice (some ⟨g, 0, none⟩) (ys.length + 1) c) (ys ++ [y]) → w.grownBy w' v.ownBlock → NewBlk w v (.slice (some ⟨g, 0, none⟩) (ys.length + 1) c) → wpList Tryd.prog ops Q rest (a.put o.dst (.slice (some ⟨g, 0, none⟩) (ys.length + 1) c)) w') :
    wpList Tryd.prog ops Q (o :: rest) a (w.alloc (.cells #[.int .i64 y] 3)) := by
  obtain ⟨i, hi, hz, hsz, hb⟩ := info_parts infoInt
  have hnews : ∀ (j : Nat) (u : Value), [Value.int .i64 y][j]? = some u → (w.alloc (.cells #[.int .i64 y] 3)).cell? ((⟨w.heap.size, 0, none⟩ : Addr).add j) = some u := by
    intro j u hj
    match j, hj with
    | 0, hj =>
      simp at hj
      subst hj
      simp [Addr.add]
  have h1c : ∀ u ∈ [Value.int .i64 y], u.oneCell' = true := by
    intro u hu
    simp at hu
    subst hu
    rfl
  have grows : ∀ (ao : Option Addr) (cap : Nat) (olds : List Value), a.eval s = .slice ao ys.length cap → (ao = none → ys.length = 0 ∧ cap = 0) → olds = ys.map (Value.int .i64) →
      (∀ b, ao = some b → ∀ j u, olds[j]? = some u → (w.alloc (.cells #[.int .i64 y] 3)).cell? (b.add j) = some u) → cap < ys.length + 1 →
      wpList Tryd.prog ops Q (o :: rest) a (w.alloc (.cells #[.int .i64 y] 3)) := by
    intro ao cap olds hev hn he hc hfull
    subst he
    refine wpList_append_grows _ hgd s x t ho 3 i (.int .i64 0) 1 8 ht hi hz hsz hb rfl (by decide) ao ys.length cap _ hev hn (by simp) hc ⟨w.heap.size, 0, none⟩ 1 1 [.int .i64 y] hx rfl hnews h1c hfull (by unfold maxLen; omega) (by omega) ?_
    intro v' w' h1 h2
    obtain ⟨g, c, rfl⟩ := ownsRow_succ h1
    have hge : w.heap.size + 1 ≤ g := by
      have := (h1.lt g rfl).1
      simpa using this
    refine h g c w' ?_ (grow2 (World.grownBy_alloc w _ _) (grow_none h2)) (.inr ⟨g, rfl, by omega⟩)
    unfold OwI
    rw [List.length_append, List.map_append]
    exact owns_mono h1 (by simp; omega)
  have hown' := hown
  obtain ⟨hl, hv⟩ := hown
  rcases hv with ⟨rfl, hn0⟩ | ⟨g, cap, cur, rfl, hgB, hgb, hc1, hc2, hc3, hc4⟩
  · exact grows none 0 _ (by rw [hs, hn0]) (fun _ => ⟨hn0, rfl⟩) rfl (fun b hb => by cases hb) (by omega)
  · by_cases hroom : ys.length + 1 ≤ cap
    · refine wpList_append_fits _ hgd s x t ho B 3 i 1 ht hi hsz g ys.length cap (ys.map (Value.int .i64)) hs (hown'.alloc _) ⟨w.heap.size, 0, none⟩ 1 1 [.int .i64 y] hx rfl hnews h1c hroom ?_
      intro w' h1 h2
      refine h g cap w' ?_ (grow2 (World.grownBy_alloc w _ _) h2) (.inl rfl)
      unfold OwI
      rw [List.length_append, List.map_append]
      exact h1
    · exact grows (some ⟨g, 0, none⟩) cap _ hs (fun h => by cases h) rfl (fun b hb => by
        cases hb
        exact (hown'.alloc _).cells (g := g) rfl) (by omega)


end Go.Proofs.YthbkimojbbkeiaaDoor
