/- Appending to a slice of ints of the call's own. -/
import Derived.Test.YthbkimojbbkeiaaDoorInts
namespace Go.Proofs.YthbkimojbbkeiaaDoor
open Go.RowKit

/-- v is a slice of the call's own (blocks from B on) that holds ys. -/
def OwI (w : World) (B : Nat) (v : Value) (ys : List Int) : Prop := w.ownsRow B 3 1 v ys.length (ys.map (Value.int .i64))

theorem OwI.nil (w : World) (B : Nat) : OwI w B (.slice none 0 0) [] := World.ownsRow_nil w B _ _
theorem OwI.wr {w : World} {B : Nat} {v : Value} {ys : List Int} (h : OwI w B v ys) (hn : ys.length ≤ 1048576) : Wr w B w.heap.size v ys := Wr.of_own h hn
theorem OwI.below {w w' : World} {B : Nat} {v : Value} {ys : List Int} (h : OwI w B v ys) (hb : Below w.heap.size w w') : OwI w' B v ys :=
  h.kept (row := none) ⟨hb.os, hb.tape, hb.output, hb.size, fun k hk _ => hb.block k hk⟩ (by cases hv : v.ownBlock <;> simp)
theorem OwI.new (w : World) (B cap : Nat) (cur : Array Value) (hB : B ≤ w.heap.size) (hc : cap ≤ maxLen) (hs : cur.size = cap) : OwI (w.alloc (.cells cur 3)) B (.slice (some ⟨w.heap.size, 0, none⟩) 0 cap) [] :=
  World.ownsRow_made w cur cap hB hc (by omega)
theorem OwI.drewN {w : World} {B : Nat} {v : Value} {ys : List Int} (h : OwI w B v ys) (n : Nat) : OwI (w.drewN n) B v ys := h

/-- 'out = append(out, y)'. -/
theorem wpList_push {ops : Array Oper} {rest : List Oper} {o : Oper} {a : Act} {Q : Exit → Act → World → Prop} {w : World} {B : Nat} {v : Value} {ys : List Int} {y : Int} {s x : Operand} (hown : OwI w B v ys) (hgd : o.guard = none)
    (ho : o.op = .call { callee := .builtin .append, args := #[s, x], argTypes := #[40, 40] })
    (hs : a.eval s = v) (hx : a.eval x = .slice (some ⟨w.heap.size, 0, none⟩) 1 1) (hlen : ys.length ≤ 1048576) (hB : B ≤ w.heap.size)
    (h : ∀ v' w', OwI w' B v' (ys ++ [y]) → Below B w w' → wpList Tryd.prog ops Q rest (a.put o.dst v') w') :
    wpList Tryd.prog ops Q (o :: rest) a (w.alloc (.cells #[.int .i64 y] 3)) := by
  obtain ⟨i, hi, hz, hsz, hb⟩ := info_parts infoInt
  refine wpList_append_own (w.alloc (.cells #[.int .i64 y] 3)) hgd s x 40 ho B 3 i (.int .i64 0) 1 8 Tryd.underlying40 hi hz hsz hb rfl (by decide) v ys.length _ hs (hown.alloc _)
    ⟨w.heap.size, 0, none⟩ 1 1 [.int .i64 y] hx rfl ?_ ?_ ?_ ?_ ?_ ?_
  · intro j u hj
    match j, hj with
    | 0, hj =>
      simp at hj
      subst hj
      simp [Addr.add]
  · intro u hu
    simp at hu
    subst hu
    rfl
  · unfold maxLen; omega
  · omega
  · simp; omega
  · intro v' w' h1 h2 _
    refine h v' w' ?_ ?_
    · unfold OwI
      rw [List.length_append, List.map_append]
      exact h1
    · exact ((Below.refl B w).alloc hB _).grown h2 (by simp; omega) (fun k hk => (hown.lt k hk).1)

theorem Wr.grown {w w' : World} {lo hi g : Nat} {v : Value} {xs : List Int} (h : Wr w lo hi v xs) (hg : w.grownBy w' (some g)) (hlo : g < lo) : Wr w' lo hi v xs :=
  h.of_block fun k hk h1 _ => hg.block k hk (by simp; omega)

/-- 'out = append(out, y)' where there is room: the slice stays where it is. -/
theorem wpList_push_fits {ops : Array Oper} {rest : List Oper} {o : Oper} {a : Act} {Q : Exit → Act → World → Prop} {w : World} {B g cap : Nat} {ys : List Int} {y : Int} {s x : Operand} (hown : OwI w B (.slice (some ⟨g, 0, none⟩) ys.length cap) ys) (hgd : o.guard = none)
    (ho : o.op = .call { callee := .builtin .append, args := #[s, x], argTypes := #[40, 40] })
    (hs : a.eval s = .slice (some ⟨g, 0, none⟩) ys.length cap) (hx : a.eval x = .slice (some ⟨w.heap.size, 0, none⟩) 1 1) (hroom : ys.length + 1 ≤ cap)
    (h : ∀ w', OwI w' B (.slice (some ⟨g, 0, none⟩) (ys.length + 1) cap) (ys ++ [y]) → w.grownBy w' (some g) → wpList Tryd.prog ops Q rest (a.put o.dst (.slice (some ⟨g, 0, none⟩) (ys.length + 1) cap)) w') :
    wpList Tryd.prog ops Q (o :: rest) a (w.alloc (.cells #[.int .i64 y] 3)) := by
  obtain ⟨i, hi, hz, hsz, hb⟩ := info_parts infoInt
  refine wpList_append_fits _ hgd s x 40 ho B 3 i 1 Tryd.underlying40 hi hsz g ys.length cap (ys.map (Value.int .i64)) hs (hown.alloc _) ⟨w.heap.size, 0, none⟩ 1 1 [.int .i64 y] hx rfl ?_ ?_ hroom ?_
  · intro j u hj
    match j, hj with
    | 0, hj =>
      simp at hj
      subst hj
      simp [Addr.add]
  · intro u hu
    simp at hu
    subst hu
    rfl
  · intro w' h1 h2
    refine h w' ?_ ?_
    · unfold OwI
      rw [List.length_append, List.map_append]
      exact h1
    · have e := World.grownBy_alloc w (.cells #[.int .i64 y] 3) (some g)
      exact ⟨h2.os.trans e.os, h2.tape.trans e.tape, h2.output.trans e.output, Nat.le_trans e.size h2.size, fun i hi hr => (h2.block i (Nat.lt_of_lt_of_le hi e.size) hr).trans (e.block i hi hr)⟩

end Go.Proofs.YthbkimojbbkeiaaDoor
