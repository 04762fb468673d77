/- Rows of cells; numbers in a row. -/
import Derived.Test.YtoanefccnbnkmaaBase
namespace Go.Proofs.Ytoanefccnbnkmaa
open Go.RowKit

/-- A row of cells that is not frozen. -/
def Row (w : World) (g : Nat) (e : TypeId) (cur : Array Value) : Prop := w.heap[g]? = some (.cells cur e (0, 0))

theorem Row.cell {w : World} {g : Nat} {e : TypeId} {cur : Array Value} (h : Row w g e cur) (k : Nat) : w.cell? ⟨g, k, none⟩ = cur[k]? := cell_of_row w g k cur e (0, 0) h
theorem Row.ex {w : World} {g : Nat} {e : TypeId} {cur : Array Value} (h : Row w g e cur) {k : Nat} (hk : k < cur.size) : ∃ u, w.cell? ⟨g, k, none⟩ = some u := ⟨cur[k], by rw [h.cell]; simp [hk]⟩
theorem Row.frozen {w : World} {g : Nat} {e : TypeId} {cur : Array Value} (h : Row w g e cur) (k : Nat) : w.frozen? ⟨g, k, none⟩ = false := frozen_of_row w g k cur e h
theorem Row.lt {w : World} {g : Nat} {e : TypeId} {cur : Array Value} (h : Row w g e cur) : g < w.heap.size := (Array.getElem?_eq_some_iff.1 h).1
theorem Row.set {w : World} {g : Nat} {e : TypeId} {cur : Array Value} (h : Row w g e cur) (k : Nat) (u : Value) : Row (w.setCell ⟨g, k, none⟩ u) g e (cur.setIfInBounds k u) :=
  heap_setCell_same w g k cur e u h
theorem Row.old {w w' : World} {g : Nat} {e : TypeId} {cur : Array Value} (h : Row w g e cur) (hb : Below w.heap.size w w') : Row w' g e cur := (hb.block g h.lt).trans h
theorem Row.new (w : World) (cur : Array Value) (e : TypeId) : Row (w.alloc (.cells cur e)) w.heap.size e cur := heap_alloc_new w _
theorem Row.other {w : World} {g : Nat} {e : TypeId} {cur : Array Value} (h : Row w g e cur) {a : Addr} (ha : g ≠ a.block) (u : Value) : Row (w.setCell a u) g e cur :=
  (Below.heap_setCell w a u g ha).trans h

theorem Out.setCell {lo hi : Nat} {w w' : World} (h : Out lo hi w w') {a : Addr} (h1 : lo ≤ a.block) (h2 : a.block < hi) (u : Value) : Out lo hi w (w'.setCell a u) :=
  ⟨h.os, h.tape, h.output, by simpa [World.setCell] using h.size, fun k hk hd => (Below.heap_setCell w' a u k (by omega)).trans (h.block k hk hd)⟩

/-- k, k + 1, .., n of them. -/
def marks (k : Int) (n : Nat) : List Int := (List.range n).map fun (i : Nat) => k + (i : Int)
theorem marks_len (k : Int) (n : Nat) : (marks k n).length = n := by simp [marks]
theorem marks_gi {k : Int} {n j : Nat} (hj : j < n) : gi (marks k n) j = k + j := by simp [gi, marks, hj]

end Go.Proofs.Ytoanefccnbnkmaa
