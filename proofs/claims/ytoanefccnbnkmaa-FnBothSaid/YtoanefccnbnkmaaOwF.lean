/- Appending faults to a slice of the call's own. -/
import Derived.Test.YtoanefccnbnkmaaFind
namespace Go.Proofs.Ytoanefccnbnkmaa
open Go.RowKit

/-- v is a slice of faults of the call's own (blocks from B on) that reads as ys, c of them. -/
def OwF (w : World) (B : Nat) (v : Value) (ys : List Int) (c : Nat) : Prop := w.ownsRow B 41 2 v c (ys.map (Value.int .i64))
theorem OwF.nil (w : World) (B : Nat) : OwF w B (.slice none 0 0) [] 0 := World.ownsRow_nil w B _ _
theorem OwF.empty (w : World) (B : Nat) (hB : B ≤ w.heap.size) : OwF (w.alloc (.cells #[] 41)) B (.slice (some ⟨w.heap.size, 0, none⟩) 0 0) [] 0 :=
  World.ownsRow_made w #[] 0 hB (by unfold maxLen; omega) rfl
theorem OwF.below {w w' : World} {B c : Nat} {v : Value} {ys : List Int} (h : OwF w B v ys c) (hb : Below w.heap.size w w') : OwF w' B v ys c :=
  h.kept (row := none) ⟨hb.os, hb.tape, hb.output, hb.size, fun k hk _ => hb.block k hk⟩ (by cases hv : v.ownBlock <;> simp)
theorem OwF.wr {w : World} {B c : Nat} {v : Value} {ys : List Int} (h : OwF w B v ys c) (hn : c ≤ 1048576) : WrF 2 41 w B w.heap.size v ys c := by
  obtain ⟨hl, hv⟩ := h
  have hln : ys.length = c * 2 := by simpa using hl
  rcases hv with ⟨rfl, rfl⟩ | ⟨g, cap, cur, rfl, hB, hg, hc1, hc2, hc3, hc4⟩
  · exact ⟨none, 0, rfl, hln, by omega, by omega, by omega, fun h => by omega⟩
  · have hm : cap ≤ 9223372036854775807 := by unfold maxLen at hc2; omega
    refine ⟨some ⟨g, 0, none⟩, cap, rfl, hln, hn, hc1, hm, fun _ => ⟨g, 0, cur, rfl, hB, (Array.getElem?_eq_some_iff.1 hg).1, hg, by rw [hc3]; omega, fun k hk => ?_⟩⟩
    have : (cur.toList.take (c * 2))[k]? = some (.int .i64 (gi ys k)) := by
      rw [hc4, List.getElem?_map]
      have : k < ys.length := by omega
      simp [gi, this]
    rw [List.getElem?_take, if_pos hk] at this
    simpa using this
theorem OwF.form {w : World} {B c : Nat} {v : Value} {ys : List Int} (h : OwF w B v ys c) : ∃ a n cap, v = .slice a n cap ∧ Hid (n = c) := by
  obtain ⟨_, hv⟩ := h
  rcases hv with ⟨rfl, h1⟩ | ⟨g, cap, cur, rfl, _⟩
  · exact ⟨_, _, _, rfl, h1.symm⟩
  · exact ⟨_, _, _, rfl, rfl⟩

theorem infoFault2 : (Try.prog.info? 41).map (fun i => (i.zero, i.size, i.bytes)) = some (some (.agg #[.int .i64 0, .int .i64 0]), 2, 16) := by kernel_rfl

/-- 'out = append(out, f)'. -/
theorem wpList_pushF {ops : Array Oper} {rest : List Oper} {o : Oper} {a : Act} {Q : Exit → Act → World → Prop} {w : World} {B c : Nat} {v : Value} {ys : List Int} {m f : Int} {s x : Operand} (hown : OwF w B v ys c) (hgd : o.guard = none)
    (ho : o.op = .call { callee := .builtin .append, args := #[s, x], argTypes := #[26, 26] })
    (hs : a.eval s = v) (hx : a.eval x = .slice (some ⟨w.heap.size, 0, none⟩) 1 1) (hlen : c ≤ 1048576) (hB : B ≤ w.heap.size)
    (h : ∀ v' w', OwF w' B v' (ys ++ [m, f]) (c + 1) → Below B w w' → w.grownBy w' v.ownBlock → wpList Try.prog ops Q rest (a.put o.dst v') w') :
    wpList Try.prog ops Q (o :: rest) a (w.alloc (.cells #[.int .i64 m, .int .i64 f] 41)) := by
  obtain ⟨i, hi, hz, hsz, hb⟩ := info_parts infoFault2
  refine wpList_append_own (w := w.alloc (.cells #[.int .i64 m, .int .i64 f] 41)) hgd s x 26 ho B 41 i (.agg #[.int .i64 0, .int .i64 0]) 2 16 Try.underlying26 hi hz hsz hb rfl (by decide) v c _ hs (hown.alloc _)
    ⟨w.heap.size, 0, none⟩ 1 1 [.int .i64 m, .int .i64 f] hx rfl ?_ ?_ ?_ ?_ ?_ ?_
  · intro j u hj
    match j, hj with
    | 0, hj =>
      simp at hj
      subst hj
      simp [Addr.add]
    | 1, hj =>
      simp at hj
      subst hj
      simp [Addr.add]
  · intro u hu
    simp at hu
    rcases hu with rfl | rfl <;> rfl
  · unfold maxLen; omega
  · omega
  · simp; omega
  · intro v' w' h1 h2 _
    have hg : w.grownBy w' v.ownBlock := by
      have e := World.grownBy_alloc w (.cells #[.int .i64 m, .int .i64 f] 41) v.ownBlock
      exact ⟨h2.os.trans e.os, h2.tape.trans e.tape, h2.output.trans e.output, Nat.le_trans e.size h2.size, fun i hi hr => (h2.block i (Nat.lt_of_lt_of_le hi e.size) hr).trans (e.block i hi hr)⟩
    refine h v' w' ?_ ?_ hg
    · unfold OwF
      rw [List.map_append]
      exact h1
    · exact ((Below.refl B w).alloc hB _).grown h2 (by simp; omega) (fun k hk => (hown.lt k hk).1)

end Go.Proofs.Ytoanefccnbnkmaa
