/- Package trie: a node is read. -/
import Derived.Test.YthhjdkcnkdffcaaGreatZSays
import Derived.Test.YthhjdkcnkdffcaaGreatZCurB
import Derived.Deep.DeepCutAuto
namespace Go.Proofs.YthhjdkcnkdffcaaGreat
set_option linter.unusedSimpArgs false
set_option linter.unusedVariables false
open Go.RowKit
/-- What a call of read brings about. -/
def ReadEnd (w w' : World) (c : Nat) (l : List UInt8) (at_ : Nat) (nv : Value) (b : Bool) : Prop :=
  (∃ s', CuAt w' c l s' ∧ (b = true → s'.bad = false)) ∧ w.grownBy w' (some c) ∧ ∃ x e kv, nv = .agg (nodeCells x e kv) ∧ (∃ p n cp, kv = .slice p n cp) ∧
  match readM l at_ with
  | some n => b = true ∧ x = n.says ∧ e = n.ends ∧ KB w' w.heap.size kv n.kids
  | none => b = false
/-- The zero node, written over whatever node. -/
theorem SaysAt.zeroed {w0 W : World} {X c : Nat} {l : List UInt8} {s : Cu} {t : TypeId} {a0 a6 : ByteArray} {a1 a3 a4 a5 : Int} {a2 a7 : Bool} {p : Option Addr} {n cp : Nat}
    (h : SaysAt w0 W X c l s t #[.string a0, .int .i64 a1, .bool a2, .int .u64 a3, .int .u64 a4, .int .u64 a5, .string a6, .bool a7, .slice p n cp]) :
    SaysAt w0 (((((((((W.setCell ⟨X, 0, none⟩ (.string ⟨#[]⟩)).setCell ⟨X, 1, none⟩ (.int .i64 0)).setCell ⟨X, 2, none⟩ (.bool false)).setCell ⟨X, 3, none⟩ (.int .u64 0)).setCell ⟨X, 4, none⟩ (.int .u64 0)).setCell ⟨X, 5, none⟩ (.int .u64 0)).setCell ⟨X, 6, none⟩ (.string ⟨#[]⟩)).setCell ⟨X, 7, none⟩ (.bool false)).setCell ⟨X, 8, none⟩ (.slice none 0 0)) X c l s t #[.string ⟨#[]⟩, .int .i64 0, .bool false, .int .u64 0, .int .u64 0, .int .u64 0, .string ⟨#[]⟩, .bool false, .slice none 0 0] := by
  have h0 : SaysAt w0 _ X c l s t #[.string ⟨#[]⟩, .int .i64 a1, .bool a2, .int .u64 a3, .int .u64 a4, .int .u64 a5, .string a6, .bool a7, .slice p n cp] := h.set 0 (.string ⟨#[]⟩) _ rfl (fun n h => by cases h)
  have h1 : SaysAt w0 _ X c l s t #[.string ⟨#[]⟩, .int .i64 0, .bool a2, .int .u64 a3, .int .u64 a4, .int .u64 a5, .string a6, .bool a7, .slice p n cp] := h0.set 1 (.int .i64 0) _ rfl (fun n h => by cases h)
  have h2 : SaysAt w0 _ X c l s t #[.string ⟨#[]⟩, .int .i64 0, .bool false, .int .u64 a3, .int .u64 a4, .int .u64 a5, .string a6, .bool a7, .slice p n cp] := h1.set 2 (.bool false) _ rfl (fun n h => by cases h)
  have h3 : SaysAt w0 _ X c l s t #[.string ⟨#[]⟩, .int .i64 0, .bool false, .int .u64 0, .int .u64 a4, .int .u64 a5, .string a6, .bool a7, .slice p n cp] := h2.set 3 (.int .u64 0) _ rfl (fun n h => by cases h)
  have h4 : SaysAt w0 _ X c l s t #[.string ⟨#[]⟩, .int .i64 0, .bool false, .int .u64 0, .int .u64 0, .int .u64 a5, .string a6, .bool a7, .slice p n cp] := h3.set 4 (.int .u64 0) _ rfl (fun n h => by cases h)
  have h5 : SaysAt w0 _ X c l s t #[.string ⟨#[]⟩, .int .i64 0, .bool false, .int .u64 0, .int .u64 0, .int .u64 0, .string a6, .bool a7, .slice p n cp] := h4.set 5 (.int .u64 0) _ rfl (fun n h => by cases h)
  have h6 : SaysAt w0 _ X c l s t #[.string ⟨#[]⟩, .int .i64 0, .bool false, .int .u64 0, .int .u64 0, .int .u64 0, .string ⟨#[]⟩, .bool a7, .slice p n cp] := h5.set 6 (.string ⟨#[]⟩) _ rfl (fun n h => by cases h)
  have h7 : SaysAt w0 _ X c l s t #[.string ⟨#[]⟩, .int .i64 0, .bool false, .int .u64 0, .int .u64 0, .int .u64 0, .string ⟨#[]⟩, .bool false, .slice p n cp] := h6.set 7 (.bool false) _ rfl (fun n h => by cases h)
  exact h7.set 8 (.slice none 0 0) _ rfl (fun n h => by cases h)
/-- What is said, written into a node. -/
theorem SaysAt.said {w0 W : World} {X c : Nat} {l : List UInt8} {s : Cu} {t : TypeId} {a0 a6 : ByteArray} {a1 a3 a4 a5 : Int} {a2 a7 : Bool} {p : Option Addr} {n cp : Nat} (x : Exp)
    (h : SaysAt w0 W X c l s t #[.string a0, .int .i64 a1, .bool a2, .int .u64 a3, .int .u64 a4, .int .u64 a5, .string a6, .bool a7, .slice p n cp]) :
    SaysAt w0 (((((((W.setCell ⟨X, 0, none⟩ (.string (mkS x.name))).setCell ⟨X, 1, none⟩ (.int .i64 x.kind)).setCell ⟨X, 2, none⟩ (.bool x.weak)).setCell ⟨X, 3, none⟩ (.int .u64 (x.value : Int))).setCell ⟨X, 4, none⟩ (.int .u64 (x.resolver : Int))).setCell ⟨X, 5, none⟩ (.int .u64 (x.ordinal : Int))).setCell ⟨X, 6, none⟩ (.string (mkS x.other))) X c l s t #[.string (mkS x.name), .int .i64 x.kind, .bool x.weak, .int .u64 (x.value : Int), .int .u64 (x.resolver : Int), .int .u64 (x.ordinal : Int), .string (mkS x.other), .bool a7, .slice p n cp] := by
  have h0 : SaysAt w0 _ X c l s t #[.string (mkS x.name), .int .i64 a1, .bool a2, .int .u64 a3, .int .u64 a4, .int .u64 a5, .string a6, .bool a7, .slice p n cp] := h.set 0 (.string (mkS x.name)) _ rfl (fun n h => by cases h)
  have h1 : SaysAt w0 _ X c l s t #[.string (mkS x.name), .int .i64 x.kind, .bool a2, .int .u64 a3, .int .u64 a4, .int .u64 a5, .string a6, .bool a7, .slice p n cp] := h0.set 1 (.int .i64 x.kind) _ rfl (fun n h => by cases h)
  have h2 : SaysAt w0 _ X c l s t #[.string (mkS x.name), .int .i64 x.kind, .bool x.weak, .int .u64 a3, .int .u64 a4, .int .u64 a5, .string a6, .bool a7, .slice p n cp] := h1.set 2 (.bool x.weak) _ rfl (fun n h => by cases h)
  have h3 : SaysAt w0 _ X c l s t #[.string (mkS x.name), .int .i64 x.kind, .bool x.weak, .int .u64 (x.value : Int), .int .u64 a4, .int .u64 a5, .string a6, .bool a7, .slice p n cp] := h2.set 3 (.int .u64 (x.value : Int)) _ rfl (fun n h => by cases h)
  have h4 : SaysAt w0 _ X c l s t #[.string (mkS x.name), .int .i64 x.kind, .bool x.weak, .int .u64 (x.value : Int), .int .u64 (x.resolver : Int), .int .u64 a5, .string a6, .bool a7, .slice p n cp] := h3.set 4 (.int .u64 (x.resolver : Int)) _ rfl (fun n h => by cases h)
  have h5 : SaysAt w0 _ X c l s t #[.string (mkS x.name), .int .i64 x.kind, .bool x.weak, .int .u64 (x.value : Int), .int .u64 (x.resolver : Int), .int .u64 (x.ordinal : Int), .string a6, .bool a7, .slice p n cp] := h4.set 5 (.int .u64 (x.ordinal : Int)) _ rfl (fun n h => by cases h)
  exact h5.set 6 (.string (mkS x.other)) _ rfl (fun n h => by cases h)
/-- What stands behind the node's own part. -/
structure HeadAt (w W : World) (X c : Nat) (l : List UInt8) (at_ size k : Nat) (x : Exp) : Prop where
  row : SaysAt w W X c l ⟨at_ + k + size, false⟩ 189 #[.string (mkS x.name), .int .i64 x.kind, .bool x.weak, .int .u64 (x.value : Int), .int .u64 (x.resolver : Int), .int .u64 (x.ordinal : Int), .string (mkS x.other), .bool (decide (0 < size)), .slice none 0 0]
  eq : headM l at_ size k = some x
end Go.Proofs.YthhjdkcnkdffcaaGreat
