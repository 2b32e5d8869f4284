/- Which rule is next: by the goal's head alone. -/
import Derived.Test.YtmanhdacnkpclaaGV
namespace Go.Proofs.Ytmanhdacnkpclaa
set_option linter.unusedVariables false
set_option linter.unusedSimpArgs false
open Go.RowKit
section
variable {P : Program} {n : Nat} {c : Code} {Q : Exit → St → Prop} {σ : St} {dr : Bool} {ops : Array Oper} {os : List Oper} {acc : List Info} {K : St → Prop} {o : Oper}
theorem id_dwp (h : dwp P n c Q σ) : dwp P n c Q σ := h
theorem id_sq (h : SqA P n dr ops (o :: os) acc σ K) : SqA P n dr ops (o :: os) acc σ K := h
theorem id_seq {x y : Code} (h : dwp P n (.seq x y) Q σ) : dwp P n (.seq x y) Q σ := h
theorem id_cond {s : Operand} {x y : Code} (h : dwp P n (.cond s x y) Q σ) : dwp P n (.cond s x y) Q σ := h
theorem id_reg {id : Nat} {ops : Array Oper} {b : Bool} (h : dwp P n (.region id ops b) Q σ) : dwp P n (.region id ops b) Q σ := h
variable {d : Option Tmp} {ty : TypeId} {pos : String} {af : Array Edge} {gd : Option (Nat × Bool)}
theorem id_move {s : Operand} (h : SqA P n dr ops (⟨d, .move s, ty, pos, af, gd⟩ :: os) acc σ K) : SqA P n dr ops (⟨d, .move s, ty, pos, af, gd⟩ :: os) acc σ K := h
theorem id_assign {s : Operand} (h : SqA P n dr ops (⟨d, .assign s, ty, pos, af, gd⟩ :: os) acc σ K) : SqA P n dr ops (⟨d, .assign s, ty, pos, af, gd⟩ :: os) acc σ K := h
theorem id_bin {b : BinOp} {t t' : TypeId} {s s' : Operand} (h : SqA P n dr ops (⟨d, .binOp b t s s' t', ty, pos, af, gd⟩ :: os) acc σ K) : SqA P n dr ops (⟨d, .binOp b t s s' t', ty, pos, af, gd⟩ :: os) acc σ K := h
theorem id_un {b : UnOp} {t : TypeId} {s : Operand} (h : SqA P n dr ops (⟨d, .unOp b t s, ty, pos, af, gd⟩ :: os) acc σ K) : SqA P n dr ops (⟨d, .unOp b t s, ty, pos, af, gd⟩ :: os) acc σ K := h
theorem id_load {t : TypeId} {s : Operand} (h : SqA P n dr ops (⟨d, .load t s, ty, pos, af, gd⟩ :: os) acc σ K) : SqA P n dr ops (⟨d, .load t s, ty, pos, af, gd⟩ :: os) acc σ K := h
theorem id_store {t : TypeId} {s s' : Operand} (h : SqA P n dr ops (⟨d, .store t s s', ty, pos, af, gd⟩ :: os) acc σ K) : SqA P n dr ops (⟨d, .store t s s', ty, pos, af, gd⟩ :: os) acc σ K := h
theorem id_fld {t f : Nat} {s : Operand} (h : SqA P n dr ops (⟨d, .fieldAddr t s f, ty, pos, af, gd⟩ :: os) acc σ K) : SqA P n dr ops (⟨d, .fieldAddr t s f, ty, pos, af, gd⟩ :: os) acc σ K := h
theorem id_idx {t : Nat} {s s' : Operand} (h : SqA P n dr ops (⟨d, .indexAddr t s s', ty, pos, af, gd⟩ :: os) acc σ K) : SqA P n dr ops (⟨d, .indexAddr t s s', ty, pos, af, gd⟩ :: os) acc σ K := h
theorem id_call {c : Call} (h : SqA P n dr ops (⟨d, .call c, ty, pos, af, gd⟩ :: os) acc σ K) : SqA P n dr ops (⟨d, .call c, ty, pos, af, gd⟩ :: os) acc σ K := h
theorem id_callf {f : FuncId} {xs : Array Operand} {ts : Array TypeId} (h : SqA P n dr ops (⟨d, .call ⟨.value (.func f), xs, ts⟩, ty, pos, af, gd⟩ :: os) acc σ K) : SqA P n dr ops (⟨d, .call ⟨.value (.func f), xs, ts⟩, ty, pos, af, gd⟩ :: os) acc σ K := h
theorem id_callb {b : Builtin} {xs : Array Operand} {ts : Array TypeId} (h : SqA P n dr ops (⟨d, .call ⟨.builtin b, xs, ts⟩, ty, pos, af, gd⟩ :: os) acc σ K) : SqA P n dr ops (⟨d, .call ⟨.builtin b, xs, ts⟩, ty, pos, af, gd⟩ :: os) acc σ K := h
theorem id_box {t : TypeId} {s : Operand} (h : SqA P n dr ops (⟨d, .box t s, ty, pos, af, gd⟩ :: os) acc σ K) : SqA P n dr ops (⟨d, .box t s, ty, pos, af, gd⟩ :: os) acc σ K := h
theorem id_alloc {t : TypeId} (h : SqA P n dr ops (⟨d, .alloc t, ty, pos, af, gd⟩ :: os) acc σ K) : SqA P n dr ops (⟨d, .alloc t, ty, pos, af, gd⟩ :: os) acc σ K := h
theorem id_extract {s : Operand} {i : Nat} (h : SqA P n dr ops (⟨d, .extract s i, ty, pos, af, gd⟩ :: os) acc σ K) : SqA P n dr ops (⟨d, .extract s i, ty, pos, af, gd⟩ :: os) acc σ K := h
theorem id_build {t : TypeId} {ps : Array (Nat × Operand)} (h : SqA P n dr ops (⟨d, .build t ps, ty, pos, af, gd⟩ :: os) acc σ K) : SqA P n dr ops (⟨d, .build t ps, ty, pos, af, gd⟩ :: os) acc σ K := h
theorem id_bs {t l : Nat} {ps : Array (Nat × Operand)} (h : SqA P n dr ops (⟨d, .buildSlice t l ps, ty, pos, af, gd⟩ :: os) acc σ K) : SqA P n dr ops (⟨d, .buildSlice t l ps, ty, pos, af, gd⟩ :: os) acc σ K := h
theorem id_pick {s s1 s2 : Operand} (h : SqA P n dr ops (⟨d, .pick s s1 s2, ty, pos, af, gd⟩ :: os) acc σ K) : SqA P n dr ops (⟨d, .pick s s1 s2, ty, pos, af, gd⟩ :: os) acc σ K := h
theorem id_index {t : Nat} {s s' : Operand} (h : SqA P n dr ops (⟨d, .index t s s', ty, pos, af, gd⟩ :: os) acc σ K) : SqA P n dr ops (⟨d, .index t s s', ty, pos, af, gd⟩ :: os) acc σ K := h
theorem id_slice {t : Nat} {s : Operand} {l hh m : Option Operand} (h : SqA P n dr ops (⟨d, .slice t s l hh m, ty, pos, af, gd⟩ :: os) acc σ K) : SqA P n dr ops (⟨d, .slice t s l hh m, ty, pos, af, gd⟩ :: os) acc σ K := h
theorem id_plain {op : Op} (h : SqA P n dr ops (⟨d, op, ty, pos, af, gd⟩ :: os) acc σ K) : SqA P n dr ops (⟨d, op, ty, pos, af, gd⟩ :: os) acc σ K := h
end
end Go.Proofs.Ytmanhdacnkpclaa
