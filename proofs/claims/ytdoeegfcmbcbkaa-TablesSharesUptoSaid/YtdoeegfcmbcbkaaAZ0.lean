/- A part of the proof whose last text is YtdoeegfcmbcbkaaAZ4. -/
import Derived.WalkKit
import Derived.Orders
import Derived.Below
import Derived.OrdersHeld
import Derived.Maps.RangeRun
import Derived.Laws.MakeOwn
import Derived.Laws.Slices
import Derived.Laws.Strings
import Derived.Test.YtdoeegfcmbcbkaaRows
import Derived.ProofKit
import Derived.OpenShut
import Derived.JoinedCond
import Derived.Carry
import Derived.Deep.Slices
import Derived.Test.YtdoeegfcmbcbkaaProg
set_option linter.all false
/- The engine: how the code of one function is walked in step with a typed predicate transformer (for any program P). -/
namespace Go.Eng
open Go
set_option linter.unusedVariables false

/-- a slice's header -/
structure Sl where
  a : Option Addr
  n : Nat
  c : Nat
def Sl.v (s : Sl) : Value := .slice s.a s.n s.c
def Sl.nil : Sl := ⟨none, 0, 0⟩
def Ptr (a : Addr) : Value := .pointer (some a)
abbrev Ext (w w' : World) : Prop := RowKit.Below w.heap.size w w'

/-- a frame: what the temporaries hold, as a function; N: how many there are -/
def upd (l : Nat → Value) (d : Nat) (v : Value) : Nat → Value := fun i => bif Nat.beq i d then v else l i
def upds (j : Nat → Value) : List (Nat × Value) → Nat → Value
  | [] => j
  | (d, v) :: ps => upd (upds j ps) d v
def AllEq (l : Nat → Value) : List (Nat × Value) → Prop
  | [] => True
  | (d, v) :: ps => l d = v ∧ AllEq l ps
def ofArgs : List Value → Nat → Nat → Value
  | [], _ => fun _ => undef
  | a :: vs, k => upd (ofArgs vs (k + 1)) k a
def F (N : Nat) (l : Nat → Value) : Act := ⟨⟨(List.range N).map l⟩, []⟩
def ev (N : Nat) (l : Nat → Value) : Operand → Value
  | .tmp t => bif Nat.blt t N then l t else undef
  | .const v => v
  | .global g => .pointer (some ⟨g, 0, none⟩)
  | .func f => .func (.func f) #[] #[]
theorem upd_self {l : Nat → Value} {d : Nat} {v : Value} (h : l d = v) : upd l d v = l := by
  funext i; unfold upd
  by_cases hi : i = d
  · subst hi; simp [h]
  · have : Nat.beq i d = false := by
      cases hc : Nat.beq i d
      · rfl
      · exact absurd (Nat.eq_of_beq_eq_true hc) hi
    rw [this]; rfl
theorem upds_self {l : Nat → Value} : ∀ {ps : List (Nat × Value)}, AllEq l ps → upds l ps = l
  | [], _ => rfl
  | (d, v) :: ps, h => by
    have ih := upds_self (ps := ps) h.2
    show upd (upds l ps) d v = l
    rw [ih]; exact upd_self h.1
theorem mk_upds {N : Nat} {l : Nat → Value} {ps : List (Nat × Value)} (h : AllEq l ps) : ∃ j, F N l = F N (upds j ps) := ⟨l, by rw [upds_self h]⟩
theorem mk_upds' {l : Nat → Value} {ps : List (Nat × Value)} (h : AllEq l ps) : ∃ j, l = upds j ps := ⟨l, (upds_self h).symm⟩
theorem ae {l : Nat → Value} {d : Nat} {v : Value} {ps : List (Nat × Value)} (h : l d = v) (t : AllEq l ps) : AllEq l ((d, v) :: ps) := ⟨h, t⟩
theorem ae0 {l : Nat → Value} : AllEq l [] := trivial
theorem F_getD (N : Nat) (l : Nat → Value) (t : Tmp) : (F N l).tmps.getD t undef = ev N l (.tmp t) := by
  show (⟨(List.range N).map l⟩ : Array Value).getD t undef = bif Nat.blt t N then l t else undef
  by_cases h : t < N
  · have hb : Nat.blt t N = true := by simpa [Nat.blt_eq] using h
    rw [hb]; simp [h]
  · have hb : Nat.blt t N = false := by
      cases hc : Nat.blt t N
      · rfl
      · exact absurd (by simpa [Nat.blt_eq] using hc) h
    rw [hb]; simp [h]
theorem F_eval (N : Nat) (l : Nat → Value) : (F N l).eval = ev N l := by
  funext x; cases x <;> first | rfl | exact F_getD N l _
theorem F_put (N : Nat) (l : Nat → Value) (d : Tmp) (v : Value) : (F N l).put (some d) v = F N (upd l d v) := by
  show (⟨(⟨(List.range N).map l⟩ : Array Value).setIfInBounds d v, []⟩ : Act) = ⟨⟨(List.range N).map (upd l d v)⟩, []⟩
  congr 1
  apply Array.toList_inj.1
  simp only [Array.toList_setIfInBounds]
  apply List.ext_getElem
  · simp
  · intro i h1 h2
    simp only [List.length_map, List.length_range, List.length_set] at h1 h2
    rw [List.getElem_set]
    simp only [List.getElem_map, List.getElem_range, upd]
    by_cases hi : d = i
    · subst hi; simp
    · have : Nat.beq i d = false := by
        cases hc : Nat.beq i d
        · rfl
        · exact absurd (Nat.eq_of_beq_eq_true hc).symm hi
      rw [if_neg hi, this]; rfl
theorem F_put_none (N : Nat) (l : Nat → Value) (v : Value) : (F N l).put none v = F N l := rfl

/-- what one operation yields -/
def Ex (P : Program) (op : Op) (ty : TypeId) (N : Nat) (l : Nat → Value) (w : World) (v : Value) (w' : World) : Prop :=
  (execOp (ev N l) ⟨none, op, ty, "", #[], none⟩).run P w = .ok (.value v) w'
def ExU (P : Program) (op : Op) (ty : TypeId) (N : Nat) (l : Nat → Value) (w w' : World) : Prop :=
  (execOp (ev N l) ⟨none, op, ty, "", #[], none⟩).run P w = .ok .skip w'
def ExC (P : Program) (op : Op) (ty : TypeId) (N : Nat) (l : Nat → Value) (w : World) (f : FuncId) (args : Array Value) : Prop :=
  (execOp (ev N l) ⟨none, op, ty, "", #[], none⟩).run P w = .ok (.enter f args) w
theorem execOp_eq (ρ : Operand → Value) (d : Option Tmp) (op : Op) (ty : TypeId) (pos : String) (after : Array Edge) (g : Option (Nat × Bool)) :
    execOp ρ ⟨d, op, ty, pos, after, g⟩ = execOp ρ ⟨none, op, ty, "", #[], none⟩ := by cases op <;> rfl

/-- the rest of a region's operations (a structure, so that nothing unfolds it) -/
structure WL (P : Program) (ops : Array Oper) (Q : Exit → Act → World → Prop) (l : List Oper) (a : Act) (w : World) : Prop where
  out : wpList P ops Q l a w
section steps
variable {P : Program} {ops : Array Oper} {Q : Exit → Act → World → Prop} {rest : List Oper} {N : Nat} {l : Nat → Value} {w w' : World}
  {d : Tmp} {op : Op} {ty : TypeId} {pos : String} {after : Array Edge} {v : Value}
theorem wpList_of {o : Oper} (hg : o.guard = none) (h : o.wp P (F N l) w (WL P ops Q rest) Q) : WL P ops Q (o :: rest) (F N l) w := by
  refine ⟨?_⟩
  unfold wpList; rw [if_pos (by simp [Region.wanted, hg])]; exact .inl (Oper.wp_mono (fun _ _ h => h.out) h)
theorem st_val (h : Ex P op ty N l w v w') (hk : WL P ops Q rest (F N (upd l d v)) w') :
    WL P ops Q (⟨some d, op, ty, pos, after, none⟩ :: rest) (F N l) w := by
  refine wpList_of rfl ?_
  unfold Oper.wp; rw [F_eval, execOp_eq, h, Oper.upon_value, F_put]; exact hk
theorem st_val0 (h : Ex P op ty N l w v w') (hk : WL P ops Q rest (F N l) w') :
    WL P ops Q (⟨none, op, ty, pos, after, none⟩ :: rest) (F N l) w := by
  refine wpList_of rfl ?_
  unfold Oper.wp; rw [F_eval, execOp_eq, h, Oper.upon_value, F_put_none]; exact hk
theorem st_unit (h : ExU P op ty N l w w') (hk : WL P ops Q rest (F N l) w') :
    WL P ops Q (⟨none, op, ty, pos, after, none⟩ :: rest) (F N l) w := by
  refine wpList_of rfl ?_
  unfold Oper.wp; rw [F_eval, execOp_eq, h, Oper.upon_skip, F_put_none]; exact hk
theorem st_call {f : FuncId} {args : Array Value} (hc : ExC P op ty N l w f args)
    (h : Calls P f args w fun e w' => ∃ v, e = .returned v ∧ WL P ops Q rest (F N (upd l d v)) w') :
    WL P ops Q (⟨some d, op, ty, pos, after, none⟩ :: rest) (F N l) w := by
  refine wpList_of rfl ?_
  unfold Oper.wp; rw [F_eval, execOp_eq, hc, Oper.upon_enter]
  refine h.mono ?_
  rintro e w' ⟨v, rfl, hv⟩
  show WL P ops Q rest ((F N l).put (some d) v) w'
  rw [F_put]; exact hv
theorem st_call0 {f : FuncId} {args : Array Value} (hc : ExC P op ty N l w f args)
    (h : Calls P f args w fun e w' => ∃ v, e = .returned v ∧ WL P ops Q rest (F N l) w') :
    WL P ops Q (⟨none, op, ty, pos, after, none⟩ :: rest) (F N l) w := by
  refine wpList_of rfl ?_
  unfold Oper.wp; rw [F_eval, execOp_eq, hc, Oper.upon_enter]
  refine h.mono ?_
  rintro e w' ⟨v, rfl, hv⟩
  exact hv
/-- an operation whose guard holds, and one whose guard does not -/
theorem yielded_of {g : Nat} {t : Tmp} {b : Bool} (hd : (ops[g]?).bind (·.dst) = some t) (hv : ev N l (.tmp t) = (.bool b)) : yielded ops (F N l).tmps g = some b := by
  have h0 := (F_getD N l t).trans hv
  have : (F N l).tmps[t]? = some (.bool b) := by
    cases hc : (F N l).tmps[t]? with
    | none => simp [hc, undef] at h0
    | some x => simp [hc] at h0; rw [h0]
  simp [yielded, hd, this]
theorem st_on {o : Option Tmp} {g : Nat} {t : Tmp} {b c : Bool} (hd : (ops[g]?).bind (·.dst) = some t) (hv : ev N l (.tmp t) = (.bool c)) (hc : c = b)
    (h : WL P ops Q (⟨o, op, ty, pos, after, none⟩ :: rest) (F N l) w) : WL P ops Q (⟨o, op, ty, pos, after, some (g, b)⟩ :: rest) (F N l) w := by
  subst hc
  have hy := yielded_of (N := N) (l := l) hd hv
  have h1 : Region.wanted ⟨o, op, ty, pos, after, some (g, c)⟩ (yielded ops (F N l).tmps) = true := by simp [Region.wanted, hy]
  obtain ⟨h⟩ := h
  refine ⟨?_⟩
  unfold wpList at h ⊢
  rw [if_pos h1]
  rw [if_pos (by simp [Region.wanted])] at h
  unfold Oper.wp Oper.asks at *
  rw [execOp_eq] at h ⊢
  exact h
theorem st_off {g : Nat} {t : Tmp} {b c : Bool} (hd : (ops[g]?).bind (·.dst) = some t) (hv : ev N l (.tmp t) = (.bool c)) (hc : c = !b)
    (h : WL P ops Q rest (F N (upd l d undef)) w) : WL P ops Q (⟨some d, op, ty, pos, after, some (g, b)⟩ :: rest) (F N l) w := by
  subst hc
  have hy := yielded_of (N := N) (l := l) hd hv
  have h1 : ¬ (Region.wanted ⟨some d, op, ty, pos, after, some (g, b)⟩ (yielded ops (F N l).tmps) = true) := by simp [Region.wanted, hy]
  refine ⟨?_⟩
  unfold wpList
  rw [if_neg h1, F_put]; exact h.out
theorem st_off0 {g : Nat} {t : Tmp} {b c : Bool} (hd : (ops[g]?).bind (·.dst) = some t) (hv : ev N l (.tmp t) = (.bool c)) (hc : c = !b)
    (h : WL P ops Q rest (F N l) w) : WL P ops Q (⟨none, op, ty, pos, after, some (g, b)⟩ :: rest) (F N l) w := by
  subst hc
  have hy := yielded_of (N := N) (l := l) hd hv
  have h1 : ¬ (Region.wanted ⟨none, op, ty, pos, after, some (g, b)⟩ (yielded ops (F N l).tmps) = true) := by simp [Region.wanted, hy]
  refine ⟨?_⟩
  unfold wpList
  rw [if_neg h1, F_put_none]; exact h.out
theorem yielded_none {g : Nat} {t : Tmp} (hd : (ops[g]?).bind (·.dst) = some t) (hv : ev N l (.tmp t) = undef) : yielded ops (F N l).tmps g = none := by
  have h0 := (F_getD N l t).trans hv
  cases hc : (F N l).tmps[t]? with
  | none => simp [yielded, hd, hc]
  | some x =>
    simp [hc] at h0
    subst h0
    simp [yielded, hd, hc, undef]
theorem st_offu {g : Nat} {t : Tmp} {b : Bool} (hd : (ops[g]?).bind (·.dst) = some t) (hv : ev N l (.tmp t) = undef)
    (h : WL P ops Q rest (F N (upd l d undef)) w) : WL P ops Q (⟨some d, op, ty, pos, after, some (g, b)⟩ :: rest) (F N l) w := by
  have hy := yielded_none (N := N) (l := l) hd hv
  have h1 : ¬ (Region.wanted ⟨some d, op, ty, pos, after, some (g, b)⟩ (yielded ops (F N l).tmps) = true) := by simp [Region.wanted, hy]
  refine ⟨?_⟩
  unfold wpList
  rw [if_neg h1, F_put]; exact h.out
theorem st_offu0 {g : Nat} {t : Tmp} {b : Bool} (hd : (ops[g]?).bind (·.dst) = some t) (hv : ev N l (.tmp t) = undef)
    (h : WL P ops Q rest (F N l) w) : WL P ops Q (⟨none, op, ty, pos, after, some (g, b)⟩ :: rest) (F N l) w := by
  have hy := yielded_none (N := N) (l := l) hd hv
  have h1 : ¬ (Region.wanted ⟨none, op, ty, pos, after, some (g, b)⟩ (yielded ops (F N l).tmps) = true) := by simp [Region.wanted, hy]
  refine ⟨?_⟩
  unfold wpList
  rw [if_neg h1, F_put_none]; exact h.out
end steps

section exs
variable {P : Program} {N : Nat} {l : Nat → Value} {w w' : World} {ty : TypeId} {x y z : Operand} {v : Value} {t : TypeId}
theorem ex_move (hx : ev N l x = v) : Ex P (.move x) ty N l w v w := by subst hx; rfl
theorem ex_assign (hx : ev N l x = v) : Ex P (.assign x) ty N l w v w := by subst hx; rfl
theorem ex_pick {b : Bool} (hc : ev N l z = .bool b) (hv : (if b then ev N l x else ev N l y) = v) : Ex P (.pick z x y) ty N l w v w := by
  subst hv; simp [Ex, execOp, hc, asBool]
theorem ex_pick1 {b : Bool} (hc : ev N l z = .bool b) (hb : b = true) (hv : ev N l x = v) : Ex P (.pick z x y) ty N l w v w := by
  subst hb; subst hv; simp [Ex, execOp, hc, asBool]
theorem ex_pick0 {b : Bool} (hc : ev N l z = .bool b) (hb : b = false) (hv : ev N l y = v) : Ex P (.pick z x y) ty N l w v w := by
  subst hb; subst hv; simp [Ex, execOp, hc, asBool]
/-- a value operation by the run of its instruction -/
theorem ex_box {u : Value} (hx : ev N l x = u) (h : (Instr.box t u).run P w = .ok v w') : Ex P (.box t x) ty N l w v w' := by
  subst hx; simp [Ex, execOp, h]
theorem ex_alloc (h : (Instr.alloc t true (.tuple #[])).run P w = .ok v w') : Ex P (.alloc t) ty N l w v w' := by simp [Ex, execOp, h]
theorem ex_load {u : Value} (hx : ev N l x = u) (h : (Instr.loadAt t u).run P w = .ok v w') : Ex P (.load t x) ty N l w v w' := by
  subst hx; simp [Ex, execOp, h]
theorem ex_store {u u' : Value} (hx : ev N l x = u) (hy : ev N l y = u') (h : (Instr.storeAt t u u').run P w = .ok () w') : ExU P (.store t x y) ty N l w w' := by
  subst hx hy; simp [ExU, execOp, h]
theorem ex_fieldAddr {u : Value} {f : Nat} (hx : ev N l x = u) (h : (Instr.fieldAt t u f).run P w = .ok v w') : Ex P (.fieldAddr t x f) ty N l w v w' := by
  subst hx; simp [Ex, execOp, h]
theorem ex_field {u : Value} {f : Nat} (hx : ev N l x = u) (h : (Instr.field t u f).run P w = .ok v w') : Ex P (.field t x f) ty N l w v w' := by
  subst hx; simp [Ex, execOp, h]
theorem ex_indexAddr {u u' : Value} (hx : ev N l x = u) (hy : ev N l y = u') (h : (Instr.indexAt t u u').run P w = .ok v w') : Ex P (.indexAddr t x y) ty N l w v w' := by
  subst hx hy; simp [Ex, execOp, h]
theorem ex_index {u u' : Value} (hx : ev N l x = u) (hy : ev N l y = u') (h : (Instr.index t u u').run P w = .ok v w') : Ex P (.index t x y) ty N l w v w' := by
  subst hx hy; simp [Ex, execOp, h]
theorem ex_lookup {u u' : Value} {b : Bool} (hx : ev N l x = u) (hy : ev N l y = u') (h : (Instr.lookup t u u' b).run P w = .ok v w') : Ex P (.lookup t x y b) ty N l w v w' := by
  subst hx hy; simp [Ex, execOp, h]
theorem ex_mapUpdate {u u' u'' : Value} (hx : ev N l x = u) (hy : ev N l y = u') (hz : ev N l z = u'') (h : (Instr.mapUpdate t u u' u'').run P w = .ok () w') :
    ExU P (.mapUpdate t x y z) ty N l w w' := by
  subst hx hy hz; simp [ExU, execOp, h]
theorem ex_range {u : Value} (hx : ev N l x = u) (h : (Instr.range t u).run P w = .ok v w') : Ex P (.range t x) ty N l w v w' := by
  subst hx; simp [Ex, execOp, h]
theorem ex_next {u : Value} {b : Bool} (hx : ev N l x = u) (h : (Instr.next u b ty).run P w = .ok v w') : Ex P (.next x b) ty N l w v w' := by
  subst hx; simp [Ex, execOp, h]
theorem ex_entry {u : Value} (hx : ev N l x = u) (h : (Instr.entry u).run P w = .ok v w') : Ex P (.entry x) ty N l w v w' := by
  subst hx; simp [Ex, execOp, h]
theorem ex_extract {u : Value} {i : Nat} (hx : ev N l x = u) (h : (Instr.extract u i).run P w = .ok v w') : Ex P (.extract x i) ty N l w v w' := by
  subst hx; simp [Ex, execOp, h]
theorem ex_convert {u : Value} {s : TypeId} (hx : ev N l x = u) (h : (convert s t u).run P w = .ok v w') : Ex P (.convert s t x) ty N l w v w' := by
  subst hx; simp [Ex, execOp, h]
theorem ex_unOp {u : Value} {o : UnOp} (hx : ev N l x = u) (h : (Op.unary o u).run P w = .ok v w') : Ex P (.unOp o t x) ty N l w v w' := by
  subst hx; simp [Ex, execOp, h]
theorem ex_makeMap (h : (Instr.makeMap t none).run P w = .ok v w') : Ex P (.makeMap t none) ty N l w v w' := by simp [Ex, execOp, h]
theorem ex_makeSlice {u u' : Value} (hx : ev N l x = u) (hy : ev N l y = u') (h : (Instr.makeSlice t u u').run P w = .ok v w') : Ex P (.makeSlice t x y) ty N l w v w' := by
  subst hx hy; simp [Ex, execOp, h]
theorem ex_slice {u : Value} {a b c : Option Operand} {a' b' c' : Option Value} (hx : ev N l x = u) (ha : a.map (ev N l) = a') (hb : b.map (ev N l) = b') (hc : c.map (ev N l) = c')
    (h : (Instr.sliceAt t u a' b' c').run P w = .ok v w') : Ex P (.slice t x a b c) ty N l w v w' := by
  subst hx ha hb hc; simp [Ex, execOp, h]
theorem map_of {α β : Type} {f : α → β} {a : Array α} {l' : List β} (h : a.toList.map f = l') : a.map f = l'.toArray := by
  subst h; apply Array.toList_inj.1; simp
theorem ex_makeFunc {f : Fn} {a b : Array Operand} {a' b' : List Value} (ha : a.toList.map (ev N l) = a') (hb : b.toList.map (ev N l) = b') : Ex P (.makeFunc f a b) ty N l w (.func f a'.toArray b'.toArray) w := by
  simp only [Ex, execOp, Instr.makeFunc, map_of ha, map_of hb, Sem.run_bind, Sem.run_pure, Result.andThen_ok]
def partsOf (N : Nat) (l : Nat → Value) (a : List (Nat × Operand)) : List (Nat × Value) := a.map fun p => (p.1, ev N l p.2)
theorem parts_map {a : Array (Nat × Operand)} {a' : List (Nat × Value)} (ha : partsOf N l a.toList = a') : (a.map fun (i, x) => (i, ev N l x)) = a'.toArray := by
  subst ha; apply Array.toList_inj.1; simp [partsOf]
theorem ex_build {a : Array (Nat × Operand)} {a' : List (Nat × Value)} (ha : partsOf N l a.toList = a') (h : (Instr.build t a'.toArray).run P w = .ok v w') :
    Ex P (.build t a) ty N l w v w' := by
  have h1 := parts_map ha
  simp only [Ex, execOp]
  rw [h1]
  simp [h]
theorem ex_buildSlice {n : Nat} {a : Array (Nat × Operand)} {a' : List (Nat × Value)} (ha : partsOf N l a.toList = a') (h : (Instr.buildSlice t n a'.toArray).run P w = .ok v w') :
    Ex P (.buildSlice t n a) ty N l w v w' := by
  have h1 := parts_map ha
  simp only [Ex, execOp]
  rw [h1]
  simp [h]
theorem ex_nilCheck {p : Addr} (hx : ev N l x = Ptr p) : Ex P (.nilCheck x) ty N l w (Ptr p) w := by
  simp [Ex, execOp, hx, Ptr]
theorem ex_nilCheckF {f : FuncId} {a b : Array Value} (hx : ev N l x = .func (.func f) a b) : Ex P (.nilCheck x) ty N l w (.func (.func f) a b) w := by
  simp [Ex, execOp, hx]
theorem ex_builtin {b : Builtin} {args : Array Operand} {ts : Array TypeId} {vs : List Value} {k : Array Value → Sem Value}
    (ha : args.toList.map (ev N l) = vs) (hk : ∀ cs : Array Bool, Go.builtin b ts ty cs vs.toArray = (do let v ← k vs.toArray; pure (.value v))) (h : (k vs.toArray).run P w = .ok v w') :
    Ex P (.call { callee := .builtin b, args := args, argTypes := ts }) ty N l w v w' := by
  simp only [Ex, execOp, resolve, invoke, map_of ha, Sem.run_bind, Sem.run_pure, Result.andThen_ok, hk, h]
theorem ex_binOp {u u' : Value} {o : BinOp} {t' : TypeId} (hx : ev N l x = u) (hy : ev N l y = u') (hg : (eqGuard o t x y u u').run P w = .ok () w)
    (h : (binOp o t u u').run P w = .ok v w') : Ex P (.binOp o t x y t') ty N l w v w' := by
  subst hx hy; simp [Ex, execOp, hg, h]
theorem guard_int {o : BinOp} {k k' : IntKind} {a b : Int} : (eqGuard o t x y (.int k a) (.int k' b)).run P w = .ok () w := by
  cases o <;> simp [eqGuard]
theorem guard_string {o : BinOp} {a b : ByteArray} : (eqGuard o t x y (.string a) (.string b)).run P w = .ok () w := by
  cases o <;> simp [eqGuard]
theorem guard_float {o : BinOp} {k k' : FloatKind} {a b : Nat} : (eqGuard o t x y (.float k a) (.float k' b)).run P w = .ok () w := by
  cases o <;> simp [eqGuard]
theorem guard_bool {o : BinOp} {a b : Bool} : (eqGuard o t x y (.bool a) (.bool b)).run P w = .ok () w := by
  cases o <;> simp [eqGuard]
theorem guard_slice {o : BinOp} {a b : Option Addr} {n c n' c' : Nat} : (eqGuard o t x y (.slice a n c) (.slice b n' c')).run P w = .ok () w := by
  cases o <;> simp [eqGuard]
theorem guard_pointer {o : BinOp} {a b : Option Addr} : (eqGuard o t x y (.pointer a) (.pointer b)).run P w = .ok () w := by
  cases o <;> simp [eqGuard]
section ints
variable {k : IntKind} {a b : Int} {t' : TypeId} (hx : ev N l x = .int k a) (hy : ev N l y = .int k b)
include hx hy
theorem ex_lss : Ex P (.binOp .lss t x y t') ty N l w (.bool (decide (a < b))) w := ex_binOp hx hy guard_int (by simp [binOp, Op.intCmp])
theorem ex_leq : Ex P (.binOp .leq t x y t') ty N l w (.bool (decide (a ≤ b))) w := ex_binOp hx hy guard_int (by simp [binOp, Op.intCmp])
theorem ex_gtr : Ex P (.binOp .gtr t x y t') ty N l w (.bool (decide (b < a))) w := ex_binOp hx hy guard_int (by simp [binOp, Op.intCmp])
theorem ex_geq : Ex P (.binOp .geq t x y t') ty N l w (.bool (decide (b ≤ a))) w := ex_binOp hx hy guard_int (by simp [binOp, Op.intCmp])
theorem ex_eql : Ex P (.binOp .eql t x y t') ty N l w (.bool (decide (a = b))) w := ex_binOp hx hy guard_int (by
  have : (a == b) = decide (a = b) := by rw [Bool.eq_iff_iff]; simp
  simp [binOp, Op.intCmp, this])
theorem ex_neq : Ex P (.binOp .neq t x y t') ty N l w (.bool (decide (a ≠ b))) w := ex_binOp hx hy guard_int (by
  have : (a != b) = decide (a ≠ b) := by rw [Bool.eq_iff_iff]; simp
  simp [binOp, Op.intCmp, this])
theorem ex_add : Ex P (.binOp .add t x y t') ty N l w (.int k (k.wrap (a + b))) w := ex_binOp hx hy guard_int (by simp [binOp, Op.intArith])
theorem ex_sub : Ex P (.binOp .sub t x y t') ty N l w (.int k (k.wrap (a - b))) w := ex_binOp hx hy guard_int (by simp [binOp, Op.intArith])
theorem ex_mul : Ex P (.binOp .mul t x y t') ty N l w (.int k (k.wrap (a * b))) w := ex_binOp hx hy guard_int (by simp [binOp, Op.intArith])
end ints
theorem ex_not {b : Bool} (hx : ev N l x = .bool b) : Ex P (.unOp .not t x) ty N l w (.bool (!b)) w := ex_unOp hx (by simp [Op.unary])
theorem run_equalInB (d : Nat) {a b : Bool} (hu : P.underlying t = some .bool) : (Op.equalIn (d + 1) t (.bool a) (.bool b)).run P w = .ok (a == b) w := by
  unfold Op.equalIn
  simp only [Sem.run_bind, run_underlying hu, Result.andThen_ok, Sem.run_pure]
theorem run_equalB {a b : Bool} (hu : P.underlying t = some .bool) : (Op.equal t (.bool a) (.bool b)).run P w = .ok (a == b) w := run_equalInB 9999 hu
theorem ex_eqlB {a b : Bool} {t' : TypeId} (hu : P.underlying t = some .bool) (hx : ev N l x = .bool a) (hy : ev N l y = .bool b) : Ex P (.binOp .eql t x y t') ty N l w (.bool (a == b)) w :=
  ex_binOp hx hy guard_bool (by
    show (do pure (Value.bool (← Op.equal t (.bool a) (.bool b))) : Sem Value).run P w = _
    simp only [Sem.run_bind, run_equalB hu, Result.andThen_ok, Sem.run_pure])
theorem ex_neqB {a b : Bool} {t' : TypeId} (hu : P.underlying t = some .bool) (hx : ev N l x = .bool a) (hy : ev N l y = .bool b) : Ex P (.binOp .neq t x y t') ty N l w (.bool (!(a == b))) w :=
  ex_binOp hx hy guard_bool (by
    show (do pure (Value.bool (!(← Op.equal t (.bool a) (.bool b)))) : Sem Value).run P w = _
    simp only [Sem.run_bind, run_equalB hu, Result.andThen_ok, Sem.run_pure])
theorem ex_len {s : Sl} {e : TypeId} (hu : P.underlying t = some (.slice e)) (hx : ev N l x = s.v) : Ex P (.call { callee := .builtin .len, args := #[x], argTypes := #[t] }) ty N l w (.int .i64 s.n) w := by
  simp [Ex, execOp, resolve, invoke, builtin, Builtin.len_, hx, Sl.v, run_underlying hu, goInt]
theorem ex_lenS {s : ByteArray} (hu : P.underlying t = some .string) (hx : ev N l x = .string s) : Ex P (.call { callee := .builtin .len, args := #[x], argTypes := #[t] }) ty N l w (.int .i64 s.size) w := by
  simp [Ex, execOp, resolve, invoke, builtin, Builtin.len_, hx, run_underlying hu, goInt]
theorem ex_max {k : IntKind} {a b : Int} {ts : Array TypeId} (hx : ev N l x = .int k a) (hy : ev N l y = .int k b) :
    Ex P (.call { callee := .builtin .max, args := #[x, y], argTypes := ts }) ty N l w (.int k (max a b)) w := by
  have : (if a < b then b else a) = max a b := by rw [Int.max_def]; split <;> split <;> omega
  simp [Ex, execOp, resolve, invoke, builtin, Builtin.max_, hx, hy, Builtin.max2, this]
theorem ex_min {k : IntKind} {a b : Int} {ts : Array TypeId} (hx : ev N l x = .int k a) (hy : ev N l y = .int k b) :
    Ex P (.call { callee := .builtin .min, args := #[x, y], argTypes := ts }) ty N l w (.int k (min a b)) w := by
  have : (if b < a then b else a) = min a b := by rw [Int.min_def]; split <;> split <;> omega
  simp [Ex, execOp, resolve, invoke, builtin, Builtin.min_, hx, hy, Builtin.min2, this]
theorem exC_func {f : FuncId} {args : Array Operand} {ts : Array TypeId} {vs : List Value} (ha : args.toList.map (ev N l) = vs)
    (hf : ∀ (vs : Array Value) (w : World), (callFunc f vs).run P w = .ok (.enter f vs) w) :
    ExC P (.call { callee := .value (.func f), args := args, argTypes := ts }) ty N l w f vs.toArray := by
  simp [ExC, execOp, resolve, Deferred.ofValue, ev, invoke, hf, map_of ha]
theorem ex_callX {f : FuncId} {args : Array Operand} {ts : Array TypeId} {vs : List Value} (ha : args.toList.map (ev N l) = vs) (h : (callFunc f vs.toArray).run P w = .ok (.value v) w') :
    Ex P (.call { callee := .value (.func f), args := args, argTypes := ts }) ty N l w v w' := by
  simp [Ex, execOp, resolve, Deferred.ofValue, ev, invoke, h, map_of ha]
theorem exC_value {f : FuncId} {args : Array Operand} {ts : Array TypeId} {vs : List Value} {first cap : Array Value} (hx : ev N l x = .func (.func f) first cap) (ha : args.toList.map (ev N l) = vs)
    (hf : ∀ (vs : Array Value) (w : World), (callFunc f vs).run P w = .ok (.enter f vs) w) :
    ExC P (.call { callee := .value x, args := args, argTypes := ts }) ty N l w f (first ++ vs.toArray ++ cap) := by
  simp [ExC, execOp, resolve, Deferred.ofValue, hx, invoke, hf, map_of ha]
end exs
theorem enters {P : Program} {f : FuncId} {fn : Func} (h : P.funcs[f]? = some fn) (hb : fn.body.isNone = false) (hn : (fn.name == "runtime.NumGoroutine") = false) (vs : Array Value) (w : World) :
    (callFunc f vs).run P w = .ok (.enter f vs) w := by
  have hp : (program.run P w : Result Program) = .ok P w := rfl
  simp only [callFunc, Sem.run_bind, hp, Result.andThen_ok, h, hn, hb]
  rfl

/-! the forms of a transformer -/
section forms
variable {α σ : Type} (P : Program)
def Rn (enc : α → Value) (s : Sem Value) (w : World) (K : α → World → Prop) : Prop := ∃ x w', s.run P w = .ok (enc x) w' ∧ K x w'
def RnU (s : Sem Unit) (w : World) (K : World → Prop) : Prop := ∃ w', s.run P w = .ok () w' ∧ K w'
def RnP (enc : α → Value) (s : Sem Value) (K : α → Prop) : Prop := ∃ x, (∀ w, s.run P w = .ok (enc x) w) ∧ K x
def RnL (enc : α → Value) (s : Sem Value) (w0 : World) (K : α → Prop) : Prop := ∃ x, (∀ w, Ext w0 w → s.run P w = .ok (enc x) w) ∧ K x
def Cal (enc : α → Value) (f : FuncId) (args : Array Value) (w : World) (K : α → World → Prop) : Prop :=
  Calls P f args w fun e w' => ∃ x, e = .returned (enc x) ∧ K x w'
def CalV (enc : α → Value) (fv : Value) (args : Array Value) (w : World) (K : α → World → Prop) : Prop :=
  ∃ f first cap, fv = .func (.func f) first cap ∧ (∀ (vs : Array Value) (w : World), (callFunc f vs).run P w = .ok (.enter f vs) w) ∧ Cal P enc f (first ++ args ++ cap) w K
end forms
section forms
variable {α σ : Type}
def Lp (body : σ → World → (σ → World → Prop) → Prop) (s : σ) (w : World) : Prop :=
  ∃ (I : σ → World → Prop) (m : σ → World → Nat), I s w ∧ ∀ s w, I s w → body s w fun s' w' => I s' w' ∧ m s' w' < m s w
def Jn (body : (σ → World → Prop) → Prop) (rest : σ → World → Prop) : Prop := ∃ M : σ → World → Prop, body M ∧ ∀ s w, M s w → rest s w
def NotNil (p : Option Addr) (K : Addr → Prop) : Prop := ∃ a, p = some a ∧ K a
theorem Jn.dup {body : (σ → World → Prop) → Prop} {rest : σ → World → Prop} (h : body rest) : Jn body rest := ⟨rest, h, fun _ _ h => h⟩
end forms

section ctl
variable {P : Program} {Q : Exit → Act → World → Prop} {a : Act} {w : World}
theorem then_n {next : Act → World → Prop} (h : next a w) : Exit.then next Q .normal a w := h
theorem then_e {next : Act → World → Prop} {i : Nat} (h : Q (.exit i) a w) : Exit.then next Q (.exit i) a w := h
theorem then_r {next : Act → World → Prop} (h : Q .ret a w) : Exit.then next Q .ret a w := h
theorem inb_n {i : Nat} (h : Q .normal a w) : Exit.inBlock i Q .normal a w := h
theorem inb_r {i : Nat} (h : Q .ret a w) : Exit.inBlock i Q .ret a w := h
theorem inb_e {i : Nat} (h : Q .normal a w) : Exit.inBlock i Q (.exit i) a w := by simpa [Exit.inBlock] using h
theorem inb_o {i j : Nat} (hne : (j == i) = false) (h : Q (.exit j) a w) : Exit.inBlock i Q (.exit j) a w := by
  have : j ≠ i := by simpa using hne
  simpa [Exit.inBlock, this] using h
theorem region_ {id : Nat} {l : List Oper} (h : WL P l.toArray Q l a w) : (Code.region id l.toArray false).wp P Q a w := wp_region_lit h.out
theorem wl_nil {ops : Array Oper} (h : Q .normal a w) : WL P ops Q [] a w := ⟨h⟩
theorem cond_b {N : Nat} {l : Nat → Value} {c : Operand} {x y : Code} {b : Bool} (hc : ev N l c = .bool b) (h1 : b = true → x.wp P Q (F N l) w) (h0 : b = false → y.wp P Q (F N l) w) :
    (Code.cond c x y).wp P Q (F N l) w := wp_cond_split (by rw [F_eval]; exact hc) h1 h0
theorem cond_1 {N : Nat} {l : Nat → Value} {c : Operand} {x y : Code} {b : Bool} (hc : ev N l c = .bool b) (hb : b = true) (h1 : x.wp P Q (F N l) w) :
    (Code.cond c x y).wp P Q (F N l) w := wp_cond_true (by rw [F_eval, hc, hb]) h1
theorem cond_0 {N : Nat} {l : Nat → Value} {c : Operand} {x y : Code} {b : Bool} (hc : ev N l c = .bool b) (hb : b = false) (h1 : y.wp P Q (F N l) w) :
    (Code.cond c x y).wp P Q (F N l) w := wp_cond_false (by rw [F_eval, hc, hb]) h1
theorem least {p : Nat → Prop} (h : ∃ n, p n) : ∃ n, p n ∧ ∀ m, p m → n ≤ m := by
  obtain ⟨n, hn⟩ := h
  induction n using Nat.strongRecOn with
  | _ n ih =>
    by_cases hex : ∃ m, m < n ∧ p m
    · obtain ⟨m, hm, hp⟩ := hex; exact ih m hm hp
    · exact ⟨n, hn, fun m hm => Nat.le_of_not_lt fun hlt => hex ⟨m, hlt, hm⟩⟩
open Classical in
theorem wp_loop_x {σ : Type} {c : Code} (fr : σ → Act → Prop) (I : σ → World → Prop) (m : σ → World → Nat) (s : σ) (hf : fr s a) (hI : I s w)
    (round : ∀ s a w, fr s a → I s w → c.wp P (Exit.then (fun a' w' => ∃ s', fr s' a' ∧ I s' w' ∧ m s' w' < m s w) Q) a w) : (Code.loop c).wp P Q a w := by
  have ex : ∃ μ : Act → World → Nat, ∀ a w, (∃ s, fr s a ∧ I s w) → (∃ s, fr s a ∧ I s w ∧ m s w = μ a w) ∧ ∀ s, fr s a → I s w → μ a w ≤ m s w := by
    refine ⟨fun a w => if h : ∃ n, ∃ s, fr s a ∧ I s w ∧ m s w = n then Classical.choose (least h) else 0, fun a w hs => ?_⟩
    have h : ∃ n, ∃ s, fr s a ∧ I s w ∧ m s w = n := by obtain ⟨s, h1, h2⟩ := hs; exact ⟨_, s, h1, h2, rfl⟩
    simp only []
    rw [dif_pos h]
    have hc := Classical.choose_spec (least h)
    exact ⟨hc.1, fun s h1 h2 => hc.2 _ ⟨s, h1, h2, rfl⟩⟩
  obtain ⟨μ, hμ⟩ := ex
  refine wp_loop (fun a w => ∃ s, fr s a ∧ I s w) μ ⟨s, hf, hI⟩ ?_
  rintro a w hs
  obtain ⟨⟨s, h1, h2, h3⟩, _⟩ := hμ a w hs
  refine Code.wp_mono ?_ (round s a w h1 h2)
  intro e a' w' hq
  cases e <;> first | exact hq | skip
  obtain ⟨s', f1, f2, f3⟩ := hq
  exact ⟨⟨s', f1, f2⟩, by rw [← h3]; exact Nat.lt_of_le_of_lt ((hμ a' w' ⟨s', f1, f2⟩).2 s' f1 f2) f3⟩
end ctl
section ret
variable {P : Program} {fn : Func} {R : Ending → World → Prop} {N : Nat} {l : Nat → Value} {w : World}
theorem ret_0 (hfn : fn.results = #[]) (h : R (.returned (.tuple #[])) w) : bodyPost P fn R .ret (F N l) w :=
  bodyPost_ret (results_none hfn _ _ _) rfl h
theorem end_0 (hfn : fn.results = #[]) (h : R (.returned (.tuple #[])) w) : bodyPost P fn R .normal (F N l) w :=
  bodyPost_end (results_none hfn _ _ _) rfl h
theorem getD_F (t : Tmp) : (F N l).tmps.getD t undef = ev N l (.tmp t) := F_getD N l t
theorem ret_1 {t : Tmp} {v : Value} (hfn : fn.results = #[.tmp t]) (hv : ev N l (.tmp t) = v) (h : R (.returned v) w) : bodyPost P fn R .ret (F N l) w :=
  bodyPost_ret (results_tmp hfn _ _ _) rfl (by rw [getD_F, hv]; exact h)
theorem ret_2 {t u : Tmp} {v v' : Value} (hfn : fn.results = #[.tmp t, .tmp u]) (hv : ev N l (.tmp t) = v) (hv' : ev N l (.tmp u) = v') (h : R (.returned (.tuple #[v, v'])) w) :
    bodyPost P fn R .ret (F N l) w :=
  bodyPost_ret (results_tmp2 hfn _ _ _) rfl (by rw [getD_F, getD_F, hv, hv']; exact h)
theorem ret_3 {t u s : Tmp} {v v' v'' : Value} (hfn : fn.results = #[.tmp t, .tmp u, .tmp s]) (hv : ev N l (.tmp t) = v) (hv' : ev N l (.tmp u) = v') (hv'' : ev N l (.tmp s) = v'')
    (h : R (.returned (.tuple #[v, v', v''])) w) : bodyPost P fn R .ret (F N l) w := by
  refine bodyPost_ret (v := .tuple #[(F N l).tmps.getD t undef, (F N l).tmps.getD u undef, (F N l).tmps.getD s undef]) (by simp [results, hfn]) rfl ?_
  rw [getD_F, getD_F, getD_F, hv, hv', hv'']; exact h
/-- one result in a cell of its own -/
theorem ret_c {t : Tmp} {T : TypeId} {p : Addr} {v : Value} (hfn : fn.results = #[.cell t T]) (hp : ev N l (.tmp t) = Ptr p) (hr : (loadVar T p).run P w = .ok v w) (h : R (.returned v) w) :
    bodyPost P fn R .ret (F N l) w := by
  refine bodyPost_ret (v := v) ?_ rfl h
  have h0 : (F N l).tmps.getD t undef = Value.pointer (some p) := (getD_F t).trans hp
  have h1 : (F N l).tmps[t]?.getD undef = Value.pointer (some p) := by simpa using h0
  simp [results, hfn, h1, asAddr, hr]
end ret
end Go.Eng

/- The engine, second part: one step for each form, joins, and regions whose order is drawn. -/
namespace Go.Eng
open Go
set_option linter.unusedVariables false

section steps
variable {P : Program} {ops : Array Oper} {Q : Exit → Act → World → Prop} {rest : List Oper} {N : Nat} {l : Nat → Value} {w : World}
  {d : Tmp} {op : Op} {ty : TypeId} {pos : String} {after : Array Edge} {α : Type} {enc : α → Value}
theorem st_rn {s : Sem Value} {K : α → World → Prop} (he : ∀ {v w'}, s.run P w = .ok v w' → Ex P op ty N l w v w') (h : Rn P enc s w K)
    (hk : ∀ x w', K x w' → WL P ops Q rest (F N (upd l d (enc x))) w') : WL P ops Q (⟨some d, op, ty, pos, after, none⟩ :: rest) (F N l) w := by
  obtain ⟨x, w', hr, hK⟩ := h; exact st_val (he hr) (hk x w' hK)
theorem st_rn0 {s : Sem Value} {K : α → World → Prop} (he : ∀ {v w'}, s.run P w = .ok v w' → Ex P op ty N l w v w') (h : Rn P enc s w K)
    (hk : ∀ x w', K x w' → WL P ops Q rest (F N l) w') : WL P ops Q (⟨none, op, ty, pos, after, none⟩ :: rest) (F N l) w := by
  obtain ⟨x, w', hr, hK⟩ := h; exact st_val0 (he hr) (hk x w' hK)
theorem st_rnu {s : Sem Unit} {K : World → Prop} (he : ∀ {w'}, s.run P w = .ok () w' → ExU P op ty N l w w') (h : RnU P s w K)
    (hk : ∀ w', K w' → WL P ops Q rest (F N l) w') : WL P ops Q (⟨none, op, ty, pos, after, none⟩ :: rest) (F N l) w := by
  obtain ⟨w', hr, hK⟩ := h; exact st_unit (he hr) (hk w' hK)
theorem st_rnp {s : Sem Value} {K : α → Prop} (he : ∀ {v w'}, s.run P w = .ok v w' → Ex P op ty N l w v w') (h : RnP P enc s K)
    (hk : ∀ x, K x → WL P ops Q rest (F N (upd l d (enc x))) w) : WL P ops Q (⟨some d, op, ty, pos, after, none⟩ :: rest) (F N l) w := by
  obtain ⟨x, hr, hK⟩ := h; exact st_val (he (hr w)) (hk x hK)
theorem st_cal {f : FuncId} {args : Array Operand} {ts : Array TypeId} {vs : List Value} {K : α → World → Prop}
    (hf : ∀ (vs : Array Value) (w : World), (callFunc f vs).run P w = .ok (.enter f vs) w) (ha : args.toList.map (ev N l) = vs) (h : Cal P enc f vs.toArray w K)
    (hk : ∀ x w', K x w' → WL P ops Q rest (F N (upd l d (enc x))) w') :
    WL P ops Q (⟨some d, .call { callee := .value (.func f), args := args, argTypes := ts }, ty, pos, after, none⟩ :: rest) (F N l) w :=
  st_call (exC_func ha hf) (h.mono fun e w' ⟨x, he, hK⟩ => ⟨_, he, hk x w' hK⟩)
theorem st_cal0 {f : FuncId} {args : Array Operand} {ts : Array TypeId} {vs : List Value} {K : α → World → Prop}
    (hf : ∀ (vs : Array Value) (w : World), (callFunc f vs).run P w = .ok (.enter f vs) w) (ha : args.toList.map (ev N l) = vs) (h : Cal P enc f vs.toArray w K)
    (hk : ∀ x w', K x w' → WL P ops Q rest (F N l) w') :
    WL P ops Q (⟨none, .call { callee := .value (.func f), args := args, argTypes := ts }, ty, pos, after, none⟩ :: rest) (F N l) w :=
  st_call0 (exC_func ha hf) (h.mono fun e w' ⟨x, he, hK⟩ => ⟨_, he, hk x w' hK⟩)
theorem st_calv {x : Operand} {fv : Value} {args : Array Operand} {ts : Array TypeId} {vs : List Value} {K : α → World → Prop}
    (hx : ev N l x = fv) (ha : args.toList.map (ev N l) = vs) (h : CalV P enc fv vs.toArray w K)
    (hk : ∀ x w', K x w' → WL P ops Q rest (F N (upd l d (enc x))) w') :
    WL P ops Q (⟨some d, .call { callee := .value x, args := args, argTypes := ts }, ty, pos, after, none⟩ :: rest) (F N l) w := by
  obtain ⟨f, first, cap, rfl, hf, h⟩ := h
  exact st_call (exC_value hx ha hf) (h.mono fun e w' ⟨x, he, hK⟩ => ⟨_, he, hk x w' hK⟩)
theorem st_calv0 {x : Operand} {fv : Value} {args : Array Operand} {ts : Array TypeId} {vs : List Value} {K : α → World → Prop}
    (hx : ev N l x = fv) (ha : args.toList.map (ev N l) = vs) (h : CalV P enc fv vs.toArray w K)
    (hk : ∀ x w', K x w' → WL P ops Q rest (F N l) w') :
    WL P ops Q (⟨none, .call { callee := .value x, args := args, argTypes := ts }, ty, pos, after, none⟩ :: rest) (F N l) w := by
  obtain ⟨f, first, cap, rfl, hf, h⟩ := h
  exact st_call0 (exC_value hx ha hf) (h.mono fun e w' ⟨x, he, hK⟩ => ⟨_, he, hk x w' hK⟩)
end steps

section joins
variable {P : Program} {Q : Exit → Act → World → Prop} {N : Nat} {l : Nat → Value} {w : World} {c1 c2 : Code} {σ : Type}
theorem seq_ (h : c1.wp P (Exit.then (c2.wp P Q) Q) (F N l) w) : (Code.seq c1 c2).wp P Q (F N l) w := wp_seq h
theorem seq_join (fr : σ → (Nat → Value) → Prop) (M : σ → World → Prop) (h2 : ∀ s l w, fr s l → M s w → c2.wp P Q (F N l) w)
    (h1 : c1.wp P (Exit.then (fun a w => ∃ s l, a = F N l ∧ fr s l ∧ M s w) Q) (F N l) w) : (Code.seq c1 c2).wp P Q (F N l) w := by
  refine wp_seq (Code.wp_mono ?_ h1)
  intro e a w h
  cases e <;> first | exact h | skip
  obtain ⟨s, l, rfl, hf, hM⟩ := h
  exact h2 s l w hf hM
theorem wp_jn (fr : σ → (Nat → Value) → Prop) {body : (σ → World → Prop) → Prop} {rest : σ → World → Prop} (h : Jn body rest) (h2 : ∀ s l w, fr s l → rest s w → c2.wp P Q (F N l) w)
    (h1 : ∀ M, body M → c1.wp P (Exit.then (fun a w => ∃ s l, a = F N l ∧ fr s l ∧ M s w) Q) (F N l) w) : (Code.seq c1 c2).wp P Q (F N l) w := by
  obtain ⟨M, hb, hr⟩ := h
  exact seq_join fr M (fun s l w hf hM => h2 s l w hf (hr s w hM)) (h1 M hb)
theorem wp_lp {c : Code} {a : Act} (fr : σ → Act → Prop) {body : σ → World → (σ → World → Prop) → Prop} {s : σ} (h : Lp body s w) (hf : fr s a)
    (round : ∀ s a w K, fr s a → body s w K → c.wp P (Exit.then (fun a' w' => ∃ s', fr s' a' ∧ K s' w') Q) a w) : (Code.loop c).wp P Q a w := by
  obtain ⟨I, m, h0, hI⟩ := h
  exact wp_loop_x fr I m s hf h0 fun s a w hf hs => round s a w _ hf (hI s w hs)
theorem calls_ {f : FuncId} {fn : Func} {c : Code} {args : Array Value} {R : Ending → World → Prop} {n : Nat} (hf : P.funcs[f]? = some fn) (hn : fn.ntmps = n) (hb : fn.body = some c)
    (hl : Nat.ble args.toList.length n = true) (h : c.wp P (bodyPost P fn R) (F n (ofArgs args.toList 0)) w) : Calls P f args w R := by
  refine calls_of_wp hf hb ?_
  have key : ∀ (vs : List Value) (k i : Nat), ofArgs vs k (k + i) = (vs[i]?).getD undef := by
    intro vs
    induction vs with
    | nil => intro k i; rfl
    | cons a vs ih =>
      intro k i
      show upd (ofArgs vs (k + 1)) k a (k + i) = _
      cases i with
      | zero => simp [upd]
      | succ i =>
        have h1 : Nat.beq (k + (i + 1)) k = false := by
          cases hc : Nat.beq (k + (i + 1)) k
          · rfl
          · have := Nat.eq_of_beq_eq_true hc; omega
        have h2 := ih (k + 1) i
        have e : k + 1 + i = k + (i + 1) := by omega
        rw [e] at h2
        simp only [upd, h1, cond_false, h2]
        rfl
  have hl' : args.size ≤ n := by simpa using hl
  have e : (⟨args ++ Array.replicate (fn.ntmps - args.size) undef, []⟩ : Act) = F n (ofArgs args.toList 0) := by
    rw [hn]
    show _ = (⟨⟨_⟩, _⟩ : Act)
    congr 1
    apply Array.toList_inj.1
    apply List.ext_getElem
    · simp; omega
    · intro i h1 h2
      have h3 := key args.toList 0 i
      rw [Nat.zero_add] at h3
      simp only [Array.toList_append, Array.toList_replicate, List.getElem_map, List.getElem_range, h3]
      by_cases hi : i < args.size
      · rw [List.getElem_append_left (by simpa using hi)]
        simp [hi]
      · rw [List.getElem_append_right (by simpa using hi)]
        simp [hi]
  rw [e]; exact h
end joins

/-! regions whose order is drawn -/
section drawn
variable {P : Program} {ops : Array Oper} {Q : Exit → Act → World → Prop} {C : List Nat} {G : World → Prop}
/-- Number c comes behind number i, by as many edges at most. -/
def anc (ops : Array Oper) (i : Nat) : Nat → Nat → Bool
  | 0, _ => false
  | f + 1, c => ((ops[c]?).map fun o => o.after.any fun e => Region.binds .any e && (e.on == i || anc ops i f e.on)).getD false
/-- Each operation of C comes behind number i. -/
def closes (ops : Array Oper) (C : List Nat) (i : Nat) : Bool := C.all fun c => anc ops i 4 c
/-- What has come up waits for nothing. -/
def Closed (ops : Array Oper) (listed : Array Bool) : Prop :=
  ∀ j oj, ops[j]? = some oj → listed.getD j false = true → ∀ e ∈ oj.after, Region.binds .any e = true → listed.getD e.on false = true
def closedB (ops : Array Oper) (listed : Array Bool) : Bool :=
  (List.range ops.size).all fun j => ((ops[j]?).map fun o => !(listed.getD j false) || o.after.all fun e => !(Region.binds .any e) || listed.getD e.on false).getD true
theorem closedB_spec {listed : Array Bool} (h : closedB ops listed = true) : Closed ops listed := by
  intro j oj hj hl e he hb
  have hjs : j < ops.size := (Array.getElem?_eq_some_iff.1 hj).1
  have h1 := List.all_eq_true.1 h j (List.mem_range.2 hjs)
  simp only [hj, Option.map_some, Option.getD_some, hl, Bool.not_true, Bool.false_or, Array.all_eq_true'] at h1
  have h2 := h1 e he
  simpa [hb] using h2
theorem getD_mono {listed : Array Bool} {j k : Nat} (h : listed.getD k false = true) : (listed.setIfInBounds j true).getD k false = true := by
  by_cases e : j = k
  · subst e
    rcases Nat.lt_or_ge j listed.size with h' | h'
    · simp [h']
    · simp [Array.getElem?_eq_none h'] at h
  · rw [getD_set_ne false e]; exact h
theorem Closed.set {listed : Array Bool} (h : Closed ops listed) {j : Nat} {oj : Oper} (hoj : ops[j]? = some oj) (hall : ∀ e ∈ oj.after, Region.binds .any e = true → listed.getD e.on false = true) : Closed ops (listed.setIfInBounds j true) := by
  intro k ok hk hl e he hb
  by_cases c : j = k
  · subst c
    rw [hk] at hoj; cases hoj
    exact getD_mono (hall e he hb)
  · rw [getD_set_ne false c] at hl
    exact getD_mono (h k ok hk hl e he hb)
theorem anc_listed {listed : Array Bool} (hcl : Closed ops listed) {i : Nat} : ∀ (f c : Nat) (oc : Oper), ops[c]? = some oc → (∀ e ∈ oc.after, Region.binds .any e = true → listed.getD e.on false = true) → anc ops i f c = true → listed.getD i false = true
  | 0, _, _, _, _, h => by cases h
  | f + 1, c, oc, hc, hall, h => by
    unfold anc at h
    simp only [hc, Option.map_some, Option.getD_some, Array.any_eq_true', Bool.and_eq_true, Bool.or_eq_true, beq_iff_eq] at h
    obtain ⟨e, he, hb, h⟩ := h
    have hl := hall e he hb
    rcases h with h | h
    · rw [← h]; exact hl
    · cases ho : ops[e.on]? with
      | none => cases f <;> simp [anc, ho] at h
      | some oe => exact anc_listed hcl f e.on oe ho (fun e' he' hb' => hcl e.on oe ho hl e' he' hb') h
/-- None of C has come up. -/
def noC (C : List Nat) (listed : Array Bool) : Bool := C.all fun c => !(listed.getD c false)
theorem noC_spec {listed : Array Bool} : noC C listed = true ↔ ∀ c ∈ C, listed.getD c false = false := by
  simp only [noC, List.all_eq_true, Bool.not_eq_true']
theorem noC_set {listed : Array Bool} {j : Nat} (hj : j ∉ C) (h : noC C listed = true) : noC C (listed.setIfInBounds j true) = true := by
  rw [noC_spec] at *
  intro c hc
  have hne : j ≠ c := fun e => hj (e ▸ hc)
  rw [getD_set_ne false hne]; exact h c hc
theorem noC_unset {listed : Array Bool} {j : Nat} (h : noC C (listed.setIfInBounds j true) = true) : noC C listed = true := by
  rw [noC_spec] at *
  intro c hc
  have h1 := h c hc
  by_cases hne : j = c
  · subst hne
    rcases Nat.lt_or_ge j listed.size with h' | h'
    · simp [h'] at h1
    · simp [Array.getElem?_eq_none h']
  · rw [getD_set_ne false hne] at h1; exact h1
def wpX (P : Program) (ops : Array Oper) (Q : Exit → Act → World → Prop) (C : List Nat) (G : World → Prop) : Nat → Array Bool → Act → World → Prop
  | 0, listed, a, w => Region.ready .any ops listed = [] ∧ Q .normal a w
  | n + 1, listed, a, w => (Region.ready .any ops listed = [] → Q .normal a w) ∧
      ∀ i ∈ Region.ready .any ops listed, wpOp P ops Q i (fun a' w' => (noC C (listed.setIfInBounds i true) = true → G w') ∧ wpX P ops Q C G n (listed.setIfInBounds i true) a' w') a w
theorem wpAny_of_x : ∀ (n : Nat) (listed : Array Bool) (a : Act) (w : World), wpX P ops Q C G n listed a w → wpAny P .any ops Q n listed a w
  | 0, _, _, _, h => h
  | n + 1, _, _, _, h => ⟨h.1, fun i hi => wpOp_mono (fun a' w' h' => wpAny_of_x n _ a' w' h'.2) (h.2 i hi)⟩
theorem not_on {i : Nat} {listed : Array Bool} (hi : i ∈ Region.ready .any ops listed) {oj : Oper} (hall : ∀ e ∈ oj.after, Region.binds .any e = true → listed.getD e.on false = true) :
    ∀ e ∈ oj.after, Region.binds .any e = true → e.on ≠ i := by
  intro e he hb heq
  have h2 := hall e he hb
  have h0 := (mem_ready.1 hi).1
  rw [heq] at h2
  rcases Nat.lt_or_ge i listed.size with h' | h'
  · simp [h'] at h0 h2; rw [h0] at h2; cases h2
  · simp [Array.getElem?_eq_none h'] at h2
theorem closes_not {i j : Nat} (hc : closes ops C i = true) {listed : Array Bool} (hcl : Closed ops listed) (hi : i ∈ Region.ready .any ops listed) (hj : j ∈ Region.ready .any ops listed) : j ∉ C := by
  intro hjC
  have h1 := List.all_eq_true.1 hc j hjC
  obtain ⟨_, oj, hoj, hall⟩ := mem_ready.1 hj
  have h2 := anc_listed hcl 4 j oj hoj hall h1
  have h0 := (mem_ready.1 hi).1
  rcases Nat.lt_or_ge i listed.size with h' | h'
  · simp [h'] at h0 h2; rw [h0] at h2; cases h2
  · simp [Array.getElem?_eq_none h'] at h2
/-- what is said of the other operations: each that has not come up waits for number i or is apart from it -/
def Free (ops : Array Oper) (i : Nat) (oi : Oper) (listed : Array Bool) : Prop :=
  ∀ j oj, ops[j]? = some oj → j ≠ i → listed.getD j true = false → (∀ e ∈ oj.after, Region.binds .any e = true → e.on ≠ i) → oi.apart ops oj = true
theorem Free.set {i : Nat} {oi : Oper} {listed : Array Bool} (h : Free ops i oi listed) {j : Nat} (hjun : listed.getD j true = false) : Free ops i oi (listed.setIfInBounds j true) := by
  intro k ok hk hki hun hno
  refine h k ok hk hki ?_ hno
  by_cases hjk : j = k
  · subst hjk; exact hjun
  · rw [getD_set_ne true hjk] at hun; exact hun
/-- AN OPERATION THAT YIELDS WHILE NONE OF C HAS COME UP, AND FOR WHICH ALL OF C WAIT, MAY BE TAKEN FIRST. -/
theorem wpX_first {i : Nat} {oi : Oper} {v : Value} (hi : ops[i]? = some oi) (hsel : ∀ (j : Nat) (o : Oper) cs b, ops[j]? = some o → o.op ≠ .select cs b)
    (hc : closes ops C i = true) (hQ : ∀ c a w, Q (.panic c) (a.put oi.dst v) w → Q (.panic c) a w) :
    ∀ (n : Nat) (listed : Array Bool) (a : Act) (w : World), Closed ops listed → Free ops i oi listed → i ∈ Region.ready .any ops listed → YieldsIf P ops G oi v a → G w → noC C listed = true →
      wpX P ops Q C G n (listed.setIfInBounds i true) (a.put oi.dst v) w → wpX P ops Q C G (n + 1) listed a w := by
  intro n
  induction n with
  | zero =>
    intro listed a w _ _ hr hy hG hno H
    refine ⟨fun h => (by rw [h] at hr; cases hr), fun j hj => ?_⟩
    by_cases hji : j = i
    · subst hji; exact hy.wpOp hi hG ⟨fun _ => hG, H⟩
    · have h1 := ready_mono hj hji
      rw [H.1] at h1; cases h1
  | succ n ih =>
    intro listed a w hcl hfree hr hy hG hno H
    refine ⟨fun h => (by rw [h] at hr; cases hr), fun j hj => ?_⟩
    by_cases hji : j = i
    · subst hji; exact hy.wpOp hi hG ⟨fun _ => hG, H⟩
    · have hjC : j ∉ C := closes_not hc hcl hr hj
      have hiC : i ∉ C := closes_not hc hcl hr hr
      have h1 := H.2 j (ready_mono hj hji)
      obtain ⟨hjun, oj, hoj, hall⟩ := mem_ready.1 hj
      have h2 := wpOp_putIf hoj (hfree j oj hoj hji hjun (not_on hr hall)) (fun cs b => hsel i oi cs b hi) (fun cs b => hsel j oj cs b hoj) hQ hy h1
      refine wpOp_mono (fun a' w' h3 => ?_) h2
      have hGw : G w' := h3.2.1 (noC_set hjC (noC_set hiC hno))
      refine ⟨fun _ => hGw, ih (listed.setIfInBounds j true) a' w' (hcl.set hoj hall) (hfree.set hjun) (ready_mono hr (Ne.symm hji)) h3.1 hGw (noC_set hjC hno) ?_⟩
      rw [Array.setIfInBounds_comm _ _ hji]
      exact h3.2.2
/-- AN OPERATION THAT YIELDS IN WHATEVER WORLD MAY BE TAKEN FIRST. -/
theorem wpX_firstP {i : Nat} {oi : Oper} {v : Value} (hi : ops[i]? = some oi) (hsel : ∀ (j : Nat) (o : Oper) cs b, ops[j]? = some o → o.op ≠ .select cs b)
    (hiC : i ∉ C) (hQ : ∀ c a w, Q (.panic c) (a.put oi.dst v) w → Q (.panic c) a w) :
    ∀ (n : Nat) (listed : Array Bool) (a : Act) (w : World), Free ops i oi listed → i ∈ Region.ready .any ops listed → YieldsIf P ops (fun _ => True) oi v a → (noC C listed = true → G w) →
      wpX P ops Q C G n (listed.setIfInBounds i true) (a.put oi.dst v) w → wpX P ops Q C G (n + 1) listed a w := by
  intro n
  induction n with
  | zero =>
    intro listed a w _ hr hy hG H
    refine ⟨fun h => (by rw [h] at hr; cases hr), fun j hj => ?_⟩
    by_cases hji : j = i
    · subst hji; exact hy.wpOp hi trivial ⟨fun h => hG (noC_unset h), H⟩
    · have h1 := ready_mono hj hji
      rw [H.1] at h1; cases h1
  | succ n ih =>
    intro listed a w hfree hr hy hG H
    refine ⟨fun h => (by rw [h] at hr; cases hr), fun j hj => ?_⟩
    by_cases hji : j = i
    · subst hji; exact hy.wpOp hi trivial ⟨fun h => hG (noC_unset h), H⟩
    · have h1 := H.2 j (ready_mono hj hji)
      obtain ⟨hjun, oj, hoj, hall⟩ := mem_ready.1 hj
      have h2 := wpOp_putIf hoj (hfree j oj hoj hji hjun (not_on hr hall)) (fun cs b => hsel i oi cs b hi) (fun cs b => hsel j oj cs b hoj) hQ hy h1
      refine wpOp_mono (fun a' w' h3 => ?_) h2
      have hGw : noC C (listed.setIfInBounds j true) = true → G w' := fun h => h3.2.1 (by rw [Array.setIfInBounds_comm _ _ (Ne.symm hji)]; exact noC_set hiC h)
      refine ⟨hGw, ih (listed.setIfInBounds j true) a' w' (hfree.set hjun) (ready_mono hr (Ne.symm hji)) h3.1 hGw ?_⟩
      rw [Array.setIfInBounds_comm _ _ hji]
      exact h3.2.2

variable {N : Nat} {l : Nat → Value} {w : World} {n i : Nat} {listed : Array Bool} {d : Tmp} {op : Op} {ty : TypeId} {pos : String} {after : Array Edge} {v : Value}
structure WX (P : Program) (ops : Array Oper) (Q : Exit → Act → World → Prop) (C : List Nat) (G : World → Prop) (n : Nat) (listed : Array Bool) (a : Act) (w : World) : Prop where
  out : wpX P ops Q C G n listed a w
/-- the form of a drawn region: from the world behind the draw -/
def Dr (w : World) (K : World → World → Prop) : Prop := K w.drew w.drew
theorem dr_begin {id : Nat} {os : List Oper} {K : World → World → Prop} (hm : P.follows .mixedOrders = true) (C : List Nat) {listed : Array Bool} (hl : Array.replicate os.toArray.size false = listed)
    {n : Nat} (hn : os.toArray.size = n) (h : Dr w K) (hk : ∀ w0, K w0 w0 → WX P os.toArray Q C (Ext w0) n listed (F N l) w0) : (Code.region id os.toArray true).wp P Q (F N l) w := by
  subst hl; subst hn
  exact wp_region_any hm (wpAny_of_x _ _ _ _ (hk _ h).out)
theorem dr_end (hr : Region.ready .any ops listed = []) (h : Q .normal (F N l) w) : WX P ops Q C G n listed (F N l) w := by
  refine ⟨?_⟩
  cases n with
  | zero => exact ⟨hr, h⟩
  | succ n => exact ⟨fun _ => h, by rw [hr]; simp⟩
/-- the side conditions of taking number i ahead of all others, as one Bool -/
def mayTakeP (ops : Array Oper) (C : List Nat) (listed : Array Bool) (i : Nat) : Bool :=
  Region.noSelect ops && Region.free .any ops listed i && (Region.ready .any ops listed).contains i && !(C.contains i)
def mayTake (ops : Array Oper) (C : List Nat) (listed : Array Bool) (i : Nat) : Bool :=
  Region.noSelect ops && Region.free .any ops listed i && (Region.ready .any ops listed).contains i && closes ops C i && noC C listed && closedB ops listed
theorem free_of {oi : Oper} (hi : ops[i]? = some oi) (h : Region.free .any ops listed i = true) : Free ops i oi listed := fun j oj hj hne hun hno => Region.free_spec hi h j oj hj hne hun hno
theorem dr_take_ {oi : Oper} (hs : mayTake ops C listed i = true) (hi : ops[i]? = some oi) (hQ : ∀ c a w, Q (.panic c) (a.put oi.dst v) w → Q (.panic c) a w)
    (hy : YieldsIf P ops G oi v (F N l)) (hG : G w) (h : WX P ops Q C G n (listed.setIfInBounds i true) ((F N l).put oi.dst v) w) : WX P ops Q C G (n + 1) listed (F N l) w := by
  simp only [mayTake, Bool.and_eq_true] at hs
  obtain ⟨⟨⟨⟨⟨hs1, hs2⟩, hs3⟩, hs4⟩, hs5⟩, hs6⟩ := hs
  exact ⟨wpX_first hi (Region.noSelect_spec hs1) hs4 hQ n listed (F N l) w (closedB_spec hs6) (free_of hi hs2) (by simpa using hs3) hy hG hs5 h.out⟩
theorem dr_takeP_ {oi : Oper} (hs : mayTakeP ops C listed i = true) (hi : ops[i]? = some oi) (hQ : ∀ c a w, Q (.panic c) (a.put oi.dst v) w → Q (.panic c) a w)
    (hy : YieldsIf P ops (fun _ => True) oi v (F N l)) (hG : noC C listed = true → G w) (h : WX P ops Q C G n (listed.setIfInBounds i true) ((F N l).put oi.dst v) w) : WX P ops Q C G (n + 1) listed (F N l) w := by
  simp only [mayTakeP, Bool.and_eq_true, Bool.not_eq_true'] at hs
  obtain ⟨⟨⟨hs1, hs2⟩, hs3⟩, hs4⟩ := hs
  exact ⟨wpX_firstP hi (Region.noSelect_spec hs1) (by simpa using hs4) hQ n listed (F N l) w (free_of hi hs2) (by simpa using hs3) hy hG h.out⟩
theorem dr_take (hs : mayTake ops C listed i = true) (hi : ops[i]? = some ⟨some d, op, ty, pos, after, none⟩) (hQ : ∀ c a w, Q (.panic c) (a.put (some d) v) w → Q (.panic c) a w)
    (hG : G w) (he : ∀ w', G w' → Ex P op ty N l w' v w') (h : WX P ops Q C G n (listed.setIfInBounds i true) (F N (upd l d v)) w) : WX P ops Q C G (n + 1) listed (F N l) w := by
  refine dr_take_ (v := v) hs hi hQ (.inl ⟨by simp [Region.wanted], fun w' hw => ?_⟩) hG (by rw [F_put]; exact h)
  rw [F_eval, execOp_eq]; exact he w' hw
theorem dr_take_on {g : Nat} {t : Tmp} {b c : Bool} (hs : mayTake ops C listed i = true) (hi : ops[i]? = some ⟨some d, op, ty, pos, after, some (g, b)⟩)
    (hd : (ops[g]?).bind (·.dst) = some t) (hv : ev N l (.tmp t) = (.bool c)) (hc : c = b) (hQ : ∀ c a w, Q (.panic c) (a.put (some d) v) w → Q (.panic c) a w)
    (hG : G w) (he : ∀ w', G w' → Ex P op ty N l w' v w') (h : WX P ops Q C G n (listed.setIfInBounds i true) (F N (upd l d v)) w) : WX P ops Q C G (n + 1) listed (F N l) w := by
  subst hc
  refine dr_take_ (v := v) hs hi hQ (.inl ⟨by simp [Region.wanted, yielded_of (N := N) (l := l) hd hv], fun w' hw => ?_⟩) hG (by rw [F_put]; exact h)
  rw [F_eval, execOp_eq]; exact he w' hw
theorem dr_takeP (hs : mayTakeP ops C listed i = true) (hi : ops[i]? = some ⟨some d, op, ty, pos, after, none⟩) (hQ : ∀ c a w, Q (.panic c) (a.put (some d) v) w → Q (.panic c) a w)
    (hG : noC C listed = true → G w) (he : ∀ w', Ex P op ty N l w' v w') (h : WX P ops Q C G n (listed.setIfInBounds i true) (F N (upd l d v)) w) : WX P ops Q C G (n + 1) listed (F N l) w := by
  refine dr_takeP_ (v := v) hs hi hQ (.inl ⟨by simp [Region.wanted], fun w' hw => ?_⟩) hG (by rw [F_put]; exact h)
  rw [F_eval, execOp_eq]; exact he w'
theorem dr_takeP_on {g : Nat} {t : Tmp} {b c : Bool} (hs : mayTakeP ops C listed i = true) (hi : ops[i]? = some ⟨some d, op, ty, pos, after, some (g, b)⟩)
    (hd : (ops[g]?).bind (·.dst) = some t) (hv : ev N l (.tmp t) = (.bool c)) (hc : c = b) (hQ : ∀ c a w, Q (.panic c) (a.put (some d) v) w → Q (.panic c) a w)
    (hG : noC C listed = true → G w) (he : ∀ w', Ex P op ty N l w' v w') (h : WX P ops Q C G n (listed.setIfInBounds i true) (F N (upd l d v)) w) : WX P ops Q C G (n + 1) listed (F N l) w := by
  subst hc
  refine dr_takeP_ (v := v) hs hi hQ (.inl ⟨by simp [Region.wanted, yielded_of (N := N) (l := l) hd hv], fun w' hw => ?_⟩) hG (by rw [F_put]; exact h)
  rw [F_eval, execOp_eq]; exact he w'
theorem dr_take_off {g : Nat} {t : Tmp} {b c : Bool} (hs : mayTakeP ops C listed i = true) (hi : ops[i]? = some ⟨some d, op, ty, pos, after, some (g, b)⟩)
    (hd : (ops[g]?).bind (·.dst) = some t) (hv : ev N l (.tmp t) = (.bool c)) (hc : c = !b) (hQ : ∀ c a w, Q (.panic c) (a.put (some d) undef) w → Q (.panic c) a w)
    (hG : noC C listed = true → G w) (h : WX P ops Q C G n (listed.setIfInBounds i true) (F N (upd l d undef)) w) : WX P ops Q C G (n + 1) listed (F N l) w := by
  subst hc
  exact dr_takeP_ (v := undef) hs hi hQ (.inr ⟨by simp [Region.wanted, yielded_of (N := N) (l := l) hd hv], rfl⟩) hG (by rw [F_put]; exact h)
theorem dr_take_off0 {g : Nat} {t : Tmp} {b c : Bool} (hs : mayTakeP ops C listed i = true) (hi : ops[i]? = some ⟨none, op, ty, pos, after, some (g, b)⟩)
    (hd : (ops[g]?).bind (·.dst) = some t) (hv : ev N l (.tmp t) = (.bool c)) (hc : c = !b) (hQ : ∀ c a w, Q (.panic c) (a.put none undef) w → Q (.panic c) a w)
    (hG : noC C listed = true → G w) (h : WX P ops Q C G n (listed.setIfInBounds i true) (F N l) w) : WX P ops Q C G (n + 1) listed (F N l) w := by
  subst hc
  exact dr_takeP_ (v := undef) hs hi hQ (.inr ⟨by simp [Region.wanted, yielded_of (N := N) (l := l) hd hv], rfl⟩) hG (by rw [F_put_none]; exact h)
theorem dr_take_offu {g : Nat} {t : Tmp} {b : Bool} (hs : mayTakeP ops C listed i = true) (hi : ops[i]? = some ⟨some d, op, ty, pos, after, some (g, b)⟩)
    (hd : (ops[g]?).bind (·.dst) = some t) (hv : ev N l (.tmp t) = undef) (hQ : ∀ c a w, Q (.panic c) (a.put (some d) undef) w → Q (.panic c) a w)
    (hG : noC C listed = true → G w) (h : WX P ops Q C G n (listed.setIfInBounds i true) (F N (upd l d undef)) w) : WX P ops Q C G (n + 1) listed (F N l) w :=
  dr_takeP_ (v := undef) hs hi hQ (.inr ⟨by simp [Region.wanted, yielded_none (N := N) (l := l) hd hv], rfl⟩) hG (by rw [F_put]; exact h)
theorem dr_take_offu0 {g : Nat} {t : Tmp} {b : Bool} (hs : mayTakeP ops C listed i = true) (hi : ops[i]? = some ⟨none, op, ty, pos, after, some (g, b)⟩)
    (hd : (ops[g]?).bind (·.dst) = some t) (hv : ev N l (.tmp t) = undef) (hQ : ∀ c a w, Q (.panic c) (a.put none undef) w → Q (.panic c) a w)
    (hG : noC C listed = true → G w) (h : WX P ops Q C G n (listed.setIfInBounds i true) (F N l) w) : WX P ops Q C G (n + 1) listed (F N l) w :=
  dr_takeP_ (v := undef) hs hi hQ (.inr ⟨by simp [Region.wanted, yielded_none (N := N) (l := l) hd hv], rfl⟩) hG (by rw [F_put_none]; exact h)
/-- one of two that may come up now (neither is guarded) -/
theorem dr_two {i j : Nat} {oi oj : Oper} (hr : Region.ready .any ops listed = [i, j]) (hi : ops[i]? = some oi) (hj : ops[j]? = some oj) (hgi : oi.guard = none) (hgj : oj.guard = none)
    (h1 : oi.wp P (F N l) w (fun a' w' => (noC C (listed.setIfInBounds i true) = true → G w') ∧ WX P ops Q C G n (listed.setIfInBounds i true) a' w') Q)
    (h2 : oj.wp P (F N l) w (fun a' w' => (noC C (listed.setIfInBounds j true) = true → G w') ∧ WX P ops Q C G n (listed.setIfInBounds j true) a' w') Q) : WX P ops Q C G (n + 1) listed (F N l) w := by
  refine ⟨⟨fun h0 => (by rw [hr] at h0; cases h0), fun k hk => ?_⟩⟩
  rw [hr] at hk
  unfold wpOp
  rcases (by simpa using hk : k = i ∨ k = j) with rfl | rfl
  · simp only [hi]
    rw [if_pos (by simp [Region.wanted, hgi])]
    exact .inl (Oper.wp_mono (fun _ _ h => ⟨h.1, h.2.out⟩) h1)
  · simp only [hj]
    rw [if_pos (by simp [Region.wanted, hgj])]
    exact .inl (Oper.wp_mono (fun _ _ h => ⟨h.1, h.2.out⟩) h2)
/-- the one that may come up now -/
theorem dr_only {oi : Oper} (hr : Region.ready .any ops listed = [i]) (hi : ops[i]? = some oi) (hg : oi.guard = none)
    (h : oi.wp P (F N l) w (fun a' w' => (noC C (listed.setIfInBounds i true) = true → G w') ∧ WX P ops Q C G n (listed.setIfInBounds i true) a' w') Q) : WX P ops Q C G (n + 1) listed (F N l) w := by
  refine ⟨⟨fun h0 => (by rw [hr] at h0; cases h0), fun j hj => ?_⟩⟩
  rw [hr] at hj
  obtain rfl : j = i := by simpa using hj
  unfold wpOp
  simp only [hi]
  rw [if_pos (by simp [Region.wanted, hg])]
  exact .inl (Oper.wp_mono (fun _ _ h => ⟨h.1, h.2.out⟩) h)
theorem dr_only_on {o : Option Tmp} {g : Nat} {t : Tmp} {b c : Bool} (hr : Region.ready .any ops listed = [i]) (hi : ops[i]? = some ⟨o, op, ty, pos, after, some (g, b)⟩)
    (hd : (ops[g]?).bind (·.dst) = some t) (hv : ev N l (.tmp t) = (.bool c)) (hc : c = b)
    (h : (⟨o, op, ty, pos, after, none⟩ : Oper).wp P (F N l) w (fun a' w' => (noC C (listed.setIfInBounds i true) = true → G w') ∧ WX P ops Q C G n (listed.setIfInBounds i true) a' w') Q) : WX P ops Q C G (n + 1) listed (F N l) w := by
  subst hc
  refine ⟨⟨fun h0 => (by rw [hr] at h0; cases h0), fun j hj => ?_⟩⟩
  rw [hr] at hj
  obtain rfl : j = i := by simpa using hj
  unfold wpOp
  simp only [hi]
  rw [if_pos (by simp [Region.wanted, yielded_of (N := N) (l := l) hd hv])]
  refine .inl (Oper.wp_mono (K := fun a' w' => (noC C (listed.setIfInBounds _ true) = true → G w') ∧ WX P ops Q C G n (listed.setIfInBounds _ true) a' w') (fun _ _ h => ⟨h.1, h.2.out⟩) ?_)
  unfold Oper.wp at h ⊢
  rw [execOp_eq] at h ⊢
  exact h
/-- the one that may come up now, and whose guard does not hold -/
theorem dr_only_off {g : Nat} {t : Tmp} {b c : Bool} (hr : Region.ready .any ops listed = [i]) (hi : ops[i]? = some ⟨some d, op, ty, pos, after, some (g, b)⟩)
    (hd : (ops[g]?).bind (·.dst) = some t) (hv : ev N l (.tmp t) = (.bool c)) (hc : c = !b) (hG : noC C listed = true → G w)
    (h : WX P ops Q C G n (listed.setIfInBounds i true) (F N (upd l d undef)) w) : WX P ops Q C G (n + 1) listed (F N l) w := by
  subst hc
  refine ⟨⟨fun h0 => (by rw [hr] at h0; cases h0), fun j hj => ?_⟩⟩
  rw [hr] at hj
  obtain rfl : j = i := by simpa using hj
  unfold wpOp
  simp only [hi]
  rw [if_neg (by simp [Region.wanted, yielded_of (N := N) (l := l) hd hv]), F_put]
  exact ⟨fun hn => hG (noC_unset hn), h.out⟩
theorem dr_only_offu {g : Nat} {t : Tmp} {b : Bool} (hr : Region.ready .any ops listed = [i]) (hi : ops[i]? = some ⟨some d, op, ty, pos, after, some (g, b)⟩)
    (hd : (ops[g]?).bind (·.dst) = some t) (hv : ev N l (.tmp t) = undef) (hG : noC C listed = true → G w)
    (h : WX P ops Q C G n (listed.setIfInBounds i true) (F N (upd l d undef)) w) : WX P ops Q C G (n + 1) listed (F N l) w := by
  refine ⟨⟨fun h0 => (by rw [hr] at h0; cases h0), fun j hj => ?_⟩⟩
  rw [hr] at hj
  obtain rfl : j = i := by simpa using hj
  unfold wpOp
  simp only [hi]
  rw [if_neg (by simp [Region.wanted, yielded_none (N := N) (l := l) hd hv]), F_put]
  exact ⟨fun hn => hG (noC_unset hn), h.out⟩
theorem noG {b : Bool} {X : Prop} (h : b = false) : b = true → X := fun hb => by rw [h] at hb; cases hb
end drawn
section owp
variable {P : Program} {Q : Exit → Act → World → Prop} {N : Nat} {l : Nat → Value} {w w' : World} {d : Tmp} {op : Op} {ty : TypeId} {pos : String} {after : Array Edge} {v : Value}
  {next : Act → World → Prop} {α : Type} {enc : α → Value}
/-- one operation that comes up alone: its step, whatever follows -/
theorem o_val (h : Ex P op ty N l w v w') (hk : next (F N (upd l d v)) w') : (⟨some d, op, ty, pos, after, none⟩ : Oper).wp P (F N l) w next Q := by
  unfold Oper.wp; rw [F_eval, execOp_eq, h, Oper.upon_value, F_put]; exact hk
theorem o_val0 (h : Ex P op ty N l w v w') (hk : next (F N l) w') : (⟨none, op, ty, pos, after, none⟩ : Oper).wp P (F N l) w next Q := by
  unfold Oper.wp; rw [F_eval, execOp_eq, h, Oper.upon_value, F_put_none]; exact hk
theorem o_unit (h : ExU P op ty N l w w') (hk : next (F N l) w') : (⟨none, op, ty, pos, after, none⟩ : Oper).wp P (F N l) w next Q := by
  unfold Oper.wp; rw [F_eval, execOp_eq, h, Oper.upon_skip, F_put_none]; exact hk
theorem o_rn {s : Sem Value} {K : α → World → Prop} (he : ∀ {v w'}, s.run P w = .ok v w' → Ex P op ty N l w v w') (h : Rn P enc s w K)
    (hk : ∀ x w', K x w' → next (F N (upd l d (enc x))) w') : (⟨some d, op, ty, pos, after, none⟩ : Oper).wp P (F N l) w next Q := by
  obtain ⟨x, w', hr, hK⟩ := h; exact o_val (he hr) (hk x w' hK)
theorem o_rn0 {s : Sem Value} {K : α → World → Prop} (he : ∀ {v w'}, s.run P w = .ok v w' → Ex P op ty N l w v w') (h : Rn P enc s w K)
    (hk : ∀ x w', K x w' → next (F N l) w') : (⟨none, op, ty, pos, after, none⟩ : Oper).wp P (F N l) w next Q := by
  obtain ⟨x, w', hr, hK⟩ := h; exact o_val0 (he hr) (hk x w' hK)
theorem o_rnu {s : Sem Unit} {K : World → Prop} (he : ∀ {w'}, s.run P w = .ok () w' → ExU P op ty N l w w') (h : RnU P s w K)
    (hk : ∀ w', K w' → next (F N l) w') : (⟨none, op, ty, pos, after, none⟩ : Oper).wp P (F N l) w next Q := by
  obtain ⟨w', hr, hK⟩ := h; exact o_unit (he hr) (hk w' hK)
theorem o_rnp {s : Sem Value} {K : α → Prop} (he : ∀ {v w'}, s.run P w = .ok v w' → Ex P op ty N l w v w') (h : RnP P enc s K)
    (hk : ∀ x, K x → next (F N (upd l d (enc x))) w) : (⟨some d, op, ty, pos, after, none⟩ : Oper).wp P (F N l) w next Q := by
  obtain ⟨x, hr, hK⟩ := h; exact o_val (he (hr w)) (hk x hK)
theorem o_call {f : FuncId} {args : Array Value} (hc : ExC P op ty N l w f args)
    (h : Calls P f args w fun e w' => ∃ v, e = .returned v ∧ next (F N (upd l d v)) w') : (⟨some d, op, ty, pos, after, none⟩ : Oper).wp P (F N l) w next Q := by
  unfold Oper.wp; rw [F_eval, execOp_eq, hc, Oper.upon_enter]
  refine h.mono ?_
  rintro e w' ⟨v, rfl, hv⟩
  show next ((F N l).put (some d) v) w'
  rw [F_put]; exact hv
theorem o_call0 {f : FuncId} {args : Array Value} (hc : ExC P op ty N l w f args)
    (h : Calls P f args w fun e w' => ∃ v, e = .returned v ∧ next (F N l) w') : (⟨none, op, ty, pos, after, none⟩ : Oper).wp P (F N l) w next Q := by
  unfold Oper.wp; rw [F_eval, execOp_eq, hc, Oper.upon_enter]
  refine h.mono ?_
  rintro e w' ⟨v, rfl, hv⟩
  exact hv
theorem o_cal {f : FuncId} {args : Array Operand} {ts : Array TypeId} {vs : List Value} {K : α → World → Prop}
    (hf : ∀ (vs : Array Value) (w : World), (callFunc f vs).run P w = .ok (.enter f vs) w) (ha : args.toList.map (ev N l) = vs) (h : Cal P enc f vs.toArray w K)
    (hk : ∀ x w', K x w' → next (F N (upd l d (enc x))) w') :
    (⟨some d, .call { callee := .value (.func f), args := args, argTypes := ts }, ty, pos, after, none⟩ : Oper).wp P (F N l) w next Q :=
  o_call (exC_func ha hf) (h.mono fun e w' ⟨x, he, hK⟩ => ⟨_, he, hk x w' hK⟩)
theorem o_cal0 {f : FuncId} {args : Array Operand} {ts : Array TypeId} {vs : List Value} {K : α → World → Prop}
    (hf : ∀ (vs : Array Value) (w : World), (callFunc f vs).run P w = .ok (.enter f vs) w) (ha : args.toList.map (ev N l) = vs) (h : Cal P enc f vs.toArray w K)
    (hk : ∀ x w', K x w' → next (F N l) w') :
    (⟨none, .call { callee := .value (.func f), args := args, argTypes := ts }, ty, pos, after, none⟩ : Oper).wp P (F N l) w next Q :=
  o_call0 (exC_func ha hf) (h.mono fun e w' ⟨x, he, hK⟩ => ⟨_, he, hk x w' hK⟩)
theorem o_calv {x : Operand} {fv : Value} {args : Array Operand} {ts : Array TypeId} {vs : List Value} {K : α → World → Prop}
    (hx : ev N l x = fv) (ha : args.toList.map (ev N l) = vs) (h : CalV P enc fv vs.toArray w K)
    (hk : ∀ x w', K x w' → next (F N (upd l d (enc x))) w') :
    (⟨some d, .call { callee := .value x, args := args, argTypes := ts }, ty, pos, after, none⟩ : Oper).wp P (F N l) w next Q := by
  obtain ⟨f, first, cap, rfl, hf, h⟩ := h
  exact o_call (exC_value hx ha hf) (h.mono fun e w' ⟨x, he, hK⟩ => ⟨_, he, hk x w' hK⟩)
end owp
/-! worlds -/
theorem Ext.refl (w : World) : Ext w w := RowKit.Below.refl _ _
theorem Ext.trans {a b c : World} (h : Ext a b) (k : Ext b c) : Ext a c := RowKit.Below.trans h (k.mono h.size)
theorem Ext.drew (w : World) : Ext w w.drew := (RowKit.Below.refl _ _).drew
theorem Ext.alloc (w : World) (o : Obj) : Ext w (w.alloc o) := (RowKit.Below.refl _ _).alloc (Nat.le_refl _) o
/-- a step that leaves all that stood as it was, said with what follows -/
def ExtK {α : Type} (w : World) (K : α → World → Prop) (x : α) (w' : World) : Prop := Ext w w' ∧ K x w'
end Go.Eng

/- The engine, third part: more operations: strings, floats, structs built, new blocks, conversions. -/
namespace Go.Eng
open Go
set_option linter.unusedVariables false

section exs
variable {P : Program} {N : Nat} {l : Nat → Value} {w w' : World} {ty : TypeId} {x y z : Operand} {v : Value} {t : TypeId}
/-- strings -/
def sLt (x y : ByteArray) : Bool := Op.bytesLess x.data.toList y.data.toList
theorem toList_beq (a b : ByteArray) : (a.toList == b.toList) = decide (a = b) := by
  rw [ByteArray.toList_eq, ByteArray.toList_eq, Bool.eq_iff_iff]
  simp only [beq_iff_eq, decide_eq_true_eq]
  exact ⟨fun h => ByteArray.ext (Array.toList_inj.1 h), fun h => by rw [h]⟩
section strs
variable {a b : ByteArray} {t' : TypeId} (hx : ev N l x = .string a) (hy : ev N l y = .string b)
include hx hy
theorem ex_eqlS : Ex P (.binOp .eql t x y t') ty N l w (.bool (decide (a = b))) w := ex_binOp hx hy guard_string (by
  simp only [binOp, Op.stringOp, toList_beq, Sem.run_pure])
theorem ex_neqS : Ex P (.binOp .neq t x y t') ty N l w (.bool (decide (a ≠ b))) w := ex_binOp hx hy guard_string (by
  have : (!(decide (a = b))) = decide (a ≠ b) := by simp
  simp only [binOp, Op.stringOp, toList_beq, Sem.run_pure, this])
theorem ex_lssS : Ex P (.binOp .lss t x y t') ty N l w (.bool (sLt a b)) w := ex_binOp hx hy guard_string (by
  simp only [binOp, Op.stringOp, ByteArray.toList_eq, Sem.run_pure, sLt])
theorem ex_geqS : Ex P (.binOp .geq t x y t') ty N l w (.bool (!(sLt a b))) w := ex_binOp hx hy guard_string (by
  simp only [binOp, Op.stringOp, ByteArray.toList_eq, Sem.run_pure, sLt])
theorem ex_leqS : Ex P (.binOp .leq t x y t') ty N l w (.bool (sLt a b || decide (a = b))) w := ex_binOp hx hy guard_string (by
  simp only [binOp, Op.stringOp, toList_beq, Sem.run_pure, sLt]; simp only [ByteArray.toList_eq])
theorem ex_gtrS : Ex P (.binOp .gtr t x y t') ty N l w (.bool (!(sLt a b || decide (a = b)))) w := ex_binOp hx hy guard_string (by
  simp only [binOp, Op.stringOp, toList_beq, Sem.run_pure, sLt]; simp only [ByteArray.toList_eq])
theorem ex_addS (h : ((a.size + b.size : Nat) : Int) ≤ IntKind.i64.max) : Ex P (.binOp .add t x y t') ty N l w (.string (a ++ b)) w := ex_binOp hx hy guard_string (by
  simp only [binOp, Op.stringOp]
  rw [if_neg (by omega)]; rfl)
end strs
/-- floats -/
def fEq (x y : Nat) : Bool := FloatKind.f64.format.order x y == some .eq
def fNe (x y : Nat) : Bool := FloatKind.f64.format.order x y != some .eq
def fLt (x y : Nat) : Bool := FloatKind.f64.format.order x y == some .lt
def fGt (x y : Nat) : Bool := FloatKind.f64.format.order x y == some .gt
def fLe (x y : Nat) : Bool := FloatKind.f64.format.order x y == some .lt || FloatKind.f64.format.order x y == some .eq
def fGe (x y : Nat) : Bool := FloatKind.f64.format.order x y == some .gt || FloatKind.f64.format.order x y == some .eq
section floats
variable {a b : Nat} {t' : TypeId} (hx : ev N l x = .float .f64 a) (hy : ev N l y = .float .f64 b)
include hx hy
theorem ex_eqlF : Ex P (.binOp .eql t x y t') ty N l w (.bool (fEq a b)) w := ex_binOp hx hy guard_float (by simp [binOp, Op.floatCmp, fEq])
theorem ex_neqF : Ex P (.binOp .neq t x y t') ty N l w (.bool (fNe a b)) w := ex_binOp hx hy guard_float (by simp [binOp, Op.floatCmp, fNe])
theorem ex_lssF : Ex P (.binOp .lss t x y t') ty N l w (.bool (fLt a b)) w := ex_binOp hx hy guard_float (by simp [binOp, Op.floatCmp, fLt])
theorem ex_gtrF : Ex P (.binOp .gtr t x y t') ty N l w (.bool (fGt a b)) w := ex_binOp hx hy guard_float (by simp [binOp, Op.floatCmp, fGt])
theorem ex_leqF : Ex P (.binOp .leq t x y t') ty N l w (.bool (fLe a b)) w := ex_binOp hx hy guard_float (by simp [binOp, Op.floatCmp, fLe])
theorem ex_geqF : Ex P (.binOp .geq t x y t') ty N l w (.bool (fGe a b)) w := ex_binOp hx hy guard_float (by simp [binOp, Op.floatCmp, fGe])
theorem ex_addF (h : (Op.floatArith .add .f64 a b).run P w = .ok v w') : Ex P (.binOp .add t x y t') ty N l w v w' := ex_binOp hx hy guard_float (by simpa [binOp] using h)
theorem ex_subF (h : (Op.floatArith .sub .f64 a b).run P w = .ok v w') : Ex P (.binOp .sub t x y t') ty N l w v w' := ex_binOp hx hy guard_float (by simpa [binOp] using h)
theorem ex_mulF (h : (Op.floatArith .mul .f64 a b).run P w = .ok v w') : Ex P (.binOp .mul t x y t') ty N l w v w' := ex_binOp hx hy guard_float (by simpa [binOp] using h)
theorem ex_quoF (h : (Op.floatArith .quo .f64 a b).run P w = .ok v w') : Ex P (.binOp .quo t x y t') ty N l w v w' := ex_binOp hx hy guard_float (by simpa [binOp] using h)
end floats
/-- integers: the operations that may panic, or that are seldom -/
theorem ex_binI {o : BinOp} {k k' : IntKind} {a b : Int} {t' : TypeId} (hx : ev N l x = .int k a) (hy : ev N l y = .int k' b)
    (h : (binOp o t (.int k a) (.int k' b)).run P w = .ok v w') : Ex P (.binOp o t x y t') ty N l w v w' := ex_binOp hx hy guard_int h
theorem ex_convI {s : TypeId} {k k' : IntKind} {n : Int} (hs : P.underlying s = some (.int k')) (hd : P.underlying t = some (.int k)) (hx : ev N l x = .int k' n) :
    Ex P (.convert s t x) ty N l w (.int k (k.wrap n)) w := ex_convert hx (by
  simp [convert, run_underlying hs, run_underlying hd, Conv.intToInt])
theorem ex_eqlSlNil {s : Sl} {t' e : TypeId} {n c : Nat} (hu : P.underlying t = some (.slice e)) (hx : ev N l x = s.v) (hy : ev N l y = .slice none n c) :
    Ex P (.binOp .eql t x y t') ty N l w (.bool s.a.isNone) w := by
  obtain ⟨a, m, k⟩ := s
  refine ex_binOp hx hy guard_slice ?_
  have h : ∀ d, (Op.equalIn (d + 1) t (.slice a m k) (.slice none n c)).run P w = .ok a.isNone w := by
    intro d; unfold Op.equalIn
    cases a <;> simp [run_underlying hu]
  show (do pure (Value.bool (← Op.equal t (.slice a m k) (.slice none n c))) : Sem Value).run P w = _
  have h' := h 9999
  simp only [Sem.run_bind, Op.equal, Op.maxDepth, h', Result.andThen_ok, Sem.run_pure]
/-- a struct's or an array's equality -/
theorem ex_eqlA {a b : Array Value} {t' : TypeId} (hg : (P.eqGuardType P.depth t) = false) (hx : ev N l x = .agg a) (hy : ev N l y = .agg b)
    (h : (do pure (Value.bool (← Op.equal t (.agg a) (.agg b))) : Sem Value).run P w = .ok v w') : Ex P (.binOp .eql t x y t') ty N l w v w' := by
  refine ex_binOp hx hy ?_ h
  have hp : ∀ w, (program.run P w : Result Program) = .ok P w := fun _ => rfl
  simp [eqGuard, hp, hg]
theorem ex_neqA {a b : Array Value} {t' : TypeId} (hg : (P.eqGuardType P.depth t) = false) (hx : ev N l x = .agg a) (hy : ev N l y = .agg b)
    (h : (do pure (Value.bool (!(← Op.equal t (.agg a) (.agg b)))) : Sem Value).run P w = .ok v w') : Ex P (.binOp .neq t x y t') ty N l w v w' := by
  refine ex_binOp hx hy ?_ h
  have hp : ∀ w, (program.run P w : Result Program) = .ok P w := fun _ => rfl
  simp [eqGuard, hp, hg]
theorem ex_nilCheckP {p : Option Addr} {a : Addr} (hx : ev N l x = .pointer p) (hp : p = some a) : Ex P (.nilCheck x) ty N l w (Ptr a) w := by
  subst hp; exact ex_nilCheck hx
theorem ex_nilCheckV {fv : Value} {f : FuncId} {a b : Array Value} (hx : ev N l x = fv) (hf : fv = .func (.func f) a b) : Ex P (.nilCheck x) ty N l w fv w := by
  subst hf; exact ex_nilCheckF hx
/-- addresses of fields -/
theorem ex_fa {f off : Nat} {p : Addr} (h : ∀ (p : Addr) (w : World), (Instr.fieldAt t (Ptr p) f).run P w = .ok (Ptr (p.add off)) w) (hx : ev N l x = Ptr p) :
    Ex P (.fieldAddr t x f) ty N l w (Ptr (p.add off)) w := ex_fieldAddr hx (h p w)
theorem e_fa {fs : Array Field} {fld : Field} {f : Nat} {i : TypeInfo} (hu : P.underlying t = some (.struct fs)) (hf : fs[f]? = some fld) (hi : P.info? fld.type = some i) (hs : (i.size == 0) = false) {off : Nat} (ho : fld.offset = off)
    (p : Addr) (w : World) : (Instr.fieldAt t (Ptr p) f).run P w = .ok (Ptr (p.add off)) w := by
  subst ho
  have hp : ∀ w, (program.run P w : Result Program) = .ok P w := fun _ => rfl
  have hs' : ¬ i.size = 0 := by simpa using hs
  simp [Instr.fieldAt, run_underlying hu, hf, Instr.sureAddr, Ptr, fieldPlace, sizeOf, typeInfo, hp, hi, hs']
end exs
section news
variable {P : Program} {ops : Array Oper} {Q : Exit → Act → World → Prop} {rest : List Oper} {N : Nat} {l : Nat → Value} {w : World} {d : Tmp} {ty : TypeId} {pos : String} {after : Array Edge} {x : Operand} {t : TypeId}
/-- a new block of cells, and what follows (its number is a letter) -/
def New (e : TypeId) (cs : List Value) (w : World) (K : Nat → World → Prop) : Prop := ∀ b w', b = w.heap.size → w' = w.alloc (.cells cs.toArray e) → K b w'
def NewM (w : World) (K : Nat → World → Prop) : Prop := ∀ b w', b = w.heap.size → w' = w.alloc (.map #[] 0) → K b w'
def NotFn (fv : Value) (K : Prop) : Prop := ∃ f a b, fv = .func (.func f) a b ∧ K
theorem e_box {v : Value} (w : World) : (Instr.box t v).run P w = .ok (Ptr ⟨w.heap.size, 0, none⟩) (w.alloc (.cells v.cells t)) := rfl
theorem e_alloc {z : Value} (hz : (P.info? t).map (·.zero) = some (some z)) (w : World) :
    (Instr.alloc t true (.tuple #[])).run P w = .ok (Ptr ⟨w.heap.size, 0, none⟩) (w.alloc (.cells z.cells t)) := by
  have hp : ∀ w, (program.run P w : Result Program) = .ok P w := fun _ => rfl
  cases hi : P.info? t with
  | none => rw [hi] at hz; cases hz
  | some i =>
    rw [hi] at hz
    have hz' : i.zero = some z := by simpa using hz
    simp [Instr.alloc, zeroValue, typeInfo, hp, hi, hz', newVar, newRow, newObj, Ptr]
    rfl
theorem ex_boxN {v : Value} {cs : List Value} (hx : ev N l x = v) (hc : v.cells = cs.toArray) : Ex P (.box t x) ty N l w (Ptr ⟨w.heap.size, 0, none⟩) (w.alloc (.cells cs.toArray t)) :=
  ex_box hx (by rw [e_box, hc])
theorem ex_allocN {z : Value} {cs : List Value} (hz : (P.info? t).map (·.zero) = some (some z)) (hc : z.cells = cs.toArray) : Ex P (.alloc t) ty N l w (Ptr ⟨w.heap.size, 0, none⟩) (w.alloc (.cells cs.toArray t)) :=
  ex_alloc (by rw [e_alloc hz, hc])
theorem e_buildSlice {e : TypeId} {i : TypeInfo} {z : Value} {n : Nat} {parts : Array (Nat × Value)} {cs : List Value} (hu : P.underlying t = some (.slice e)) (hi : P.info? e = some i) (hz : i.zero = some z)
    (hn : ¬ (n * i.size > 2 ^ 24)) (hn0 : ¬ (n * i.size = 0))
    (hf : Instr.fill (fun k => some (k * i.size, i.size)) ((Array.range (n * i.size)).map (z.cells[· % z.cells.size]!)) parts.toList = some cs.toArray) (w : World) :
    (Instr.buildSlice t n parts).run P w = .ok (.slice (some ⟨w.heap.size, 0, none⟩) n n) (w.alloc (.cells cs.toArray e)) := by
  have hp : ∀ w, (program.run P w : Result Program) = .ok P w := fun _ => rfl
  simp only [Instr.buildSlice, Sem.run_bind, run_underlying hu, Result.andThen_ok, sizeOf, typeInfo, hp, hi, Sem.run_pure, if_neg hn, if_neg hn0, zeroValue, hz, hf]
  rfl
theorem e_buildSlice0 {e : TypeId} {i : TypeInfo} (hu : P.underlying t = some (.slice e)) (hi : P.info? e = some i) (w : World) :
    (Instr.buildSlice t 0 #[]).run P w = .ok (.slice (some ⟨w.heap.size, 0, none⟩) 0 0) (w.alloc (.cells ([] : List Value).toArray e)) := by
  have hp : ∀ w, (program.run P w : Result Program) = .ok P w := fun _ => rfl
  have h0 : ∀ f : Nat → Value, (Array.range 0).map f = #[] := fun f => by
    apply Array.eq_empty_of_size_eq_zero; simp
  simp [Instr.buildSlice, run_underlying hu, sizeOf, typeInfo, hp, hi, Instr.fill, newRow, newObj, h0]
  rfl
def fieldsOf (P : Program) (t : TypeId) : Array Field := match P.underlying t with | some (.struct fs) => fs | _ => #[]
theorem e_build {fs : Array Field} {pl : Array (Nat × Nat)} {z : Value} {zs : Array Value} {parts : Array (Nat × Value)} {cells : Array Value} (hu : P.underlying t = some (.struct fs))
    (hz : (P.info? t).map (·.zero) = some (some z)) (hzs : z.cells = zs)
    (hpl : ∀ w, ((fieldsOf P t).mapM fun f => do pure (f.offset, ← sizeOf f.type) : Sem (Array (Nat × Nat))).run P w = .ok pl w)
    (hf : Instr.fill (pl[·]?) zs parts.toList = some cells) (w : World) : (Instr.build t parts).run P w = .ok (.agg cells) w := by
  have hp : ∀ w, (program.run P w : Result Program) = .ok P w := fun _ => rfl
  subst hzs
  cases hi : P.info? t with
  | none => rw [hi] at hz; cases hz
  | some i =>
    rw [hi] at hz
    have hz' : i.zero = some z := by simpa using hz
    have h1 : (zeroValue t).run P w = .ok z w := by simp [zeroValue, typeInfo, hp, hi, hz']
    have hfs : fieldsOf P t = fs := by simp [fieldsOf, hu]
    rw [hfs] at hpl
    unfold Instr.build
    simp only [Sem.run_bind, h1, Result.andThen_ok, run_underlying hu, hpl, hf, Sem.run_pure]
theorem e_makeMap (w : World) : (Instr.makeMap t none).run P w = .ok (.map (some w.heap.size)) (w.alloc (.map #[] 0)) := rfl
theorem st_new {op : Op} {e : TypeId} {cs : List Value} {K : Nat → World → Prop} {f : Nat → Value} (he : Ex P op ty N l w (f w.heap.size) (w.alloc (.cells cs.toArray e))) (h : New e cs w K)
    (hk : ∀ b w', K b w' → WL P ops Q rest (F N (upd l d (f b))) w') : WL P ops Q (⟨some d, op, ty, pos, after, none⟩ :: rest) (F N l) w :=
  st_val he (hk _ _ (h _ _ rfl rfl))
/-- results that lie in cells -/
def RnR {α : Type} (P : Program) (enc : α → Value) (s : Sem Value) (w : World) (K : α → Prop) : Prop := ∃ x, s.run P w = .ok (enc x) w ∧ K x
theorem st_newm {op : Op} {K : Nat → World → Prop} (he : Ex P op ty N l w (.map (some w.heap.size)) (w.alloc (.map #[] 0))) (h : NewM w K)
    (hk : ∀ b w', K b w' → WL P ops Q rest (F N (upd l d (.map (some b)))) w') : WL P ops Q (⟨some d, op, ty, pos, after, none⟩ :: rest) (F N l) w :=
  st_val he (hk _ _ (h _ _ rfl rfl))
theorem o_new {next : Act → World → Prop} {op : Op} {e : TypeId} {cs : List Value} {K : Nat → World → Prop} {f : Nat → Value} (he : Ex P op ty N l w (f w.heap.size) (w.alloc (.cells cs.toArray e))) (h : New e cs w K)
    (hk : ∀ b w', Ext w w' → K b w' → next (F N (upd l d (f b))) w') : (⟨some d, op, ty, pos, after, none⟩ : Oper).wp P (F N l) w next Q :=
  o_val he (hk _ _ (Ext.alloc _ _) (h _ _ rfl rfl))
theorem o_newm {next : Act → World → Prop} {op : Op} {K : Nat → World → Prop} (he : Ex P op ty N l w (.map (some w.heap.size)) (w.alloc (.map #[] 0))) (h : NewM w K)
    (hk : ∀ b w', Ext w w' → K b w' → next (F N (upd l d (.map (some b)))) w') : (⟨some d, op, ty, pos, after, none⟩ : Oper).wp P (F N l) w next Q :=
  o_val he (hk _ _ (Ext.alloc _ _) (h _ _ rfl rfl))
/-- a call of a function without a body -/
def Rx {α : Type} (P : Program) (enc : α → Value) (f : FuncId) (vs : Array Value) (w : World) (K : α → World → Prop) : Prop := ∃ x w', (callFunc f vs).run P w = .ok (.value (enc x)) w' ∧ K x w'
theorem st_rx {α : Type} {enc : α → Value} {f : FuncId} {args : Array Operand} {ts : Array TypeId} {vs : List Value} {K : α → World → Prop} (ha : args.toList.map (ev N l) = vs) (h : Rx P enc f vs.toArray w K)
    (hk : ∀ x w', K x w' → WL P ops Q rest (F N (upd l d (enc x))) w') :
    WL P ops Q (⟨some d, .call { callee := .value (.func f), args := args, argTypes := ts }, ty, pos, after, none⟩ :: rest) (F N l) w := by
  obtain ⟨x, w', hr, hK⟩ := h; exact st_val (ex_callX ha hr) (hk x w' hK)
theorem o_rx {α : Type} {next : Act → World → Prop} {enc : α → Value} {f : FuncId} {args : Array Operand} {ts : Array TypeId} {vs : List Value} {K : α → World → Prop} (ha : args.toList.map (ev N l) = vs) (h : Rx P enc f vs.toArray w K)
    (hk : ∀ x w', K x w' → next (F N (upd l d (enc x))) w') :
    (⟨some d, .call { callee := .value (.func f), args := args, argTypes := ts }, ty, pos, after, none⟩ : Oper).wp P (F N l) w next Q := by
  obtain ⟨x, w', hr, hK⟩ := h; exact o_val (ex_callX ha hr) (hk x w' hK)
end news
section rets
variable {P : Program} {fn : Func} {R : Ending → World → Prop} {N : Nat} {l : Nat → Value} {w : World} {t u : Tmp} {T U : TypeId} {p p' : Addr} {v v' : Value}
theorem getq (hp : ev N l (.tmp t) = v) : (F N l).tmps[t]?.getD undef = v := by
  have h0 : (F N l).tmps.getD t undef = v := (getD_F t).trans hp
  simpa using h0
theorem ret_cc (hfn : fn.results = #[.cell t T, .cell u U]) (hp : ev N l (.tmp t) = Ptr p) (hr : (loadVar T p).run P w = .ok v w) (hp' : ev N l (.tmp u) = Ptr p') (hr' : (loadVar U p').run P w = .ok v' w)
    (h : R (.returned (.tuple #[v, v'])) w) : bodyPost P fn R .ret (F N l) w := by
  refine bodyPost_ret (v := .tuple #[v, v']) ?_ rfl h
  have h1 := getq hp; have h2 := getq hp'
  unfold Ptr at h1 h2
  simp [results, hfn, h1, h2, asAddr, hr, hr']
theorem ret_ct (hfn : fn.results = #[.cell t T, .tmp u]) (hp : ev N l (.tmp t) = Ptr p) (hr : (loadVar T p).run P w = .ok v w) (hp' : ev N l (.tmp u) = v')
    (h : R (.returned (.tuple #[v, v'])) w) : bodyPost P fn R .ret (F N l) w := by
  refine bodyPost_ret (v := .tuple #[v, v']) ?_ rfl h
  have h1 := getq hp; have h2 := getq hp'
  unfold Ptr at h1
  simp [results, hfn, h1, h2, asAddr, hr]
theorem ret_tc (hfn : fn.results = #[.tmp t, .cell u U]) (hp : ev N l (.tmp t) = v) (hp' : ev N l (.tmp u) = Ptr p') (hr' : (loadVar U p').run P w = .ok v' w)
    (h : R (.returned (.tuple #[v, v'])) w) : bodyPost P fn R .ret (F N l) w := by
  refine bodyPost_ret (v := .tuple #[v, v']) ?_ rfl h
  have h1 := getq hp; have h2 := getq hp'
  unfold Ptr at h2
  simp [results, hfn, h1, h2, asAddr, hr']
end rets
/-! closed facts on types -/
def aggD : TypeDesc → Bool
  | .struct _ | .array _ _ => true
  | _ => false
/-- a type of one cell; a struct of n cells -/
def One (P : Program) (t : TypeId) : Prop := ∃ d, P.underlying t = some d ∧ aggD d = false
def Many (P : Program) (t : TypeId) (n : Nat) : Prop := (∃ d, P.underlying t = some d ∧ aggD d = true) ∧ (P.info? t).map (·.size) = some n
/-- the slice type t has elements of type e, of sz cells -/
def SlT (P : Program) (t e sz : Nat) : Prop := P.underlying t = some (.slice e) ∧ (P.info? e).map (·.size) = some sz
/-- the facts on an element type that append asks -/
structure ElT (P : Program) (t T sz bytes : Nat) (z : Value) : Prop where
  und : P.underlying t = some (.slice T)
  inf : (P.info? T).map (fun i => (i.zero, i.size, i.bytes)) = some (some z, sz, bytes)
  zc : z.cells.size = sz
  pos : 0 < sz
end Go.Eng

/- Memory: what a slice or a block reads as, and one law for each form that a transformer has. -/
namespace Go.Eng
open Go
set_option linter.unusedVariables false

/-! ### What may change -/
/-- Of the blocks that stood only those in S may have turned. -/
structure Chg (S : Nat → Prop) (w w' : World) : Prop where
  os : w'.os = w.os
  tape : w'.tape = w.tape
  output : w'.output = w.output
  size : w.heap.size ≤ w'.heap.size
  block : ∀ k, k < w.heap.size → ¬ S k → w'.heap[k]? = w.heap[k]?
section
variable {S T : Nat → Prop} {a b c w w' w0 : World}
theorem Chg.refl (S : Nat → Prop) (w : World) : Chg S w w := ⟨rfl, rfl, rfl, Nat.le_refl _, fun _ _ _ => rfl⟩
theorem Chg.trans (h : Chg S a b) (k : Chg S b c) : Chg S a c :=
  ⟨k.os.trans h.os, k.tape.trans h.tape, k.output.trans h.output, Nat.le_trans h.size k.size, fun i hi hs => (k.block i (Nat.lt_of_lt_of_le hi h.size) hs).trans (h.block i hi hs)⟩
theorem Chg.mono (h : Chg S a b) (hs : ∀ k, k < a.heap.size → S k → T k) : Chg T a b := ⟨h.os, h.tape, h.output, h.size, fun k hk hT => h.block k hk fun hS => hT (hs k hk hS)⟩
theorem Ext.chg (h : Ext a b) (S : Nat → Prop) : Chg S a b := ⟨h.os, h.tape, h.output, h.size, fun k hk _ => h.block k hk⟩
theorem Chg.ext (h : Chg S a b) (hs : ∀ k, k < a.heap.size → ¬ S k) : Ext a b := ⟨h.os, h.tape, h.output, h.size, fun k hk => h.block k hk (hs k hk)⟩
/-- what turns lies above where we began -/
theorem Ext.then (h : Ext w0 w) (k : Chg S w w') (hs : ∀ b, S b → w0.heap.size ≤ b) : Ext w0 w' :=
  ⟨k.os.trans h.os, k.tape.trans h.tape, k.output.trans h.output, Nat.le_trans h.size k.size, fun i hi =>
    (k.block i (Nat.lt_of_lt_of_le hi h.size) fun hS => by have := hs i hS; omega).trans (h.block i hi)⟩
theorem Chg.then (h : Chg S w0 w) (k : Chg T w w') (hs : ∀ b, b < w0.heap.size → T b → S b) : Chg S w0 w' :=
  ⟨k.os.trans h.os, k.tape.trans h.tape, k.output.trans h.output, Nat.le_trans h.size k.size, fun i hi hn =>
    (k.block i (Nat.lt_of_lt_of_le hi h.size) fun hT => hn (hs i hi hT)).trans (h.block i hi hn)⟩
theorem Chg.thenE (h : Chg S w0 w) (k : Ext w w') : Chg S w0 w' := h.then (k.chg (fun _ => False)) (fun _ _ h => h.elim)
theorem Chg.cell (h : Chg S w w') {p : Addr} {v : Value} (hc : w.cell? p = some v) (hs : ¬ S p.block) : w'.cell? p = some v :=
  (World.cell?_of_block (w := w) (h.block p.block (World.block_lt_of_cell? w p hc) hs)).trans hc
theorem Ext.cell' (h : Ext w w') {p : Addr} {v : Value} (hc : w.cell? p = some v) : w'.cell? p = some v :=
  (World.cell?_of_block (w := w) (h.block p.block (World.block_lt_of_cell? w p hc))).trans hc
end

/-! ### Cells in a row, and blocks known whole -/
def At (w : World) (p : Addr) (cs : List Value) : Prop := ∀ i (h : i < cs.length), w.cell? (p.add i) = some cs[i]
theorem add_block (a : Addr) (n : Nat) : (a.add n).block = a.block := by unfold Addr.add; split <;> rfl
theorem add_add (a : Addr) (i j : Nat) : (a.add i).add j = a.add (i + j) := by
  unfold Addr.add
  by_cases hi : i = 0 <;> by_cases hj : j = 0 <;> simp [hi, hj, Nat.add_assoc]
theorem add_zero (a : Addr) : a.add 0 = a := rfl
section
variable {S : Nat → Prop} {w w' : World} {p : Addr} {cs : List Value} {b T : Nat}
theorem At.chg (h : At w p cs) (k : Chg S w w') (hs : p.block < w.heap.size → ¬ S p.block) : At w' p cs := fun i hi =>
  k.cell (h i hi) (by
    have := World.block_lt_of_cell? w _ (h i hi)
    rw [add_block] at this ⊢; exact hs this)
theorem At.ext (h : At w p cs) (k : Ext w w') : At w' p cs := fun i hi => k.cell' (h i hi)
theorem At.one {v : Value} (h : At w p [v]) : w.cell? p = some v := h 0 (by simp)
theorem At.get (h : At w p cs) {i : Nat} (hi : i < cs.length) : w.cell? (p.add i) = some cs[i] := h i hi
/-- block b is just the cells cs of element type T, none frozen -/
def Blk (w : World) (b : Nat) (T : TypeId) (cs : List Value) : Prop := w.heap[b]? = some (.cells cs.toArray T (0, 0))
theorem Blk.lt (h : Blk w b T cs) : b < w.heap.size := (Array.getElem?_eq_some_iff.1 h).1
theorem Blk.chg (h : Blk w b T cs) (k : Chg S w w') (hs : ¬ S b) : Blk w' b T cs := (k.block b h.lt hs).trans h
theorem Blk.ext (h : Blk w b T cs) (k : Ext w w') : Blk w' b T cs := (k.block b h.lt).trans h
theorem Blk.cell (h : Blk w b T cs) {i : Nat} (hi : i < cs.length) : w.cell? ⟨b, i, none⟩ = some cs[i] := by
  unfold Blk at h; simp [World.cell?, h, hi]
theorem blk_add (i j : Nat) : (⟨b, i, none⟩ : Addr).add j = ⟨b, i + j, none⟩ := by
  unfold Addr.add; split <;> simp_all
theorem Blk.at_ (h : Blk w b T cs) {o : Nat} {ds : List Value} (hd : (cs.drop o).take ds.length = ds) : At w ⟨b, o, none⟩ ds := by
  intro i hi
  rw [blk_add]
  have hl : o + i < cs.length := by
    have := congrArg List.length hd
    simp only [List.length_take, List.length_drop] at this; omega
  rw [h.cell hl]
  have : ds[i] = ((cs.drop o).take ds.length)[i]'(by rw [hd]; exact hi) := by congr 1; exact hd.symm
  rw [this]; simp
theorem Blk.whole (h : Blk w b T cs) : At w ⟨b, 0, none⟩ cs := h.at_ (by simp)
theorem Blk.frozen (h : Blk w b T cs) (i : Nat) : w.frozen? ⟨b, i, none⟩ = false := by
  unfold Blk at h; simp [World.frozen?, h]
end

/-! ### New blocks -/
section
variable {w : World} {T : TypeId} {cs : List Value}
theorem New.mk {K : Nat → World → Prop} (h : ∀ b w', Ext w w' → Blk w' b T cs → b = w.heap.size → w'.heap.size = w.heap.size + 1 → K b w') : New T cs w K := by
  intro b w' hb hw
  subst hb hw
  exact h _ _ (Ext.alloc _ _) (heap_alloc_new w _) rfl (Array.size_push _)
theorem NewM.mk {K : Nat → World → Prop} (h : ∀ b w', Ext w w' → w'.heap[b]? = some (.map #[] 0) → b = w.heap.size → w'.heap.size = w.heap.size + 1 → K b w') : NewM w K := by
  intro b w' hb hw
  subst hb hw
  exact h _ _ (Ext.alloc _ _) (heap_alloc_new w _) rfl (Array.size_push _)
theorem Dr.mk {K : World → World → Prop} (h : ∀ w', Ext w w' → w'.heap = w.heap → K w' w') : Dr w K := h _ (Ext.drew w) rfl
end

/-! ### Loads and stores -/
section
variable {P : Program} {t : TypeId} {w w0 : World} {p : Addr} {α : Type} {enc : α → Value} {x : α}
theorem prog_run (w : World) : (program.run P w : Result Program) = .ok P w := rfl
theorem load1_run (h : One P t) {v : Value} (hc : w.cell? p = some v) : (loadVar t p).run P w = .ok v w := by
  obtain ⟨d, hu, hd⟩ := h
  have h1 : (isAgg t).run P w = .ok false w := by
    unfold isAgg
    simp only [Sem.run_bind, run_underlying hu, Result.andThen_ok]
    cases d <;> first | rfl | cases hd
  simp only [loadVar, Sem.run_bind, h1, Result.andThen_ok, Bool.false_eq_true, if_false]
  simp [load, Sem.run, hc]
theorem loadN_run {n : Nat} (h : Many P t n) {cs : List Value} (hc : At w p cs) (hn : cs.length = n) : (loadVar t p).run P w = .ok (.agg cs.toArray) w := by
  obtain ⟨⟨d, hu, hd⟩, hs⟩ := h
  have h1 : (isAgg t).run P w = .ok true w := by
    unfold isAgg
    simp only [Sem.run_bind, run_underlying hu, Result.andThen_ok]
    cases d <;> first | rfl | cases hd
  have h2 : (sizeOf t).run P w = .ok n w := by
    cases hi : P.info? t with
    | none => rw [hi] at hs; cases hs
    | some i =>
      rw [hi] at hs
      have : i.size = n := by simpa using hs
      simp [sizeOf, typeInfo, prog_run, hi, this]
  have h3 := run_loadCells_list (P := P) (w := w) p cs (fun j v hj => by
    obtain ⟨hj', rfl⟩ := List.getElem?_eq_some_iff.1 hj
    exact hc j hj')
  rw [hn] at h3
  simp only [loadVar, Sem.run_bind, h1, Result.andThen_ok, if_true, h2, h3, Sem.run_pure]
theorem rn_ld1 {K : α → World → Prop} (h : One P t) (hc : w.cell? p = some (enc x)) (hk : K x w) : Rn P enc (Instr.loadAt t (Ptr p)) w K :=
  ⟨x, w, by simp [Instr.loadAt, Instr.sureAddr, Ptr, load1_run h hc], hk⟩
theorem rnl_ld1 {K : α → Prop} (h : One P t) (hc : w0.cell? p = some (enc x)) (hk : K x) : RnL P enc (Instr.loadAt t (Ptr p)) w0 K :=
  ⟨x, fun w hw => by simp [Instr.loadAt, Instr.sureAddr, Ptr, load1_run h (hw.cell' hc)], hk⟩
theorem rn_ldN {K : α → World → Prop} {n : Nat} {cs : List Value} (h : Many P t n) (hc : At w p cs) (hn : cs.length = n) (he : enc x = .agg cs.toArray) (hk : K x w) : Rn P enc (Instr.loadAt t (Ptr p)) w K :=
  ⟨x, w, by simp [Instr.loadAt, Instr.sureAddr, Ptr, loadN_run h hc hn, he], hk⟩
theorem rnl_ldN {K : α → Prop} {n : Nat} {cs : List Value} (h : Many P t n) (hc : At w0 p cs) (hn : cs.length = n) (he : enc x = .agg cs.toArray) (hk : K x) : RnL P enc (Instr.loadAt t (Ptr p)) w0 K :=
  ⟨x, fun w hw => by simp [Instr.loadAt, Instr.sureAddr, Ptr, loadN_run h (hc.ext hw) hn, he], hk⟩
theorem rnr_ld1 {K : α → Prop} (h : One P t) (hc : w.cell? p = some (enc x)) (hk : K x) : RnR P enc (loadVar t p) w K := ⟨x, load1_run h hc, hk⟩
theorem rnr_ldN {K : α → Prop} {n : Nat} {cs : List Value} (h : Many P t n) (hc : At w p cs) (hn : cs.length = n) (he : enc x = .agg cs.toArray) (hk : K x) : RnR P enc (loadVar t p) w K :=
  ⟨x, by rw [loadN_run h hc hn, he], hk⟩
end

/-! ### Stores into a block that is known whole -/
/-- cs with vs laid over it from o on -/
def over (cs : List Value) (o : Nat) (vs : List Value) : List Value := cs.take o ++ vs ++ cs.drop (o + vs.length)
theorem over_length {cs : List Value} {o : Nat} {vs : List Value} (h : o + vs.length ≤ cs.length) : (over cs o vs).length = cs.length := by
  simp [over]; omega
section
variable {P : Program} {t : TypeId} {w : World} {b T : Nat} {cs vs : List Value} {o : Nat}
theorem store_run {v : Value} (hs : (P.info? t).map (·.size) = some vs.length) (hv : v.cells = vs.toArray) (h1 : ∀ u ∈ vs, u.oneCell' = true) (hb : Blk w b T cs) (ho : o + vs.length ≤ cs.length) :
    ∃ w', (storeVar t ⟨b, o, none⟩ v).run P w = .ok () w' ∧ Chg (fun k => k = b) w w' ∧ w'.heap.size = w.heap.size ∧ Blk w' b T (over cs o vs) := by
  have h2 : (sizeOf t).run P w = .ok vs.length w := by
    cases hi : P.info? t with
    | none => rw [hi] at hs; cases hs
    | some i =>
      rw [hi] at hs
      have : i.size = vs.length := by simpa using hs
      simp [sizeOf, typeInfo, prog_run, hi, this]
  have h3 := run_storeCells_at P b o T vs 0 cs.toArray w hb (by simpa using ho) h1
  refine ⟨w.setRow b (over cs o vs).toArray, ?_, ⟨rfl, rfl, rfl, ?_, ?_⟩, ?_, ?_⟩
  · simp only [storeVar, Sem.run_bind, h2, Result.andThen_ok, hv]
    rw [if_neg (by simp)]
    simpa [over] using h3
  · exact Nat.le_of_eq (by simp [World.setRow])
  · intro k _ hk
    exact setRow_other w b k _ (fun e => hk e)
  · simp [World.setRow]
  · exact setRow_heap w b cs.toArray _ T (0, 0) hb
theorem rnu_st {v : Value} {p : Addr} {K : World → Prop} (hp : p = ⟨b, o, none⟩) (hb : Blk w b T cs) (vs : List Value) (hs : (P.info? t).map (·.size) = some vs.length) (hv : v.cells = vs.toArray)
    (h1 : ∀ u ∈ vs, u.oneCell' = true) (ho : o + vs.length ≤ cs.length)
    (hk : ∀ w', Chg (fun k => k = b) w w' → w'.heap.size = w.heap.size → Blk w' b T (over cs o vs) → K w') : RnU P (Instr.storeAt t (Ptr p) v) w K := by
  subst hp
  obtain ⟨w', hr, h2, h3, h4⟩ := store_run (P := P) (t := t) hs hv h1 hb ho
  exact ⟨w', by simpa [Instr.storeAt, Instr.sureAddr, Ptr] using hr, hk w' h2 h3 h4⟩
end

/-! ### Slices that read as lists -/
section
variable {α β : Type} (cells : α → List Value) (sz : Nat)
/-- The slice s reads as the list l, each element in sz cells, in blocks of which F holds. -/
structure Rd (F : Nat → Prop) (w : World) (s : Sl) (l : List α) : Prop where
  len : s.n = l.length
  cap : s.n ≤ s.c
  lim : s.c ≤ maxLen
  el : ∀ k (h : k < l.length), ∃ a, s.a = some a ∧ F a.block ∧ At w (a.add (k * sz)) (cells l[k])
end
section
variable {α : Type} {cells : α → List Value} {sz : Nat} {F G S : Nat → Prop} {w w' : World} {s : Sl} {l : List α}
theorem Rd.mono (h : Rd cells sz F w s l) (hF : ∀ b, F b → G b) : Rd cells sz G w s l := ⟨h.len, h.cap, h.lim, fun k hk => let ⟨a, h1, h2, h3⟩ := h.el k hk; ⟨a, h1, hF _ h2, h3⟩⟩
theorem Rd.ext (h : Rd cells sz F w s l) (k : Ext w w') : Rd cells sz F w' s l := ⟨h.len, h.cap, h.lim, fun i hi => let ⟨a, h1, h2, h3⟩ := h.el i hi; ⟨a, h1, h2, h3.ext k⟩⟩
theorem Rd.chg (h : Rd cells sz F w s l) (k : Chg S w w') (hs : ∀ b, F b → b < w.heap.size → ¬ S b) : Rd cells sz F w' s l :=
  ⟨h.len, h.cap, h.lim, fun i hi => let ⟨a, h1, h2, h3⟩ := h.el i hi; ⟨a, h1, h2, h3.chg k (by rw [add_block]; exact hs _ h2)⟩⟩
theorem Rd.nil_ (F : Nat → Prop) (w : World) : Rd cells sz F w Sl.nil [] := ⟨rfl, Nat.le_refl _, Nat.zero_le _, fun k hk => absurd hk (Nat.not_lt_zero _)⟩
theorem Rd.empty {a : Option Addr} {c : Nat} (hc : c ≤ maxLen) (F : Nat → Prop) (w : World) : Rd cells sz F w ⟨a, 0, c⟩ [] := ⟨rfl, Nat.zero_le _, hc, fun k hk => absurd hk (Nat.not_lt_zero _)⟩
/-- a new block read whole as a slice -/
theorem Blk.rd {b T : Nat} {cs : List Value} (hb : Blk w b T cs) {l : List α} (hcs : cs = l.flatMap cells) (hsz : ∀ x ∈ l, (cells x).length = sz) (hF : F b) {n : Nat} (hn : n = l.length) (hm : n ≤ maxLen) : Rd cells sz F w ⟨some ⟨b, 0, none⟩, n, n⟩ l := by
  subst hcs
  refine ⟨hn, Nat.le_refl _, hm, fun k hk => ⟨⟨b, 0, none⟩, rfl, hF, ?_⟩⟩
  rw [blk_add]
  refine hb.at_ ?_
  rw [Nat.zero_add, hsz _ (List.getElem_mem hk)]
  clear hb hn hF hm
  induction l generalizing k with
  | nil => exact absurd hk (Nat.not_lt_zero _)
  | cons x l ih =>
    have hx := hsz x (by simp)
    cases k with
    | zero => simp [List.flatMap_cons, ← hx]
    | succ k =>
      simp only [List.flatMap_cons, List.getElem_cons_succ]
      have := ih (fun y hy => hsz y (by simp [hy])) k (by simpa using hk)
      rw [← this]
      congr 1
      rw [List.drop_append, List.drop_eq_nil_of_le (by rw [hx, Nat.add_mul]; omega), List.nil_append]
      congr 1
      rw [hx, Nat.add_mul]; omega
end
section
variable {P : Program} {α : Type} {cells : α → List Value} {sz t e : Nat} {F : Nat → Prop} {w : World} {s : Sl} {l : List α}
theorem size_run {n : Nat} (hs : (P.info? t).map (·.size) = some n) (w : World) : (sizeOf t).run P w = .ok n w := by
  cases hi : P.info? t with
  | none => rw [hi] at hs; cases hs
  | some i =>
    rw [hi] at hs
    have : i.size = n := by simpa using hs
    simp [sizeOf, typeInfo, prog_run, hi, this]
theorem idx_run (ht : SlT P t e sz) {a : Addr} (ha : s.a = some a) {k : Nat} (hk : k < s.n) (w : World) : (Instr.indexAt t (Sl.v s) (.int .i64 (k : Int))).run P w = .ok (Ptr (a.add (k * sz))) w := by
  obtain ⟨sa, n, c⟩ := s
  simp only at ha hk
  subst ha
  have h1 : (k : Int) < (n : Int) := by omega
  have h2 := size_run ht.2 w
  simp only [Instr.indexAt, Sl.v, asIntOf, Sem.run_bind, Sem.run_pure, Result.andThen_ok, run_underlying ht.1]
  rw [if_pos ⟨by omega, h1⟩]
  simp only [Sem.run_bind, h2, Result.andThen_ok, Sem.run_pure, Ptr, Int.toNat_natCast]
theorem rnp_idx (ht : SlT P t e sz) (hs : Rd cells sz F w s l) {k : Nat} (hk : k < l.length) {i : Int} (hi : i = k) {K : Addr → Prop} (h : ∀ p, F p.block → At w p (cells l[k]) → K p) :
    RnP P Ptr (Instr.indexAt t (Sl.v s) (.int .i64 i)) K := by
  obtain ⟨a, ha, hF, hat⟩ := hs.el k hk
  subst hi
  exact ⟨_, fun w => idx_run ht ha (by rw [hs.len]; exact hk) w, h _ (by rw [add_block]; exact hF) hat⟩
end

/-! ### Slices that the call owns and appends to -/
/-- s is a row of the call's own from block B on (or nil), with the elements l -/
structure Own {α : Type} (cells : α → List Value) (sz : Nat) (T : TypeId) (B : Nat) (w : World) (s : Sl) (l : List α) : Prop where
  row : w.ownsRow B T sz (Sl.v s) l.length (l.flatMap cells)
  sz_ : ∀ x ∈ l, (cells x).length = sz
def own? (s : Sl) (b : Nat) : Prop := ∃ a, s.a = some a ∧ a.block = b
section
variable {P : Program} {α : Type} {cells : α → List Value} {sz t T ty B : Nat} {F S : Nat → Prop} {w w' : World} {s : Sl} {l : List α}
theorem Own.nil_ (B : Nat) (w : World) : Own cells sz T B w Sl.nil ([] : List α) := ⟨World.ownsRow_nil w B T sz, fun x hx => by cases hx⟩
theorem Own.len (h : Own cells sz T B w s l) : s.n = l.length := by
  obtain ⟨a, n, c⟩ := s
  rcases h.row.2 with ⟨hv, hn⟩ | ⟨g, cap, cur, hv, _⟩
  · simp only [Sl.v, Value.slice.injEq] at hv
    show n = _
    omega
  · simp only [Sl.v, Value.slice.injEq] at hv
    exact hv.2.1
theorem Own.ge (h : Own cells sz T B w s l) {b : Nat} (hb : own? s b) : B ≤ b ∧ b < w.heap.size := by
  obtain ⟨a, ha, rfl⟩ := hb
  exact h.row.lt a.block (by obtain ⟨sa, n, c⟩ := s; simp only at ha; subst ha; rfl)
theorem Own.chg (h : Own cells sz T B w s l) (k : Chg S w w') (hs : ∀ b, own? s b → ¬ S b) : Own cells sz T B w' s l := by
  refine ⟨⟨h.row.1, ?_⟩, h.sz_⟩
  rcases h.row.2 with hn | ⟨g, cap, cur, hv, hbg, hg, rest⟩
  · exact .inl hn
  · refine .inr ⟨g, cap, cur, hv, hbg, ?_, rest⟩
    have ho : own? s g := by
      obtain ⟨a, n, c⟩ := s
      simp only [Sl.v, Value.slice.injEq] at hv
      exact ⟨_, hv.1, rfl⟩
    rw [k.block g (Array.getElem?_eq_some_iff.1 hg).1 (hs g ho)]; exact hg
theorem Own.ext (h : Own cells sz T B w s l) (k : Ext w w') : Own cells sz T B w' s l := h.chg (k.chg (fun _ => False)) (fun _ _ h => h)
theorem Own.weaken {B' : Nat} (h : Own cells sz T B w s l) (hB : B' ≤ B) : Own cells sz T B' w s l := by
  refine ⟨⟨h.row.1, ?_⟩, h.sz_⟩
  rcases h.row.2 with hn | ⟨g, cap, cur, hv, hbg, rest⟩
  · exact .inl hn
  · exact .inr ⟨g, cap, cur, hv, Nat.le_trans hB hbg, rest⟩
theorem Own.rd (h : Own cells sz T B w s l) (hF : ∀ b, own? s b → F b) : Rd cells sz F w s l := by
  have hl := h.len
  obtain ⟨a, n, c⟩ := s
  rcases h.row.2 with ⟨hv, hn⟩ | ⟨g, cap, cur, hv, hbg, hg, hnc, hcm, hcs, htake⟩
  · simp only [Sl.v, Value.slice.injEq] at hv
    have : l = [] := List.eq_nil_of_length_eq_zero hn
    subst this
    exact ⟨hl, by show n ≤ c; simp only at hl; simp at hl; omega, by show c ≤ maxLen; unfold maxLen; omega, fun k hk => absurd hk (Nat.not_lt_zero _)⟩
  · simp only [Sl.v, Value.slice.injEq] at hv
    obtain ⟨rfl, rfl, rfl⟩ := hv
    refine ⟨hl, hnc, hcm, fun k hk => ⟨⟨g, 0, none⟩, rfl, hF g ⟨_, rfl, rfl⟩, ?_⟩⟩
    intro i hi
    rw [blk_add, blk_add]
    have hszk := h.sz_ _ (List.getElem_mem hk)
    have hfl : (l.flatMap cells)[k * sz + i]? = some ((cells l[k])[i]) := by
      clear htake hcs hg hnc hcm hF hl
      have key : ∀ (l : List α) (k : Nat) (hk : k < l.length), (∀ x ∈ l, (cells x).length = sz) → ∀ hi : i < (cells l[k]).length, (l.flatMap cells)[k * sz + i]? = some ((cells l[k])[i]) := by
        intro l
        induction l with
        | nil => intro k hk; exact absurd hk (Nat.not_lt_zero _)
        | cons x l ih =>
          intro k hk hsz hi
          have hx := hsz x (by simp)
          cases k with
          | zero =>
            simp only [List.flatMap_cons, Nat.zero_mul, Nat.zero_add, List.getElem_cons_zero] at hi ⊢
            rw [List.getElem?_append_left hi, List.getElem?_eq_getElem hi]
          | succ k =>
            simp only [List.flatMap_cons, List.getElem_cons_succ] at hi ⊢
            rw [List.getElem?_append_right (by rw [hx, Nat.add_mul]; omega)]
            have e : (k + 1) * sz + i - (cells x).length = k * sz + i := by rw [hx, Nat.add_mul]; omega
            rw [e]
            exact ih k (by simpa using hk) (fun y hy => hsz y (by simp [hy])) hi
      exact key l k hk h.sz_ hi
    have hcell := cell_of_row w g (0 + k * sz + i) cur T (0, 0) hg
    rw [hcell]
    have hlt : k * sz + i < l.length * sz := by
      have h1 : i < sz := by omega
      have h2 : (k + 1) * sz ≤ l.length * sz := Nat.mul_le_mul_right _ hk
      rw [Nat.add_mul] at h2; omega
    rw [← htake, List.getElem?_take, if_pos hlt] at hfl
    rw [Nat.zero_add]
    simpa using hfl
theorem app_run {bytes : Nat} {z : Value} (ht : ElT P t T sz bytes z) (h : Own cells sz T B w s l) {a : Addr} {m c : Nat} {l' : List α} (hm : m = l'.length) (hl' : ∀ x ∈ l', (cells x).length = sz)
    (hc : ∀ j u, (l'.flatMap cells)[j]? = some u → w.cell? (a.add j) = some u) (h1 : ∀ x ∈ l', ∀ u ∈ cells x, u.oneCell' = true) (hbytes : (l.length + l'.length) * bytes ≤ 140737488355328) (hpos : 0 < bytes) (hB : B ≤ w.heap.size) :
    ∃ s' w', (Builtin.append_ #[t, t] ty #[Sl.v s, .slice (some a) m c]).run P w = .ok (Sl.v s') w' ∧ Own cells sz T B w' s' (l ++ l') ∧ Chg (own? s) w w' ∧ (∀ b, own? s' b → own? s b ∨ b = w.heap.size) := by
  subst hm
  obtain ⟨i, hi, h2⟩ : ∃ i, P.info? T = some i ∧ (i.zero, i.size, i.bytes) = (some z, sz, bytes) := by
    have := ht.inf
    cases hi : P.info? T with
    | none => rw [hi] at this; cases this
    | some i => rw [hi] at this; exact ⟨i, rfl, by simpa using this⟩
  simp only [Prod.mk.injEq] at h2
  have hlen : ∀ (l : List α), (∀ x ∈ l, (cells x).length = sz) → (l.flatMap cells).length = l.length * sz := by
    intro l
    induction l with
    | nil => intro _; simp
    | cons x l ih => intro hh; simp [List.flatMap_cons, hh x (by simp), ih (fun y hy => hh y (by simp [hy])), Nat.add_mul]; omega
  have hmax : l.length + l'.length ≤ maxLen := by
    have : (l.length + l'.length) * 1 ≤ (l.length + l'.length) * bytes := Nat.mul_le_mul_left _ hpos
    unfold maxLen; omega
  have h1' : ∀ u ∈ l'.flatMap cells, u.oneCell' = true := fun u hu => by obtain ⟨x, hx, hu⟩ := List.mem_flatMap.1 hu; exact h1 x hx u hu
  obtain ⟨v', w', hr, ho, hg, h5⟩ := run_append_own (P := P) w B t ty T i z sz bytes ht.und hi h2.1 h2.2.1 h2.2.2 ht.zc ht.pos (Sl.v s) l.length (l.flatMap cells) h.row a l'.length c (l'.flatMap cells)
    (hlen l' hl') hc h1' hmax hbytes hB
  have hv : ∃ s' : Sl, v' = Sl.v s' := by
    rcases ho.2 with ⟨rfl, _⟩ | ⟨g, cap, cur, rfl, _⟩
    · exact ⟨Sl.nil, rfl⟩
    · exact ⟨⟨_, _, _⟩, rfl⟩
  obtain ⟨s', rfl⟩ := hv
  refine ⟨s', w', hr, ⟨by rw [List.length_append, List.flatMap_append]; exact ho, fun x hx => (List.mem_append.1 hx).elim (h.sz_ x) (hl' x)⟩, ⟨hg.os, hg.tape, hg.output, hg.size, fun k hk hn => hg.block k hk fun e => hn ?_⟩, ?_⟩
  · obtain ⟨sa, n, c'⟩ := s
    cases sa with
    | none => simp [Sl.v, Value.ownBlock] at e
    | some a => simp only [Sl.v, Value.ownBlock, Option.some.injEq] at e; exact ⟨a, rfl, e.symm⟩
  · intro b hb
    obtain ⟨a', ha', rfl⟩ := hb
    obtain ⟨sa', n', c''⟩ := s'
    simp only at ha'
    subst ha'
    have hbound : ((l.length + l'.length : Nat) : Int) ≤ 9223372036854775807 := by unfold maxLen at hmax; omega
    rcases h.row.2 with ⟨hv, hn0⟩ | ⟨g, cap, cur, hv, hbg, hgg, hnc, hcm, hcs, htake⟩
    · by_cases hm0 : l'.length = 0
      · have := h5.2 ⟨hv, hm0⟩
        simp [Sl.v] at this
      · rw [hv] at hr
        have hr2 := run_append_nil (P := P) w t ty T i z ht.und hi h2.1 a l'.length c (l'.flatMap cells) (by rw [h2.2.1]; exact hlen l' hl') hc (by omega) (by omega) (by rw [h2.2.2]; rw [hn0, Nat.zero_add] at hbytes; omega)
        rw [hr2] at hr
        injection hr with e1 e2
        simp only [Sl.v, Value.slice.injEq, Option.some.injEq] at e1
        exact .inr (by rw [← e1.1])
    · rw [hv] at hr
      have hsa : s.a = some ⟨g, 0, none⟩ := by
        obtain ⟨sa, n, c'⟩ := s
        simp only [Sl.v, Value.slice.injEq] at hv; exact hv.1
      by_cases hroom : l.length + l'.length ≤ cap
      · have hr2 := run_append_room (P := P) w t ty T i ht.und hi g l.length cap cur hgg a l'.length c (l'.flatMap cells) (by rw [h2.2.1]; exact hlen l' hl') hc h1' hroom
          (by rw [h2.2.1, hlen l' hl', hcs, ← Nat.add_mul]; exact Nat.mul_le_mul_right _ hroom)
        rw [hr2] at hr
        injection hr with e1 e2
        simp only [Sl.v, Value.slice.injEq, Option.some.injEq] at e1
        exact .inl ⟨_, hsa, by rw [← e1.1]⟩
      · have holds : ∀ j u, (l.flatMap cells)[j]? = some u → w.cell? ((⟨g, 0, none⟩ : Addr).add j) = some u := h.row.cells (g := g) (by rw [hv]; rfl)
        have hr2 := run_append_grow (P := P) w t ty T i z ht.und hi h2.1 ⟨g, 0, none⟩ l.length cap (l.flatMap cells) (by rw [h2.2.1]; exact h.row.1) holds a l'.length c (l'.flatMap cells) (by rw [h2.2.1]; exact hlen l' hl') hc
          (by omega) hbound (by rw [h2.2.2]; exact growslice_fits (by omega) hbytes)
        rw [hr2] at hr
        injection hr with e1 e2
        simp only [Sl.v, Value.slice.injEq, Option.some.injEq] at e1
        exact .inr (by rw [← e1.1])
/-- append of one element that lies in a new block of its own -/
theorem rn_app1 {bytes : Nat} {z : Value} {b : Nat} {x : α} {cs : List Value} {K : Sl → World → Prop} (ht : ElT P t T sz bytes z) (h : Own cells sz T B w s l) (hb : Blk w b T cs) (hcs : cs = cells x) (hx : (cells x).length = sz)
    (h1 : ∀ u ∈ cells x, u.oneCell' = true) (hbytes : (l.length + 1) * bytes ≤ 140737488355328) (hpos : 0 < bytes) (hB : B ≤ w.heap.size)
    (hk : ∀ s' w', Own cells sz T B w' s' (l ++ [x]) → Chg (own? s) w w' → (∀ b, own? s' b → own? s b ∨ b = w.heap.size) → K s' w') : Rn P Sl.v (Builtin.append_ #[t, t] ty #[Sl.v s, Sl.v ⟨some ⟨b, 0, none⟩, 1, 1⟩]) w K := by
  subst hcs
  obtain ⟨s', w', hr, ho, hg, hn⟩ := app_run (ty := ty) (c := 1) (a := ⟨b, 0, none⟩) (l' := [x]) (m := 1) ht h rfl (by simpa using hx) (fun j u hu => by
    have hu' : (cells x)[j]? = some u := by simpa using hu
    obtain ⟨hj, rfl⟩ := List.getElem?_eq_some_iff.1 hu'
    rw [blk_add, Nat.zero_add]; exact hb.cell hj) (by simpa using h1) (by simpa using hbytes) hpos hB
  exact ⟨s', w', hr, hk s' w' ho hg hn⟩
end
/-! ### Steps in the words of a transformer -/
section
variable {P : Program} {t : TypeId} {w w0 : World} {p : Addr} {α β : Type} {enc : α → Value} {x : α} {cs : List Value} {b T : Nat} {cells : β → List Value} {sz : Nat} {F : Nat → Prop} {s : Sl} {l : List β}
theorem At.get? (h : At w p cs) {i : Nat} {v : Value} (hi : cs[i]? = some v) : w.cell? (p.add i) = some v := by
  obtain ⟨hj, rfl⟩ := List.getElem?_eq_some_iff.1 hi
  exact h i hj
theorem rn_at {K : α → World → Prop} {i : Nat} (h : One P t) (hp : At w p cs) (hi : cs[i]? = some (enc x)) (hk : K x w) : Rn P enc (Instr.loadAt t (Ptr (p.add i))) w K := rn_ld1 h (hp.get? hi) hk
theorem rnl_at {K : α → Prop} {i : Nat} (h : One P t) (hp : At w0 p cs) (hi : cs[i]? = some (enc x)) (hk : K x) : RnL P enc (Instr.loadAt t (Ptr (p.add i))) w0 K := rnl_ld1 h (hp.get? hi) hk
theorem rn_at0 {K : α → World → Prop} (h : One P t) (hp : At w p [enc x]) (hk : K x w) : Rn P enc (Instr.loadAt t (Ptr p)) w K := rn_ld1 h hp.one hk
theorem rnl_at0 {K : α → Prop} (h : One P t) (hp : At w0 p [enc x]) (hk : K x) : RnL P enc (Instr.loadAt t (Ptr p)) w0 K := rnl_ld1 h hp.one hk
theorem rn_blk {K : α → World → Prop} {i : Nat} (h : One P t) (hb : Blk w b T cs) (hp : p = ⟨b, i, none⟩) (hi : cs[i]? = some (enc x)) (hk : K x w) : Rn P enc (Instr.loadAt t (Ptr p)) w K := by
  obtain ⟨hj, e⟩ := List.getElem?_eq_some_iff.1 hi
  subst hp; exact rn_ld1 h ((hb.cell hj).trans (by rw [e])) hk
theorem rnl_blk {K : α → Prop} {i : Nat} (h : One P t) (hb : Blk w0 b T cs) (hp : p = ⟨b, i, none⟩) (hi : cs[i]? = some (enc x)) (hk : K x) : RnL P enc (Instr.loadAt t (Ptr p)) w0 K := by
  obtain ⟨hj, e⟩ := List.getElem?_eq_some_iff.1 hi
  subst hp; exact rnl_ld1 h ((hb.cell hj).trans (by rw [e])) hk
theorem rn_blkN {K : α → World → Prop} {n : Nat} (h : Many P t n) (hb : Blk w b T cs) (hn : cs.length = n) (he : enc x = .agg cs.toArray) (hk : K x w) : Rn P enc (Instr.loadAt t (Ptr ⟨b, 0, none⟩)) w K := rn_ldN h hb.whole hn he hk
theorem Cal.mono {f : FuncId} {args : Array Value} {K K' : α → World → Prop} (h : Cal P enc f args w K) (hk : ∀ x w', K x w' → K' x w') : Cal P enc f args w K' :=
  Calls.mono h fun e w' ⟨x, he, hK⟩ => ⟨x, he, hk x w' hK⟩
theorem Lp.mk {σ : Type} {body : σ → World → (σ → World → Prop) → Prop} {s : σ} (I : σ → World → Prop) (m : σ → Nat) (h0 : I s w)
    (h : ∀ s w K, I s w → (∀ s' w', I s' w' → m s' < m s → K s' w') → body s w K) : Lp body s w :=
  ⟨I, fun s _ => m s, h0, fun s w hI => h s w _ hI fun _ _ h1 h2 => ⟨h1, h2⟩⟩
theorem wrap_in {n : Int} (h : -9223372036854775808 ≤ n ∧ n ≤ 9223372036854775807) : IntKind.i64.wrap n = n := IntWalk.i64_in n h
theorem Rd.wr (h : Rd cells sz F w s l) {k : Nat} (hk : k < l.length) : IntKind.i64.wrap ((k : Int) + 1) = ((k + 1 : Nat) : Int) := by
  have h1 := h.lim; have h2 := h.len; have h3 := h.cap
  unfold maxLen at h1
  rw [wrap_in ⟨by omega, by omega⟩]; rfl
end
end Go.Eng

/- More laws for the forms: slices cut, appends from any source, struct equality, calls of functions handed in. -/
namespace Go.Eng
open Go
set_option linter.unusedVariables false

section
variable {P : Program} {t e sz : Nat} {w : World} {s : Sl}
/-- s[lo:hi] -/
def Sl.cut (s : Sl) (lo hi sz : Nat) : Sl := ⟨if s.c = lo then s.a else s.a.map (·.add (lo * sz)), hi - lo, s.c - lo⟩
def optI : Option Nat → Option Value
  | none => none
  | some k => some (.int .i64 (k : Int))
theorem slice_run (ht : SlT P t e sz) {lo hi : Option Nat} (h1 : lo.getD 0 ≤ hi.getD s.n) (h2 : hi.getD s.n ≤ s.c) (w : World) :
    (Instr.sliceAt t (Sl.v s) (optI lo) (optI hi) none).run P w = .ok (Sl.v (s.cut (lo.getD 0) (hi.getD s.n) sz)) w := by
  obtain ⟨a, n, c⟩ := s
  have hsz := size_run ht.2 w
  have hb : ∀ (k y : Nat) (code : BoundsCode), k ≤ y → (Instr.sliceBound (.int .i64 (k : Int)) y code).run P w = .ok k w := by
    intro k y code hk
    simp only [Instr.sliceBound, asIntOf, Sem.run_bind, Sem.run_pure, Result.andThen_ok]
    rw [if_pos ⟨by omega, by omega⟩]
    simp
  simp only [Instr.sliceAt, Sl.v, Sem.run_bind, run_underlying ht.1, Result.andThen_ok, Instr.slice]
  have hbd : (Instr.sliceBounds true n c (optI lo) (optI hi) none).run P w = .ok (lo.getD 0, hi.getD n, c) w := by
    cases lo <;> cases hi <;> simp only [optI, Option.getD_none, Option.getD_some] at h1 h2 ⊢ <;>
      simp only [Instr.sliceBounds, Sem.run_bind, Sem.run_pure, Result.andThen_ok, hb _ _ _ h2, hb _ _ _ h1, if_true, Option.isSome_none, Bool.false_eq_true, if_false]
  simp only [hbd, Result.andThen_ok, hsz, Sem.run_pure, Sl.cut]
theorem rnp_slice (ht : SlT P t e sz) (lo hi : Option Nat) {vlo vhi : Option Value} (hlo : vlo = optI lo) (hhi : vhi = optI hi) (h1 : lo.getD 0 ≤ hi.getD s.n) (h2 : hi.getD s.n ≤ s.c) {K : Sl → Prop}
    (h : K (s.cut (lo.getD 0) (hi.getD s.n) sz)) : RnP P Sl.v (Instr.sliceAt t (Sl.v s) vlo vhi none) K := by
  subst hlo hhi; exact ⟨_, fun w => slice_run ht h1 h2 w, h⟩
theorem Sl.cut_zero {s : Sl} {n sz : Nat} : s.cut 0 n sz = ⟨s.a, n, s.c⟩ := by
  obtain ⟨a, m, c⟩ := s
  simp only [Sl.cut, Nat.sub_zero, Nat.zero_mul]
  congr 1
  split
  · rfl
  · cases a <;> rfl
variable {α : Type} {cells : α → List Value} {F : Nat → Prop} {l : List α}
theorem Rd.cut (h : Rd cells sz F w s l) {lo hi : Nat} (h1 : lo ≤ hi) (h2 : hi ≤ l.length) : Rd cells sz F w (s.cut lo hi sz) ((l.take hi).drop lo) := by
  have hl := h.len; have hc := h.cap; have hm := h.lim
  refine ⟨by simp [Sl.cut]; omega, by simp [Sl.cut]; omega, by simp [Sl.cut]; omega, fun k hk => ?_⟩
  have hk' : k + lo < hi := by simp at hk; omega
  obtain ⟨a, ha, hF, hat⟩ := h.el (lo + k) (by omega)
  have hne : ¬ s.c = lo := by omega
  refine ⟨a.add (lo * sz), by simp [Sl.cut, hne, ha], by rw [add_block]; exact hF, ?_⟩
  rw [add_add, ← Nat.add_mul]
  have : ((l.take hi).drop lo)[k] = l[lo + k] := by simp
  rw [this]; exact hat
/-- the first n of a slice that has as much room -/
theorem Rd.take (h : Rd cells sz F w s l) {n : Nat} (hn : n ≤ l.length) : Rd cells sz F w ⟨s.a, n, s.c⟩ (l.take n) := by
  have := h.cut (Nat.zero_le n) hn
  rw [Sl.cut_zero] at this
  simpa using this
/-- what lies in one list -/
theorem Rd.flat (h : Rd cells sz F w s l) (hsz : ∀ x ∈ l, (cells x).length = sz) (hne : l ≠ []) : ∃ a, s.a = some a ∧ ∀ j u, (l.flatMap cells)[j]? = some u → w.cell? (a.add j) = some u := by
  have h0 : 0 < l.length := List.length_pos_iff.2 hne
  obtain ⟨a, ha, hF, _⟩ := h.el 0 h0
  refine ⟨a, ha, ?_⟩
  have hat : ∀ k (hk : k < l.length), At w (a.add (k * sz)) (cells l[k]) := fun k hk => by
    obtain ⟨a', ha', _, h2⟩ := h.el k hk
    rw [ha] at ha'; cases ha'; exact h2
  clear hF ha hne
  have key : ∀ (l : List α) (b : Addr), (∀ x ∈ l, (cells x).length = sz) → (∀ k (hk : k < l.length), At w (b.add (k * sz)) (cells l[k])) → ∀ j u, (l.flatMap cells)[j]? = some u → w.cell? (b.add j) = some u := by
    intro l
    induction l with
    | nil => intro b _ _ j u hu; simp at hu
    | cons x l ih =>
      intro b hsz hat j u hu
      have hx := hsz x (by simp)
      rw [List.flatMap_cons] at hu
      by_cases hj : j < (cells x).length
      · rw [List.getElem?_append_left hj] at hu
        have := hat 0 (by simp)
        simp only [Nat.zero_mul, List.getElem_cons_zero] at this
        have h2 := this.get? hu
        rw [add_add, Nat.zero_add] at h2; exact h2
      · rw [List.getElem?_append_right (by omega)] at hu
        have := ih (b.add sz) (fun y hy => hsz y (by simp [hy])) (fun k hk => by
          have := hat (k + 1) (by simpa using hk)
          simp only [List.getElem_cons_succ] at this
          rw [add_add, show sz + k * sz = (k + 1) * sz by rw [Nat.add_mul]; omega]; exact this) _ u hu
        rw [add_add, show sz + (j - (cells x).length) = j by omega] at this
        exact this
  exact key l a hsz hat
variable {T B bytes ty : Nat} {z : Value}
/-- append of what another slice holds, whatever it is -/
theorem rn_app {s' : Sl} {l' : List α} {K : Sl → World → Prop} (ht : ElT P t T sz bytes z) (h : Own cells sz T B w s l) (h' : Rd cells sz F w s' l') (hsz : ∀ x, (cells x).length = sz)
    (h1 : ∀ x, ∀ u ∈ cells x, u.oneCell' = true) (hbytes : (l.length + l'.length) * bytes ≤ 140737488355328) (hpos : 0 < bytes) (hB : B ≤ w.heap.size)
    (hk : ∀ s'' w', Own cells sz T B w' s'' (l ++ l') → Chg (own? s) w w' → (∀ b, own? s'' b → own? s b ∨ b = w.heap.size) → K s'' w') : Rn P Sl.v (Builtin.append_ #[t, t] ty #[Sl.v s, Sl.v s']) w K := by
  by_cases hne : l' = []
  · subst hne
    have hn : s'.n = 0 := h'.len
    obtain ⟨a', n', c'⟩ := s'
    simp only at hn
    subst hn
    refine ⟨s, w, ?_, hk s w (by simpa using h) (Chg.refl _ _) (fun b hb => .inl hb)⟩
    obtain ⟨i, hi, h2⟩ : ∃ i, P.info? T = some i ∧ (i.zero, i.size, i.bytes) = (some z, sz, bytes) := by
      have := ht.inf
      cases hi : P.info? T with
      | none => rw [hi] at this; cases this
      | some i => rw [hi] at this; exact ⟨i, rfl, by simpa using this⟩
    have hcells : (Builtin.firstCells i.size 0 (Sl.v ⟨a', 0, c'⟩)).run P w = .ok #[] w := by
      cases a' with
      | none => simp [Builtin.firstCells, Sl.v]
      | some a' => simp [Builtin.firstCells, Sl.v, loadCells, loadCellsFrom]
    have hcap : s.n ≤ s.c := (h.rd (F := fun _ => True) (fun _ _ => trivial)).cap
    obtain ⟨a, n, c⟩ := s
    simp only at hcap
    simp only [Sl.v] at hcells
    cases a with
    | none => simp [Builtin.append_, run_underlying ht.und, sizeOf, typeInfo, hi, prog_run, Builtin.lenOf, Sl.v, hcap, hcells]
    | some a => simp [Builtin.append_, run_underlying ht.und, sizeOf, typeInfo, hi, prog_run, Builtin.lenOf, Sl.v, hcap, hcells, storeCells]
  · obtain ⟨a, ha, hc⟩ := h'.flat (fun x _ => hsz x) hne
    obtain ⟨s'', w', hr, ho, hg, hn⟩ := app_run (ty := ty) (c := s'.c) (a := a) (l' := l') (m := s'.n) ht h h'.len (fun x _ => hsz x) hc (fun x _ => h1 x) hbytes hpos hB
    obtain ⟨a', n', c'⟩ := s'
    simp only at ha
    subst ha
    exact ⟨s'', w', hr, hk s'' w' ho hg hn⟩
/-- a slice that was made empty in a block of its own (a literal without elements) -/
theorem Own.empty {b : Nat} (hb : Blk w b T []) (hB : B ≤ b) : Own cells sz T B w ⟨some ⟨b, 0, none⟩, 0, 0⟩ ([] : List α) :=
  ⟨⟨by simp, .inr ⟨b, 0, #[], rfl, hB, hb, Nat.le_refl _, Nat.zero_le _, by simp, by simp⟩⟩, fun x hx => by cases hx⟩
/-- append of what another slice holds to an empty literal: a copy -/
theorem rn_copy {b : Nat} {s' : Sl} {l' : List α} {K : Sl → World → Prop} (ht : ElT P t T sz bytes z) (hb : Blk w b T []) (h' : Rd cells sz F w s' l') (hsz : ∀ x, (cells x).length = sz)
    (h1 : ∀ x, ∀ u ∈ cells x, u.oneCell' = true) (hbytes : l'.length * bytes ≤ 140737488355328) (hpos : 0 < bytes)
    (hk : ∀ x w', Chg (fun c => c = b) w w' → Rd cells sz (fun c => (c = b ∨ c = w.heap.size) ∧ c < w'.heap.size) w' x l' → K x w') : Rn P Sl.v (Builtin.append_ #[t, t] ty #[Sl.v ⟨some ⟨b, 0, none⟩, 0, 0⟩, Sl.v s']) w K :=
  rn_app ht (Own.empty hb (Nat.le_refl _)) h' hsz h1 (by simpa using hbytes) hpos (Nat.le_of_lt hb.lt) fun x w' ho hc hn =>
    hk x w' (hc.mono fun c _ hc => by obtain ⟨a, ha, rfl⟩ := hc; cases ha; rfl) (ho.rd fun c hc => ⟨by
      rcases hn c hc with ⟨a, ha, rfl⟩ | h
      · cases ha; exact .inl rfl
      · exact .inr h, (ho.ge hc).2⟩)
end

section
variable {P : Program} {t : TypeId} {w : World} {cs : Array Value} {o : Nat} {v : Value}
theorem part_one (h : One P t) (hv : cs[o]? = some v) : (part t cs o).run P w = .ok v w := by
  obtain ⟨d, hu, hd⟩ := h
  have h1 : (isAgg t).run P w = .ok false w := by
    unfold isAgg
    simp only [Sem.run_bind, run_underlying hu, Result.andThen_ok]
    cases d <;> first | rfl | cases hd
  simp only [part, Sem.run_bind, h1, Result.andThen_ok, Bool.false_eq_true, if_false, hv, Sem.run_pure]
end
theorem beq_bytes (a b : ByteArray) : (a == b) = decide (a = b) := by rw [beq_toListBytes, toList_beq]
section
variable {P : Program} {w : World} {α : Type} {enc : α → Value} {x : α}
/-- what answers in whatever world -/
theorem RnP.of {s : Sem Value} {K : α → Prop} (h : ∀ w, s.run P w = .ok (enc x) w) (hk : K x) : RnP P enc s K := ⟨x, h, hk⟩
end
end Go.Eng

/- Memory: maps of our own, as lists of pairs with keys apart. -/
namespace Go.Eng
open Go
set_option linter.unusedVariables false
set_option linter.unusedSectionVars false

section
variable {κ ν : Type} [DecidableEq κ]
/-- what a map answers for a key -/
def mget : List (κ × ν) → κ → Option ν
  | [], _ => none
  | x :: l, k => if x.1 = k then some x.2 else mget l k
/-- a map with one key laid anew -/
def mput : List (κ × ν) → κ → ν → List (κ × ν)
  | [], k, v => [(k, v)]
  | x :: l, k, v => if x.1 = k then (k, v) :: l else x :: mput l k v
/-- a map without a key -/
def mdel : List (κ × ν) → κ → List (κ × ν)
  | [], _ => []
  | x :: l, k => if x.1 = k then l else x :: mdel l k
def mkeys (l : List (κ × ν)) : List κ := l.map (·.1)
theorem mget_put (l : List (κ × ν)) (k k' : κ) (v : ν) : mget (mput l k v) k' = if k = k' then some v else mget l k' := by
  induction l with
  | nil => simp [mput, mget]
  | cons x l ih =>
    unfold mput
    by_cases h : x.1 = k
    · rw [if_pos h]; simp only [mget]; subst h
      by_cases h' : x.1 = k' <;> simp [h']
    · rw [if_neg h]; simp only [mget, ih]
      by_cases h' : x.1 = k'
      · subst h'; rw [if_pos rfl, if_pos rfl, if_neg (fun e => h e.symm)]
      · rw [if_neg h', if_neg h']
theorem mget_none {l : List (κ × ν)} {k : κ} : mget l k = none ↔ k ∉ mkeys l := by
  induction l with
  | nil => simp [mget, mkeys]
  | cons x l ih =>
    simp only [mget, mkeys, List.map_cons, List.mem_cons, not_or] at ih ⊢
    by_cases h : x.1 = k
    · simp [h]
    · rw [if_neg h, ih]; constructor
      · exact fun h' => ⟨fun e => h e.symm, h'⟩
      · exact fun h' => h'.2
theorem mget_mem {l : List (κ × ν)} {k : κ} {v : ν} (h : mget l k = some v) : (k, v) ∈ l := by
  induction l with
  | nil => cases h
  | cons x l ih =>
    unfold mget at h
    by_cases hk : x.1 = k
    · rw [if_pos hk] at h; cases h; subst hk; simp
    · rw [if_neg hk] at h; exact List.mem_cons_of_mem _ (ih h)
theorem mget_of_mem {l : List (κ × ν)} (hn : (mkeys l).Nodup) {k : κ} {v : ν} (h : (k, v) ∈ l) : mget l k = some v := by
  induction l with
  | nil => cases h
  | cons x l ih =>
    simp only [mkeys, List.map_cons, List.nodup_cons] at hn
    unfold mget
    rcases List.mem_cons.1 h with rfl | h
    · simp
    · rw [if_neg (fun e => hn.1 (by rw [e]; exact List.mem_map.2 ⟨_, h, rfl⟩))]; exact ih hn.2 h
theorem mem_mkeys_put {l : List (κ × ν)} {k k' : κ} {v : ν} : k' ∈ mkeys (mput l k v) ↔ k' = k ∨ k' ∈ mkeys l := by
  have h1 := mget_none (l := mput l k v) (k := k')
  have h2 := mget_none (l := l) (k := k')
  rw [mget_put] at h1
  by_cases h : k = k'
  · subst h; simp at h1; simp [h1]
  · rw [if_neg h, h2] at h1
    constructor
    · intro h3; exact .inr (by by_cases h4 : k' ∈ mkeys l; exact h4; exact absurd h3 (h1.1 h4))
    · rintro (rfl | h3)
      · exact absurd rfl h
      · by_cases h4 : k' ∈ mkeys (mput l k v); exact h4; exact absurd h3 (h1.2 h4)
theorem mput_nodup {l : List (κ × ν)} (hn : (mkeys l).Nodup) (k : κ) (v : ν) : (mkeys (mput l k v)).Nodup := by
  induction l with
  | nil => simp [mput, mkeys]
  | cons x l ih =>
    simp only [mkeys, List.map_cons, List.nodup_cons] at hn
    unfold mput
    by_cases h : x.1 = k
    · rw [if_pos h]; simp only [mkeys, List.map_cons, List.nodup_cons, ← h]; exact hn
    · rw [if_neg h]; simp only [mkeys, List.map_cons, List.nodup_cons]
      refine ⟨fun h' => ?_, ih hn.2⟩
      rcases mem_mkeys_put.1 h' with h' | h'
      · exact h h'
      · exact hn.1 h'
theorem mdel_sub (l : List (κ × ν)) (k : κ) : (mdel l k).Sublist l := by
  induction l with
  | nil => exact .slnil
  | cons x l ih =>
    unfold mdel
    by_cases h : x.1 = k
    · rw [if_pos h]; exact List.sublist_cons_self _ _
    · rw [if_neg h]; exact ih.cons_cons _
theorem mget_del {l : List (κ × ν)} (hn : (mkeys l).Nodup) (k k' : κ) : mget (mdel l k) k' = if k = k' then none else mget l k' := by
  induction l with
  | nil => simp [mdel, mget]
  | cons x l ih =>
    simp only [mkeys, List.map_cons, List.nodup_cons] at hn
    unfold mdel
    by_cases h : x.1 = k
    · rw [if_pos h]
      by_cases h' : k = k'
      · subst h'; rw [if_pos rfl]; exact mget_none.2 (by rw [← h]; exact hn.1)
      · rw [if_neg h']; conv => rhs; unfold mget
        rw [if_neg (by rw [h]; exact h')]
    · rw [if_neg h]; simp only [mget, ih hn.2]
      by_cases h' : x.1 = k'
      · subst h'; rw [if_pos rfl, if_pos rfl, if_neg (fun e => h e.symm)]
      · rw [if_neg h', if_neg h']

/-- the entry of a key among a map's entries -/
def look : κ → List κ → List MapEntry → Nat → Option (Nat × Value)
  | k, k' :: ks, e :: es, i => if k' = k then some (i, e.val) else look k ks es (i + 1)
  | _, _, _, _ => none
end

/-! ### What a type of keys does -/
structure KeyT (P : Program) {κ : Type} [DecidableEq κ] (kt : TypeId) (ek : κ → Value) : Prop where
  chk : ∀ (e : Bool) (k : κ) (w : World), (Instr.checkKey e 10000 kt (ek k)).run P w = .ok () w
  find : ∀ (k : κ) (ks : List κ) (es : List MapEntry) (w : World), es.map (·.key) = ks.map ek → (Instr.findKey kt (ek k) es).run P w = .ok (look k ks es 0) w
  same : ∀ k : κ, Instr.sameBits 10000 (ek k) (ek k) = true
  inj : ∀ a b : κ, ek a = ek b → a = b
structure MapT (P : Program) {κ ν : Type} [DecidableEq κ] (mt kt et : TypeId) (ek : κ → Value) (ev : ν → Value) (z : ν) : Prop where
  und : P.underlying mt = some (.map kt et)
  key : KeyT P kt ek
  zero : (P.info? et).map (·.zero) = some (some (ev z))
section
variable {P : Program}
theorem findNow_string (k : ByteArray) : ∀ (ks : List ByteArray) (es : List MapEntry) (i : Nat), es.map (·.key) = ks.map Value.string → Instr.findNow .string (.string k) es i = some (look k ks es i)
  | [], [], i, _ => rfl
  | k' :: ks, e :: es, i, h => by
    simp only [List.map_cons, List.cons.injEq] at h
    unfold Instr.findNow look
    rw [h.1]
    simp only [Instr.sameNow]
    by_cases hk : k' = k
    · subst hk; simp [beq_bytes]
    · rw [if_neg hk, beq_bytes, decide_eq_false (fun e => hk e.symm)]
      exact findNow_string k ks es (i + 1) h.2
  | [], e :: es, i, h => by cases h
  | k' :: ks, [], i, h => by cases h
theorem sameBits_string (n : Nat) (k : ByteArray) : Instr.sameBits n (.string k) (.string k) = true := by cases n <;> simp [Instr.sameBits, beq_bytes]
theorem checkKey_string {kt : TypeId} (h : P.underlying kt = some .string) (e : Bool) (k : ByteArray) (n : Nat) (w : World) : (Instr.checkKey e (n + 1) kt (.string k)).run P w = .ok () w := by simp [Instr.checkKey, run_underlying h]
theorem keyT_string {kt : TypeId} (h : P.underlying kt = some .string) : KeyT P kt Value.string where
  chk e k w := checkKey_string h e k 9999 w
  find k ks es w he := by simp [Instr.findKey, run_underlying h, findNow_string k ks es 0 he]
  same k := sameBits_string _ k
  inj a b h := by cases h; rfl
/-- keys that are compared one by one -/
theorem findAsking_run {κ : Type} [DecidableEq κ] {kt : TypeId} {ek : κ → Value} (heq : ∀ a b w, (Op.equal kt (ek a) (ek b)).run P w = .ok (decide (a = b)) w) (k : κ) (w : World) :
    ∀ (ks : List κ) (es : List MapEntry) (i : Nat), es.map (·.key) = ks.map ek → (Instr.findAsking kt (ek k) es i).run P w = .ok (look k ks es i) w
  | [], [], i, _ => rfl
  | k' :: ks, e :: es, i, h => by
    simp only [List.map_cons, List.cons.injEq] at h
    unfold Instr.findAsking look
    rw [h.1, Sem.run_bind, heq, Result.andThen_ok]
    by_cases hk : k' = k
    · subst hk; simp
    · rw [if_neg hk, decide_eq_false (fun e => hk e.symm), if_neg (by simp)]
      exact findAsking_run heq k w ks es (i + 1) h.2
  | [], e :: es, i, h => by cases h
  | k' :: ks, [], i, h => by cases h
end

/-! ### A map's block -/
section
variable {κ ν : Type} [DecidableEq κ] {ek : κ → Value} {ev : ν → Value} {P : Program} {S : Nat → Prop} {w w' : World} {b mt kt et : Nat} {l : List (κ × ν)} {z : ν}
/-- the entries of a map, as a list of pairs -/
structure Ents (ek : κ → Value) (ev : ν → Value) (es : List MapEntry) (clock : Nat) (l : List (κ × ν)) : Prop where
  eq : es.map (fun e => (e.key, e.val)) = l.map (fun x => (ek x.1, ev x.2))
  born : ∀ e ∈ es, e.born < clock
  nodup : (es.map (·.born)).Nodup
def Mp (ek : κ → Value) (ev : ν → Value) (w : World) (b : Nat) (l : List (κ × ν)) : Prop :=
  (mkeys l).Nodup ∧ ∃ es clock, w.heap[b]? = some (.map es clock) ∧ Ents ek ev es.toList clock l
theorem Mp.keys (h : Mp ek ev w b l) : (mkeys l).Nodup := h.1
theorem Mp.lt (h : Mp ek ev w b l) : b < w.heap.size := by obtain ⟨_, es, c, hb, _⟩ := h; exact (Array.getElem?_eq_some_iff.1 hb).1
theorem Mp.chg (h : Mp ek ev w b l) (k : Chg S w w') (hs : ¬ S b) : Mp ek ev w' b l := by
  have hl := h.lt
  obtain ⟨hn, es, c, hb, he⟩ := h
  exact ⟨hn, es, c, (k.block b hl hs).trans hb, he⟩
theorem Mp.ext (h : Mp ek ev w b l) (k : Ext w w') : Mp ek ev w' b l := h.chg (k.chg (fun _ => False)) (fun h => h)
theorem Mp.new (hb : w.heap[b]? = some (.map #[] 0)) : Mp ek ev w b ([] : List (κ × ν)) := ⟨List.nodup_nil, #[], 0, hb, rfl, by simp, by simp⟩
theorem Ents.keys {es : List MapEntry} {c : Nat} (h : Ents ek ev es c l) : es.map (·.key) = (mkeys l).map ek := by
  have := congrArg (List.map Prod.fst) h.eq
  simpa [mkeys, List.map_map, Function.comp_def] using this
/-- where a key is found: nowhere, or at a place -/
theorem look_spec (k : κ) : ∀ (es : List MapEntry) (l : List (κ × ν)) (i : Nat), es.map (fun e => (e.key, e.val)) = l.map (fun x => (ek x.1, ev x.2)) →
    (mget l k = none ∧ look k (mkeys l) es i = none ∧ mdel l k = l ∧ ∀ v, mput l k v = l ++ [(k, v)]) ∨
    ∃ j v e, mget l k = some v ∧ look k (mkeys l) es i = some (i + j, ev v) ∧ es[j]? = some e ∧ e.key = ek k ∧ (∀ v', mput l k v' = l.set j (k, v')) ∧ mdel l k = l.eraseIdx j
  | [], [], i, _ => .inl ⟨rfl, rfl, rfl, fun _ => rfl⟩
  | e :: es, x :: l, i, h => by
    simp only [List.map_cons, List.cons.injEq, Prod.mk.injEq] at h
    by_cases hk : x.1 = k
    · right
      refine ⟨0, x.2, e, by simp [mget, hk], by simp [look, mkeys, hk, h.1.2], rfl, by rw [h.1.1, hk], fun v' => by simp [mput, hk], by simp [mdel, hk]⟩
    · rcases look_spec k es l (i + 1) h.2 with ⟨h1, h2, h3, h4⟩ | ⟨j, v, e', h1, h2, h3, h4, h5, h6⟩
      · left
        exact ⟨by simp [mget, hk, h1], by simpa [look, mkeys, hk] using h2, by simp [mdel, hk, h3], fun v => by simp [mput, hk, h4]⟩
      · right
        refine ⟨j + 1, v, e', by simp [mget, hk, h1], ?_, by simpa using h3, h4, fun v' => by simp [mput, hk, h5], by simp [mdel, hk, h6]⟩
        have : look k (mkeys (x :: l)) (e :: es) i = look k (mkeys l) es (i + 1) := by simp [look, mkeys, hk]
        rw [this, h2]; congr 2; omega
  | [], x :: l, i, h => by cases h
  | e :: es, [], i, h => by cases h
theorem getMap_run {es : Array MapEntry} {c : Nat} (hb : w.heap[b]? = some (.map es c)) : (getObj b).run P w = .ok (.map es c) w := by simp [getObj, Sem.run, hb]
theorem zero_run {z : Value} (hz : (P.info? et).map (·.zero) = some (some z)) (w : World) : (zeroValue et).run P w = .ok z w := by
  cases hi : P.info? et with
  | none => rw [hi] at hz; cases hz
  | some i =>
    rw [hi] at hz
    have : i.zero = some z := by simpa using hz
    simp [zeroValue, typeInfo, prog_run, hi, this]
theorem lookup_run (ht : MapT P mt kt et ek ev z) (h : Mp ek ev w b l) (k : κ) : (Instr.lookup mt (.map (some b)) (ek k) false).run P w = .ok (ev ((mget l k).getD z)) w := by
  obtain ⟨_, es, c, hb, he⟩ := h
  have hf := ht.key.find k (mkeys l) es.toList w he.keys
  simp only [Instr.lookup, Sem.run_bind, run_underlying ht.und, Result.andThen_ok, getMap_run hb, Sem.run_pure, ht.key.chk, hf]
  rcases look_spec k es.toList l 0 he.eq with ⟨h1, h2, _⟩ | ⟨j, v, e, h1, h2, _⟩
  · rw [h2]; simp [h1, zero_run ht.zero]
  · rw [h2]; simp [h1]
theorem lookup_run2 (ht : MapT P mt kt et ek ev z) (h : Mp ek ev w b l) (k : κ) : (Instr.lookup mt (.map (some b)) (ek k) true).run P w = .ok (.tuple #[ev ((mget l k).getD z), .bool (mget l k).isSome]) w := by
  obtain ⟨_, es, c, hb, he⟩ := h
  have hf := ht.key.find k (mkeys l) es.toList w he.keys
  simp only [Instr.lookup, Sem.run_bind, run_underlying ht.und, Result.andThen_ok, getMap_run hb, Sem.run_pure, ht.key.chk, hf]
  rcases look_spec k es.toList l 0 he.eq with ⟨h1, h2, _⟩ | ⟨j, v, e, h1, h2, _⟩
  · rw [h2]; simp [h1, zero_run ht.zero]
  · rw [h2]; simp [h1]
theorem setMap_run {es : Array MapEntry} {c : Nat} (hb : w.heap[b]? = some (.map es c)) (es' : Array MapEntry) (c' : Nat) (hs : c ≤ c') :
    ∃ w', (setObj b (.map es' c')).run P w = .ok () w' ∧ Chg (fun x => x = b) w w' ∧ w'.heap[b]? = some (.map es' c') ∧ w'.heap.size = w.heap.size := by
  have hl := (Array.getElem?_eq_some_iff.1 hb).1
  refine ⟨ChangeMaps.setBlock w b (.map es' c'), by simp [setObj, Sem.run, hb, ChangeMaps.setBlock], ⟨rfl, rfl, rfl, by simp [ChangeMaps.setBlock], fun k hk hn => ?_⟩, ?_, by simp [ChangeMaps.setBlock]⟩
  · simp [ChangeMaps.setBlock, Array.getElem?_setIfInBounds, Ne.symm hn]
  · simp [ChangeMaps.setBlock, Array.getElem?_setIfInBounds, hl]
theorem Ents.size {es : List MapEntry} {c : Nat} (h : Ents ek ev es c l) : es.length = l.length := by have := congrArg List.length h.eq; simpa using this
theorem Ents.set {es : List MapEntry} {c j : Nat} (h : Ents ek ev es c l) {e : MapEntry} (he : es[j]? = some e) {k : κ} (hk : e.key = ek k) (v : ν) :
    Ents ek ev (es.set j { e with key := ek k, val := ev v }) c (l.set j (k, v)) := by
  refine ⟨?_, fun x hx => ?_, ?_⟩
  · rw [List.map_set, List.map_set, h.eq]
  · rcases List.mem_or_eq_of_mem_set hx with hx | rfl
    · exact h.born x hx
    · exact h.born e (List.mem_of_getElem? he)
  · rw [List.map_set]
    have : (es.map (·.born)).set j e.born = es.map (·.born) := by
      apply List.ext_getElem? ; intro i
      by_cases hi : j = i
      · subst hi
        have hl : j < es.length := (List.getElem?_eq_some_iff.1 he).1
        rw [List.getElem?_set_self (by simpa using hl)]; simp [he]
      · rw [List.getElem?_set_ne hi]
    rw [this]; exact h.nodup
theorem mapUpdate_run (ht : MapT P mt kt et ek ev z) (h : Mp ek ev w b l) (k : κ) (v : ν) :
    ∃ w', (Instr.mapUpdate mt (.map (some b)) (ek k) (ev v)).run P w = .ok () w' ∧ Chg (fun x => x = b) w w' ∧ Mp ek ev w' b (mput l k v) ∧ w'.heap.size = w.heap.size := by
  obtain ⟨hn, es, c, hb, he⟩ := h
  have hf := ht.key.find k (mkeys l) es.toList w he.keys
  simp only [Instr.mapUpdate, Sem.run_bind, run_underlying ht.und, Result.andThen_ok, getMap_run hb, ht.key.chk, hf]
  rcases look_spec k es.toList l 0 he.eq with ⟨h1, h2, h3, h4⟩ | ⟨j, v0, e, h1, h2, h3, h4, h5, h6⟩
  · obtain ⟨w', hr, hc, hb', hs⟩ := setMap_run (P := P) hb (es.push { key := ek k, val := ev v, born := c }) (c + 1) (by omega)
    refine ⟨w', by rw [h2]; simpa using hr, hc, ⟨mput_nodup hn k v, _, _, hb', ?_⟩, hs⟩
    rw [h4, Array.toList_push]
    refine ⟨by simp [he.eq], fun x hx => ?_, ?_⟩
    · rcases List.mem_append.1 hx with hx | hx
      · have := he.born x hx; omega
      · simp only [List.mem_singleton] at hx; subst hx; exact Nat.lt_succ_self c
    · rw [List.map_append, List.nodup_append]
      refine ⟨he.nodup, by simp, fun x hx y hy => ?_⟩
      simp only [List.map_cons, List.map_nil, List.mem_singleton] at hy
      obtain ⟨e, he', rfl⟩ := List.mem_map.1 hx
      have := he.born e he'; omega
  · obtain ⟨w', hr, hc, hb', hs⟩ := setMap_run (P := P) hb (es.modify j fun e => { e with key := ek k, val := ev v }) c (Nat.le_refl _)
    have hkey : (((es[j]?).map (·.key)).getD (ek k)) = ek k := by
      rw [← Array.getElem?_toList, h3]; exact h4
    refine ⟨w', ?_, hc, ⟨mput_nodup hn k v, _, _, hb', ?_⟩, hs⟩
    · rw [h2]
      simp only [Nat.zero_add, hkey, Instr.keyThatStays, ht.key.same, if_true, Sem.run_bind, Sem.run_pure, Result.andThen_ok]
      exact hr
    · rw [h5]
      have : (es.modify j fun e => { e with key := ek k, val := ev v }).toList = es.toList.set j { e with key := ek k, val := ev v } := by
        rw [Array.toList_modify]
        apply List.ext_getElem?; intro i
        have hl : j < es.toList.length := (List.getElem?_eq_some_iff.1 h3).1
        rw [List.getElem?_modify]
        by_cases hi : j = i
        · subst hi; rw [h3, List.getElem?_set_self hl]; simp
        · rw [List.getElem?_set_ne hi]; simp [hi]
      rw [this]
      exact he.set h3 h4 v
theorem map_erase {α β : Type} (f : α → β) : ∀ (l : List α) (j : Nat), (l.eraseIdx j).map f = (l.map f).eraseIdx j
  | [], _ => rfl
  | x :: l, 0 => rfl
  | x :: l, j + 1 => by simp [map_erase f l j]
theorem delete_run {ty : TypeId} (ht : MapT P mt kt et ek ev z) (h : Mp ek ev w b l) (k : κ) :
    ∃ w', (Builtin.delete_ #[mt, kt] ty #[.map (some b), ek k]).run P w = .ok (.tuple #[]) w' ∧ Chg (fun x => x = b) w w' ∧ Mp ek ev w' b (mdel l k) ∧ w'.heap.size = w.heap.size := by
  obtain ⟨hn, es, c, hb, he⟩ := h
  have hf := ht.key.find k (mkeys l) es.toList w he.keys
  have hnd : (mkeys (mdel l k)).Nodup := (List.Sublist.map _ (mdel_sub l k)).nodup hn
  simp only [Builtin.delete_, List.getElem?_toArray, List.getElem?_cons_zero, List.getElem?_cons_succ, Sem.run_bind, run_underlying ht.und, Result.andThen_ok, getMap_run hb, ht.key.chk, hf]
  rcases look_spec k es.toList l 0 he.eq with ⟨h1, h2, h3, h4⟩ | ⟨j, v0, e, h1, h2, h3, h4, h5, h6⟩
  · obtain ⟨w', hr, hc, hb', hs⟩ := setMap_run (P := P) hb es c (Nat.le_refl _)
    refine ⟨w', by rw [h2]; simp [hr, Sem.run_bind], hc, ⟨hnd, _, _, hb', ?_⟩, hs⟩
    rw [h3]; exact he
  · obtain ⟨w', hr, hc, hb', hs⟩ := setMap_run (P := P) hb (es.eraseIdxIfInBounds j) c (Nat.le_refl _)
    refine ⟨w', by rw [h2]; simp [hr, Sem.run_bind], hc, ⟨hnd, _, _, hb', ?_⟩, hs⟩
    have : (es.eraseIdxIfInBounds j).toList = es.toList.eraseIdx j := by simp
    rw [h6, this]
    refine ⟨by rw [map_erase, map_erase, he.eq], fun x hx => he.born x (List.mem_of_mem_eraseIdx hx), ?_⟩
    rw [map_erase]; exact (List.eraseIdx_sublist _ _).nodup he.nodup
theorem len_run {ty : TypeId} (ht : MapT P mt kt et ek ev z) (h : Mp ek ev w b l) : (Builtin.len_ #[mt] ty #[.map (some b)]).run P w = .ok (.int .i64 (l.length : Int)) w := by
  obtain ⟨hn, es, c, hb, he⟩ := h
  have := he.size
  simp only [Array.length_toList] at this
  simp [Builtin.len_, run_underlying ht.und, Sem.run_bind, getMap_run hb, this, goInt]
/-! ### A map gone through -/
/-- the iterator in block r goes through the map of block b, which stands; what is left to come -/
def Rg (ek : κ → Value) (ev : ν → Value) (w : World) (r b : Nat) (left : List (κ × ν)) : Prop :=
  ∃ es clock since seen c0, w.heap[r]? = some (.mapIter (some b) since seen c0) ∧ w.heap[b]? = some (.map es clock) ∧ (∀ x ∈ es.toList, x.born < since) ∧ since ≤ c0 ∧ since ≤ clock ∧ (es.toList.map (·.born)).Nodup ∧
    (leftOf es seen).toList.map (fun e => (e.key, e.val)) = left.map (fun x => (ek x.1, ev x.2))
theorem Rg.lt {r : Nat} (h : Rg ek ev w r b l) : r < w.heap.size ∧ b < w.heap.size := by
  obtain ⟨es, c, s, seen, c0, hr, hb, _⟩ := h; exact ⟨(Array.getElem?_eq_some_iff.1 hr).1, (Array.getElem?_eq_some_iff.1 hb).1⟩
theorem Rg.chg {r : Nat} (h : Rg ek ev w r b l) (k : Chg S w w') (h1 : ¬ S r) (h2 : ¬ S b) : Rg ek ev w' r b l := by
  have hl := h.lt
  obtain ⟨es, c, s, seen, c0, hr, hb, h'⟩ := h
  exact ⟨es, c, s, seen, c0, (k.block r hl.1 h1).trans hr, (k.block b hl.2 h2).trans hb, h'⟩
theorem Rg.ext {r : Nat} (h : Rg ek ev w r b l) (k : Ext w w') : Rg ek ev w' r b l := h.chg (k.chg (fun _ => False)) (fun h => h) (fun h => h)
theorem range_run (ht : MapT P mt kt et ek ev z) (h : Mp ek ev w b l) :
    ∃ r w', (Instr.range mt (.map (some b))).run P w = .ok (.pointer (some ⟨r, 0, none⟩)) w' ∧ Ext w w' ∧ r = w.heap.size ∧ Rg ek ev w' r b l := by
  have hlt := h.lt
  obtain ⟨hn, es, c, hb, he⟩ := h
  refine ⟨w.heap.size, w.alloc (.mapIter (some b) c #[] c), ?_, Ext.alloc _ _, rfl, es, c, c, #[], c, heap_alloc_new w _, ?_, he.born, Nat.le_refl _, Nat.le_refl _, he.nodup, ?_⟩
  · simp only [Instr.range, Sem.run_bind, run_underlying ht.und, Result.andThen_ok, getMap_run hb, Sem.run_pure]; rfl
  · exact ((Ext.alloc w _).block b hlt).trans hb
  · rw [← he.eq]; congr 1
    simp [leftOf]
/-! ### The forms -/
section
variable {K : ν → World → Prop} {k : κ} {v : ν}
theorem rn_get (ht : MapT P mt kt et ek ev z) (h : Mp ek ev w b l) (hk : K ((mget l k).getD z) w) : Rn P ev (Instr.lookup mt (.map (some b)) (ek k) false) w K := ⟨_, _, lookup_run ht h k, hk⟩

theorem rn_get2 {enc : ν × Bool → Value} {K : ν × Bool → World → Prop} (he : ∀ x, enc x = .tuple #[ev x.1, .bool x.2]) (ht : MapT P mt kt et ek ev z) (h : Mp ek ev w b l) (hk : K ((mget l k).getD z, (mget l k).isSome) w) :
    Rn P enc (Instr.lookup mt (.map (some b)) (ek k) true) w K := ⟨_, _, (lookup_run2 ht h k).trans (by rw [he]), hk⟩
theorem rnu_put {K : World → Prop} (ht : MapT P mt kt et ek ev z) (h : Mp ek ev w b l) (hk : ∀ w', Chg (fun x => x = b) w w' → Mp ek ev w' b (mput l k v) → w'.heap.size = w.heap.size → K w') :
    RnU P (Instr.mapUpdate mt (.map (some b)) (ek k) (ev v)) w K := let ⟨w', h1, h2, h3, h4⟩ := mapUpdate_run ht h k v; ⟨w', h1, hk w' h2 h3 h4⟩
theorem rn_del {K : Unit → World → Prop} {ty : TypeId} (ht : MapT P mt kt et ek ev z) (h : Mp ek ev w b l) (hk : ∀ w', Chg (fun x => x = b) w w' → Mp ek ev w' b (mdel l k) → w'.heap.size = w.heap.size → K () w') :
    Rn P (fun _ : Unit => Value.tuple #[]) (Builtin.delete_ #[mt, kt] ty #[.map (some b), ek k]) w K := let ⟨w', h1, h2, h3, h4⟩ := delete_run ht h k; ⟨(), w', h1, hk w' h2 h3 h4⟩
theorem rn_mlen {K : Int → World → Prop} {ty : TypeId} (ht : MapT P mt kt et ek ev z) (h : Mp ek ev w b l) (hk : K (l.length : Int) w) : Rn P (Value.int .i64) (Builtin.len_ #[mt] ty #[.map (some b)]) w K := ⟨_, _, len_run ht h, hk⟩
end
theorem drew_ext (w : World) : Ext w w.drew := Ext.drew w
theorem left_push (es : Array MapEntry) (seen : Array Nat) (hn : (es.toList.map (·.born)).Nodup) {e : MapEntry} {j : Nat} (hj : (leftOf es seen).toList[j]? = some e) :
    (leftOf es (seen.push e.born)).toList = (leftOf es seen).toList.eraseIdx j := by
  have e1 : (leftOf es seen).toList = es.toList.filter fun e => !seen.contains e.born := by simp [leftOf]
  have e2 : (leftOf es (seen.push e.born)).toList = (leftOf es seen).toList.filter fun x => !(x.born == e.born) := by
    rw [e1]; simp only [leftOf, Array.toList_filter, List.filter_filter]
    congr 1; funext x; by_cases h : x.born = e.born <;> simp [h]
  rw [e2]
  have hnd : ((leftOf es seen).toList.map (·.born)).Nodup := by rw [e1]; exact (List.Sublist.map _ List.filter_sublist).nodup hn
  generalize (leftOf es seen).toList = L at hj hnd
  clear e1 e2
  induction L generalizing j with
  | nil => simp at hj
  | cons x L ih =>
    simp only [List.map_cons, List.nodup_cons] at hnd
    cases j with
    | zero =>
      simp only [List.getElem?_cons_zero, Option.some.injEq] at hj
      subst hj
      rw [List.filter_cons_of_neg (by simp), List.eraseIdx_cons_zero]
      exact List.filter_eq_self.2 fun y hy => by
        have : y.born ≠ x.born := fun h => hnd.1 (by rw [← h]; exact List.mem_map.2 ⟨y, hy, rfl⟩)
        simp [this]
    | succ j =>
      simp only [List.getElem?_cons_succ] at hj
      have hne : x.born ≠ e.born := fun h => hnd.1 (by rw [h]; exact List.mem_map.2 ⟨e, List.mem_of_getElem? hj, rfl⟩)
      rw [List.filter_cons_of_pos (by simp [hne]), List.eraseIdx_cons_succ, ih hj hnd.2]
theorem next_run {r ty : Nat} (h : Rg ek ev w r b l) :
    (l = [] ∧ (Instr.next (.pointer (some ⟨r, 0, none⟩)) false ty).run P w = .ok (.tuple #[.bool false]) w) ∨
    ∃ j k v w', l[j]? = some (k, v) ∧ (Instr.next (.pointer (some ⟨r, 0, none⟩)) false ty).run P w = .ok (.tuple #[.bool true, ek k, ev v]) w' ∧ Chg (fun x => x = r) w w' ∧ w'.heap.size = w.heap.size ∧
      Rg ek ev w' r b (l.eraseIdx j) ∧ (Instr.entry (.pointer (some ⟨r, 0, none⟩))).run P w' = .ok (.tuple #[ek k, ev v]) w' := by
  have hlt := h.lt
  obtain ⟨es, c, since, seen, c0, hr, hb, hold, hsc, hcc, hn, heq⟩ := h
  rcases run_next_at (P := P) w ty r b since c0 seen es c hr hb hold hsc with ⟨h0, hrun⟩ | ⟨e, he, w1, hw1, hrun⟩
  · left
    refine ⟨?_, hrun⟩
    have : (leftOf es seen).toList = [] := by rw [← Array.length_toList] at h0; exact List.eq_nil_of_length_eq_zero h0
    rw [this] at heq
    exact (List.map_eq_nil_iff.1 heq.symm)
  · right
    obtain ⟨j, hj, hje⟩ := List.mem_iff_getElem.1 he
    have hj? : (leftOf es seen).toList[j]? = some e := by rw [List.getElem?_eq_getElem hj, hje]
    have hll : (leftOf es seen).toList.length = l.length := by have := congrArg List.length heq; simpa using this
    have hjl : j < l.length := by omega
    have hpair : (e.key, e.val) = (ek l[j].1, ev l[j].2) := by
      have := congrArg (fun x => x[j]?) heq
      simp only [List.getElem?_map, hj?, List.getElem?_eq_getElem hjl, Option.map_some, Option.some.injEq] at this
      exact this
    have hk1 : e.key = ek l[j].1 := congrArg Prod.fst hpair
    have hk2 : e.val = ev l[j].2 := congrArg Prod.snd hpair
    have hne : r ≠ b := fun h => by subst h; rw [hr] at hb; cases hb
    have hE : Ext w w1 := by
      rcases hw1 with rfl | rfl
      · exact Ext.refl _
      · exact Ext.drew _
    have hhe : w1.heap = w.heap := by rcases hw1 with rfl | rfl <;> rfl
    have hr' : (ChangeMaps.setBlock w1 r (.mapIter (some b) since (seen.push e.born) c)).heap[r]? = some (.mapIter (some b) since (seen.push e.born) c) := by
      simp [ChangeMaps.setBlock, Array.getElem?_setIfInBounds, hhe, hlt.1]
    have hb' : (ChangeMaps.setBlock w1 r (.mapIter (some b) since (seen.push e.born) c)).heap[b]? = some (.map es c) := by
      simp [ChangeMaps.setBlock, Array.getElem?_setIfInBounds, hhe, hne, hb]
    have hmem := mem_left he
    refine ⟨j, l[j].1, l[j].2, ChangeMaps.setBlock w1 r (.mapIter (some b) since (seen.push e.born) c), by rw [List.getElem?_eq_getElem hjl], by rw [hrun, hk1, hk2], ⟨hE.os, hE.tape, hE.output, by simp [ChangeMaps.setBlock, hhe], fun k hk hn' => ?_⟩, by simp [ChangeMaps.setBlock, hhe], ?_, ?_⟩
    · simp [ChangeMaps.setBlock, Array.getElem?_setIfInBounds, Ne.symm hn', hhe]
    · refine ⟨es, c, since, _, c, hr', hb', hold, hcc, hcc, hn, ?_⟩
      rw [left_push es seen hn hj?, map_erase, map_erase, heq]
    · rw [run_entry_at _ r b since seen es c e hr' hb' hmem.1 hn, hk1, hk2]
end

theorem iteT {p a b : Prop} [Decidable p] (h : p) (ha : a) : if p then a else b := by rw [if_pos h]; exact ha
theorem iteF {p a b : Prop} [Decidable p] (h : ¬ p) (hb : b) : if p then a else b := by rw [if_neg h]; exact hb
/-- a local variable that is laid at once -/
theorem New.var {P : Program} {T : TypeId} {zs : List Value} {v : Value} {w : World} {K : Nat → World → Prop} (cs : List Value) (hs : (P.info? T).map (·.size) = some cs.length) (hv : v.cells = cs.toArray)
    (h1 : ∀ u ∈ cs, u.oneCell' = true) (hl : cs.length = zs.length) (h : ∀ b w', Ext w w' → Blk w' b T cs → w.heap.size ≤ b → K b w') :
    New T zs w fun b w => RnU P (Instr.storeAt T (Ptr ⟨b, 0, none⟩) v) w fun w => K b w :=
  New.mk fun b w1 e1 hb hn s1 => rnu_st (b := b) (o := 0) rfl hb cs hs hv h1 (by omega) fun w2 c2 s2 hb2 => by
    have : over zs 0 cs = cs := by unfold over; simp [hl]
    rw [this] at hb2
    exact h b w2 (e1.then c2 (fun x hx => by omega)) hb2 (by omega)
end Go.Eng

/- Floats: what arithmetic answers, NaNs taken as one. -/
namespace Go.Eng
open Go
set_option linter.unusedVariables false

/-- the bits of a NaN -/
def nanB (x : Nat) : Bool := (FloatKind.f64.format.read x).isNaN
theorem nan_cut (x y t : Nat) : nanB (Question.cut (.nanBits .f64 x y) t) = true := by
  have h1 : FloatKind.f64.format.signWeight = 9223372036854775808 := rfl
  have h2 : FloatKind.f64.format.binade = 4503599627370496 := rfl
  have h3 : FloatKind.f64.format.infRung = 9218868437227405312 := rfl
  have e : Question.cut (.nanBits .f64 x y) t = (t % 2) * 2 ^ 63 + 0x7ff0000000000000 + 1 + (t / 2) % (2 ^ 52 - 1) := rfl
  rw [e]
  unfold nanB Ieee.Format.read
  simp only [h1, h2, h3]
  have hs : t % 2 < 2 := Nat.mod_lt _ (by decide)
  have hu : t / 2 % (2 ^ 52 - 1) < 4503599627370495 := Nat.mod_lt _ (by decide)
  generalize t % 2 = s at hs ⊢
  generalize t / 2 % (2 ^ 52 - 1) = u at hu ⊢
  have hm : (s * 2 ^ 63 + 9218868437227405312 + 1 + u) % 9223372036854775808 = 9218868437227405312 + 1 + u := by
    rw [show s * 2 ^ 63 + 9218868437227405312 + 1 + u = (9218868437227405312 + 1 + u) + 9223372036854775808 * s by omega, Nat.add_mul_mod_self_left, Nat.mod_eq_of_lt (by omega)]
  rw [hm, if_neg (by omega), if_neg (by omega), if_neg (by omega)]
  rfl
theorem order_nan {x : Nat} (h : nanB x = true) (y : Nat) : FloatKind.f64.format.order x y = none := by
  unfold nanB at h
  unfold Ieee.Format.order
  cases hx : FloatKind.f64.format.read x <;> rw [hx] at h <;> first | rfl | cases h
theorem add_nan {x : Nat} (h : nanB x = true) (y : Nat) : FloatKind.f64.format.add x y = none := by
  unfold nanB at h
  unfold Ieee.Format.add
  cases hx : FloatKind.f64.format.read x <;> rw [hx] at h <;> first | rfl | cases h
/-- a float as it is, or any NaN -/
def Fl (o : Option Nat) (x : Nat) : Prop := match o with
  | some v => x = v
  | none => nanB x = true
def oadd (o : Option Nat) (y : Nat) : Option Nat := o.bind fun x => FloatKind.f64.format.add x y
def oGe (o : Option Nat) (y : Nat) : Bool := match o with
  | some x => fGe x y
  | none => false
def oLe (o : Option Nat) (y : Nat) : Bool := match o with
  | some x => fLe x y
  | none => false
theorem Fl.ge {o : Option Nat} {x : Nat} (h : Fl o x) (y : Nat) : fGe x y = oGe o y := by
  cases o with
  | some v => cases h; rfl
  | none => simp [oGe, fGe, order_nan h]
theorem Fl.le {o : Option Nat} {x : Nat} (h : Fl o x) (y : Nat) : fLe x y = oLe o y := by
  cases o with
  | some v => cases h; rfl
  | none => simp [oLe, fLe, order_nan h]
section
variable {P : Program} {w : World} {K : Nat → World → Prop} {x y : Nat}
theorem arith_run (op : BinOp) (r : Option Nat) (h : (match op with
    | .add => some (FloatKind.f64.format.add x y)
    | .sub => some (FloatKind.f64.format.sub x y)
    | .mul => some (FloatKind.f64.format.mul x y)
    | .quo => some (FloatKind.f64.format.div x y)
    | _ => none) = some r) (hk : ∀ v w', Fl r v → Ext w w' → w'.heap = w.heap → K v w') : Rn P (Value.float .f64) (Op.floatArith op .f64 x y) w K := by
  have key : ∀ r : Option Nat, (∀ v w', Fl r v → Ext w w' → w'.heap = w.heap → K v w') → Rn P (Value.float .f64) (match r with
      | some r => pure (.float .f64 r)
      | none => do pure (.float .f64 (← choose (.nanBits .f64 x y)))) w K := fun r hk => by
    cases r with
    | some v => exact ⟨v, w, rfl, hk v w rfl (Ext.refl _) rfl⟩
    | none => exact ⟨Question.cut (.nanBits .f64 x y) (w.tape w.drawn (.nanBits .f64 x y)), w.drew, rfl, hk _ _ (nan_cut _ _ _) (Ext.drew _) rfl⟩
  cases op <;> simp only [Option.some.injEq, reduceCtorEq] at h <;> subst h <;> exact key _ hk
theorem rn_add {o : Option Nat} (ho : Fl o x) (hk : ∀ v w', Fl (oadd o y) v → Ext w w' → w'.heap = w.heap → K v w') : Rn P (Value.float .f64) (Op.floatArith .add .f64 x y) w K := by
  refine arith_run .add _ rfl fun v w' hv => hk v w' ?_
  cases o with
  | some v' => cases ho; exact hv
  | none => rw [add_nan ho] at hv; exact hv
end
end Go.Eng

/- Memory: slices of one-celled elements that are made whole and written in place. -/
namespace Go.Eng
open Go
set_option linter.unusedVariables false

section
variable {P : Program} {t T e bytes : Nat} {z : Value} {w : World}
theorem rn_make1 {n : Nat} {K : Sl → World → Prop} (ht : ElT P t T 1 bytes z) (hz : z.cells = #[z]) (hb : n * bytes ≤ 140737488355328) (hn : n ≤ maxLen)
    (hk : ∀ b w', Ext w w' → Blk w' b T (List.replicate n z) → b = w.heap.size → K ⟨some ⟨b, 0, none⟩, n, n⟩ w') : Rn P Sl.v (Instr.makeSlice t (.int .i64 (n : Int)) (.int .i64 (n : Int))) w K := by
  obtain ⟨i, hi, hzi, hsi, hbi⟩ : ∃ i, P.info? T = some i ∧ i.zero = some z ∧ i.size = 1 ∧ i.bytes = bytes := by
    have := ht.inf
    cases hi : P.info? T with
    | none => rw [hi] at this; cases this
    | some i => rw [hi] at this; simp only [Option.map_some, Option.some.injEq, Prod.mk.injEq] at this; exact ⟨i, rfl, this⟩
  have hb' : (i.bytes : Int) * (n : Int) ≤ 281474976710656 := by
    have : ((i.bytes * n : Nat) : Int) ≤ 281474976710656 := by rw [hbi, Nat.mul_comm]; omega
    rwa [Int.natCast_mul] at this
  have hr := run_make (P := P) w t T i z ht.und hi hzi .i64 .i64 n n (by omega) (Int.le_refl _) hb' (by unfold maxLen at hn; omega)
  simp only [Int.toNat_natCast, hsi, Nat.mul_one] at hr
  have hc : madeCells z.cells n = (List.replicate n z).toArray := by
    rw [hz]; apply Array.ext'
    rw [List.toList_toArray]
    apply List.ext_getElem (by simp [madeCells])
    intro j h1 h2
    simp [madeCells, Nat.mod_one]
  rw [hc] at hr
  exact ⟨⟨some ⟨w.heap.size, 0, none⟩, n, n⟩, _, hr, hk _ _ (Ext.alloc _ _) (heap_alloc_new w _) rfl⟩
theorem over_one {cs : List Value} {i : Nat} {v : Value} (h : i < cs.length) : over cs i [v] = cs.set i v := by
  unfold over
  rw [List.set_eq_take_append_cons_drop, if_pos h]
  simp
/-- the place of an element in a block of its own -/
theorem rnp_own {n c b k : Nat} {i : Int} {K : Addr → Prop} (ht : SlT P t e 1) (hk : k < n) (hi : i = k) (h : K ⟨b, k, none⟩) : RnP P Ptr (Instr.indexAt t (Sl.v ⟨some ⟨b, 0, none⟩, n, c⟩) (.int .i64 i)) K := by
  subst hi
  refine ⟨⟨b, k, none⟩, fun w => ?_, h⟩
  have := idx_run (P := P) (s := ⟨some ⟨b, 0, none⟩, n, c⟩) ht rfl hk w
  rw [this, blk_add]; simp
theorem rnu_st1 {b T i : Nat} {cs : List Value} {v : Value} {K : World → Prop} (hs : (P.info? t).map (·.size) = some 1) (hb : Blk w b T cs) (hi : i < cs.length) (hv : v.cells = #[v]) (h1 : v.oneCell' = true)
    (hk : ∀ w', Chg (fun x => x = b) w w' → Blk w' b T (cs.set i v) → w'.heap.size = w.heap.size → K w') : RnU P (Instr.storeAt t (Ptr ⟨b, i, none⟩) v) w K :=
  rnu_st (b := b) (o := i) rfl hb [v] hs (by rw [hv]) (by simpa using h1) (by simp only [List.length_cons, List.length_nil]; omega) fun w' c h2 h3 => hk w' c (by rw [← over_one hi]; exact h3) h2
end
end Go.Eng

/- Memory: texts cut and looked into. -/
namespace Go.Eng
open Go
set_option linter.unusedVariables false

section
variable {P : Program} {t : TypeId} {x : ByteArray} {i : Int}
theorem rnp_str_to {K : ByteArray → Prop} (ht : P.underlying t = some .string) {k : Nat} (hi : i = k) (hk : k ≤ x.size) (h : K (x.extract 0 k)) : RnP P Value.string (Instr.sliceAt t (.string x) none (some (.int .i64 i)) none) K := by
  subst hi
  refine RnP.of (x := x.extract 0 k) (fun w => ?_) h
  rw [run_sliceAt_string (h := ht), run_slice_string_h w t x ht .i64 k (by omega) (by omega)]; rfl
theorem rnp_str_from {K : ByteArray → Prop} (ht : P.underlying t = some .string) {k : Nat} (hi : i = k) (hk : k ≤ x.size) (h : K (x.extract k x.size)) : RnP P Value.string (Instr.sliceAt t (.string x) (some (.int .i64 i)) none none) K := by
  subst hi
  refine RnP.of (x := x.extract k x.size) (fun w => ?_) h
  rw [run_sliceAt_string (h := ht), run_slice_string_l w t x ht .i64 k (by omega) (by omega)]; rfl
theorem rnp_byte {K : Int → Prop} (ht : P.underlying t = some .string) {k : Nat} (hi : i = k) (hk : k < x.size) (h : K ((x[k].toNat : Nat) : Int)) : RnP P (Value.int .u8) (Instr.index t (.string x) (.int .i64 i)) K := by
  subst hi
  refine RnP.of (x := ((x[k].toNat : Nat) : Int)) (fun w => ?_) h
  rw [run_index_string (h := ht), dif_pos (by omega)]; rfl
theorem wrap_succ {n : Nat} (h : n < maxLen) : IntKind.i64.wrap ((n : Int) + 1) = ((n + 1 : Nat) : Int) := by
  unfold maxLen at h; rw [wrap_in ⟨by omega, by omega⟩]; rfl
theorem wrap_sub {n m : Nat} (h : n ≤ maxLen) (hm : m ≤ n) : IntKind.i64.wrap ((n : Int) - (m : Int)) = ((n - m : Nat) : Int) := by
  unfold maxLen at h; rw [wrap_in ⟨by omega, by omega⟩]; omega
end
end Go.Eng

/- Memory: cells of an element of a slice of our own, written in place. Floats, two at a time. -/
namespace Go.Eng
open Go
set_option linter.unusedVariables false
set_option linter.unusedSectionVars false

theorem flatMap_over {α : Type} {cells : α → List Value} {sz f : Nat} {vs : List Value} {x' : α} : ∀ (l : List α) (k : Nat) (hk : k < l.length), (∀ x ∈ l, (cells x).length = sz) → f + vs.length ≤ sz →
    cells x' = over (cells l[k]) f vs → (l.set k x').flatMap cells = over (l.flatMap cells) (k * sz + f) vs
  | x :: l, 0, _, hsz, hf, hx => by
    have h1 := hsz x (by simp)
    simp only [List.set_cons_zero, List.flatMap_cons, List.getElem_cons_zero] at hx ⊢
    rw [hx, Nat.zero_mul, Nat.zero_add]
    unfold over
    rw [List.take_append_of_le_length (by omega), List.drop_append_of_le_length (by omega)]
    simp only [List.append_assoc]
  | x :: l, k + 1, hk, hsz, hf, hx => by
    simp only [List.set_cons_succ, List.flatMap_cons, List.getElem_cons_succ] at hx ⊢
    have h1 := hsz x (by simp)
    rw [flatMap_over l k (by simpa using hk) (fun y hy => hsz y (by simp [hy])) hf hx]
    unfold over
    have e1 : (k + 1) * sz + f = (cells x).length + (k * sz + f) := by rw [h1, Nat.add_mul]; omega
    rw [e1, List.take_length_add_append, Nat.add_assoc (cells x).length, List.drop_length_add_append]
    simp only [List.append_assoc, Nat.add_assoc]
theorem over_take {cs vs : List Value} {o n : Nat} (h : o + vs.length ≤ n) (hn : n ≤ cs.length) : (over cs o vs).take n = over (cs.take n) o vs := by
  unfold over
  have h1 : (cs.take o).length = o := by simp; omega
  rw [List.take_append, List.take_append, h1, List.take_of_length_le (by rw [h1]; omega), List.take_of_length_le (l := vs) (by omega)]
  rw [List.take_take, Nat.min_eq_left (by omega), List.length_append, h1, List.drop_take]
section
variable {α : Type} {cells : α → List Value} {sz T B : Nat} {P : Program} {w : World} {s : Sl} {l : List α}
theorem own_setN {t e tf k f : Nat} {i : Int} {v : Value} {vs : List Value} {x' : α} {K : World → Prop} (ht : SlT P t e sz) (h : Own cells sz T B w s l) (hk : k < l.length) (hi : i = k) (hf : f + vs.length ≤ sz)
    (hs : (P.info? tf).map (·.size) = some vs.length) (hv : v.cells = vs.toArray) (h1 : ∀ u ∈ vs, u.oneCell' = true) (hx : cells x' = over (cells l[k]) f vs)
    (hK : ∀ w', Chg (own? s) w w' → Own cells sz T B w' s (l.set k x') → w'.heap.size = w.heap.size → K w') :
    RnP P Ptr (Instr.indexAt t (Sl.v s) (.int .i64 i)) fun p => RnU P (Instr.storeAt tf (Ptr (p.add f)) v) w K := by
  subst hi
  have hsz := h.sz_
  obtain ⟨hrl, hn | ⟨g, cap, cur, hv', hbg, hg, hnc, hcm, hcs, htake⟩⟩ := h.row
  · omega
  have hn := h.len
  have ha : s.a = some ⟨g, 0, none⟩ := by obtain ⟨a, n, c⟩ := s; simp only [Sl.v, Value.slice.injEq] at hv'; exact hv'.1
  have hb : Blk w g T cur.toList := by unfold Blk; rw [hg]
  have hlim : k * sz + sz ≤ l.length * sz := by rw [← Nat.succ_mul]; exact Nat.mul_le_mul_right _ hk
  have hle : l.length * sz ≤ cap * sz := Nat.mul_le_mul_right _ hnc
  have hcl : cur.toList.length = cap * sz := by simpa using hcs
  refine ⟨_, fun w => idx_run ht ha (by rw [hn]; exact hk) w, ?_⟩
  rw [blk_add, Nat.zero_add]
  show RnU P (Instr.storeAt tf (Ptr ((⟨g, k * sz, none⟩ : Addr).add f)) v) w K
  rw [blk_add]
  refine rnu_st (b := g) (o := k * sz + f) rfl hb vs hs hv h1 (by omega) fun w' c s' hb' => ?_
  refine hK w' (c.mono fun b _ hb => ⟨_, ha, hb.symm⟩) ⟨⟨?_, .inr ⟨g, cap, (over cur.toList (k * sz + f) vs).toArray, ?_, hbg, hb', ?_, hcm, ?_, ?_⟩⟩, ?_⟩ s'
  · rw [flatMap_over l k hk hsz hf hx, List.length_set, over_length (by rw [hrl]; omega), hrl]
  · rw [List.length_set]; exact hv'
  · rw [List.length_set]; exact hnc
  · rw [List.size_toArray, over_length (by omega), hcl]
  · rw [List.length_set, List.toList_toArray, over_take (by omega) (by omega), htake, flatMap_over l k hk hsz hf hx]
  · intro x hx'
    rcases List.mem_or_eq_of_mem_set hx' with hx' | rfl
    · exact hsz x hx'
    · rw [hx, over_length (by rw [hsz _ (List.getElem_mem hk)]; omega)]; exact hsz _ (List.getElem_mem hk)
end

/-! ### Floats, two at a time -/
def oadd2 (o p : Option Nat) : Option Nat := o.bind fun x => p.bind fun y => FloatKind.f64.format.add x y
def omul2 (o p : Option Nat) : Option Nat := o.bind fun x => p.bind fun y => FloatKind.f64.format.mul x y
def oGt (o : Option Nat) (y : Nat) : Bool := match o with
  | some x => fGt x y
  | none => false
theorem Fl.gt {o : Option Nat} {x : Nat} (h : Fl o x) (y : Nat) : fGt x y = oGt o y := by
  cases o with
  | some v => cases h; rfl
  | none => simp [oGt, fGt, order_nan h]
theorem add_nan_r {x y : Nat} (h : nanB y = true) : FloatKind.f64.format.add x y = none := by
  unfold nanB at h
  unfold Ieee.Format.add
  cases hy : FloatKind.f64.format.read y <;> rw [hy] at h <;> first | (cases h; done) | skip
  cases FloatKind.f64.format.read x <;> rfl
theorem mul_nan_l {x y : Nat} (h : nanB x = true) : FloatKind.f64.format.mul x y = none := by
  unfold nanB at h
  unfold Ieee.Format.mul
  cases hy : FloatKind.f64.format.read x <;> rw [hy] at h <;> first | (cases h; done) | skip
  cases FloatKind.f64.format.read y <;> rfl
theorem mul_nan_r {x y : Nat} (h : nanB y = true) : FloatKind.f64.format.mul x y = none := by
  unfold nanB at h
  unfold Ieee.Format.mul
  cases hy : FloatKind.f64.format.read y <;> rw [hy] at h <;> first | (cases h; done) | skip
  cases FloatKind.f64.format.read x <;> rfl
section
variable {P : Program} {w : World} {K : Nat → World → Prop} {x y : Nat}
theorem rn_add2 {o p : Option Nat} (ho : Fl o x) (hp : Fl p y) (hk : ∀ v w', Fl (oadd2 o p) v → Ext w w' → w'.heap = w.heap → K v w') : Rn P (Value.float .f64) (Op.floatArith .add .f64 x y) w K := by
  refine arith_run .add _ rfl fun v w' hv => hk v w' ?_
  cases o with
  | some v' =>
    cases ho
    cases p with
    | some v'' => cases hp; exact hv
    | none => rw [add_nan_r hp] at hv; exact hv
  | none => rw [add_nan ho] at hv; exact hv
theorem rn_mul2 {o p : Option Nat} (ho : Fl o x) (hp : Fl p y) (hk : ∀ v w', Fl (omul2 o p) v → Ext w w' → w'.heap = w.heap → K v w') : Rn P (Value.float .f64) (Op.floatArith .mul .f64 x y) w K := by
  refine arith_run .mul _ rfl fun v w' hv => hk v w' ?_
  cases o with
  | some v' =>
    cases ho
    cases p with
    | some v'' => cases hp; exact hv
    | none => rw [mul_nan_r hp] at hv; exact hv
  | none => rw [mul_nan_l ho] at hv; exact hv
end

/-! ### A map gone through, in the words of a transformer -/
section
variable {κ ν : Type} [DecidableEq κ] {ek : κ → Value} {ev : ν → Value} {P : Program} {w : World} {b r : Nat} {l : List (κ × ν)}
/-- how many entries are left to come -/
def rgLeft (w : World) (r b : Nat) : Nat := match w.heap[r]?, w.heap[b]? with
  | some (.mapIter _ _ seen _), some (.map es _) => (leftOf es seen).toList.length
  | _, _ => 0
theorem Rg.left (h : Rg ek ev w r b l) : rgLeft w r b = l.length := by
  obtain ⟨es, clock, since, seen, c0, hr, hb, _, _, _, _, heq⟩ := h
  have := congrArg List.length heq
  unfold rgLeft; rw [hr, hb]
  simpa using this
theorem rn_range {mt kt et : Nat} {z : ν} {K : Value → World → Prop} (ht : MapT P mt kt et ek ev z) (h : Mp ek ev w b l) (hk : ∀ r w', Ext w w' → r = w.heap.size → Rg ek ev w' r b l → K (.pointer (some ⟨r, 0, none⟩)) w') :
    Rn P (fun x : Value => x) (Instr.range mt (.map (some b))) w K := by
  obtain ⟨r, w', hrun, he, hr, hR⟩ := range_run ht h
  exact ⟨_, w', hrun, hk r w' he hr hR⟩
theorem rn_next {ty : Nat} {K : Value → World → Prop} (h : Rg ek ev w r b l) (h0 : l = [] → K (.tuple #[.bool false]) w)
    (h1 : ∀ j k v w', l[j]? = some (k, v) → Chg (fun x => x = r) w w' → w'.heap.size = w.heap.size → Rg ek ev w' r b (l.eraseIdx j) → (Instr.entry (.pointer (some ⟨r, 0, none⟩))).run P w' = .ok (.tuple #[ek k, ev v]) w' → K (.tuple #[.bool true, ek k, ev v]) w') :
    Rn P (fun x : Value => x) (Instr.next (.pointer (some ⟨r, 0, none⟩)) false ty) w K := by
  rcases next_run (P := P) (ty := ty) h with ⟨hl, hrun⟩ | ⟨j, k, v, w', hj, hrun, hc, hs, hR, he⟩
  · exact ⟨_, w, hrun, h0 hl⟩
  · exact ⟨_, w', hrun, h1 j k v w' hj hc hs hR he⟩
theorem rnp_extract {α : Type} {enc : α → Value} {vs : Array Value} {i : Nat} {x : α} {K : α → Prop} (h : vs[i]? = some (enc x)) (hk : K x) : RnP P enc (Instr.extract (.tuple vs) i) K :=
  ⟨x, fun w => by simp [Instr.extract, h], hk⟩
end
end Go.Eng

/- What comes in, read as data, is read as lists: a law on each shape; and the frame of a law whose walk leaves all that stood as it was. -/
namespace Go.Proofs.Ytdoeegfcmbcbkaa.Opn
open Go Go.Eng
open Go.ChangeShapes Go.WideShapes Go.RowKit
set_option linter.unusedVariables false

/-! ### Lists out of indices, sums -/
theorem list_of {α : Type} : ∀ {n : Nat} {p : Nat → α → Prop}, (∀ i, i < n → ∃ x, p i x) → ∃ l : List α, l.length = n ∧ ∀ i (h : i < l.length), p i l[i]
  | 0, _, _ => ⟨[], rfl, fun i h => absurd h (Nat.not_lt_zero _)⟩
  | n + 1, p, h => by
    obtain ⟨l, hl, hp⟩ := list_of (n := n) (p := p) fun i hi => h i (by omega)
    obtain ⟨x, hx⟩ := h n (Nat.lt_succ_self n)
    refine ⟨l ++ [x], by simp [hl], fun i hi => ?_⟩
    by_cases c : i < l.length
    · rw [List.getElem_append_left c]; exact hp i c
    · have : i = l.length := by simp at hi; omega
      subst this
      simpa [hl] using hx
theorem bulk_sum {H α : Type} {bulk : α → Nat} : ∀ (l : List α) (ds : List (DataW H)), l.length = ds.length → (∀ i (h : i < l.length) (h' : i < ds.length), bulk l[i] ≤ Rows.uptoBulk ds[i]) → (l.map bulk).sum ≤ Rows.uptoBulkAll ds
  | [], [], _, _ => Nat.zero_le _
  | x :: l, d :: ds, hl, h => by
    have h0 := h 0 (by simp) (by simp)
    have := bulk_sum l ds (by simpa using hl) fun i a b => h (i + 1) (Nat.succ_lt_succ a) (Nat.succ_lt_succ b)
    simp only [List.map_cons, List.sum_cons, Rows.uptoBulkAll, List.getElem_cons_zero] at h0 ⊢
    omega
  | [], d :: ds, hl, _ => by simp at hl
  | x :: l, [], hl, _ => by simp at hl

/-- what a type's reading gives: a shape, a fact, and no more bulk than the reading's -/
structure Dec {α : Type} (P : Program) (t : TypeId) (cells : α → List Value) (Q : World → α → Prop) (bulk : α → Nat) : Prop where
  dec : ∀ {H : Type} {enc : TypeId × Value → H} {w : World} {base : Nat} {spare : Nat → Bool} {held : Bool} {n : Nat} {cs : List Value} {y : DataW H × List MemPlace},
    DataW.trod enc P w base spare held n t cs = some y → ∃ x : α, cs = cells x ∧ Q w x ∧ bulk x ≤ Rows.uptoBulk y.1
section
variable {P : Program} {t : TypeId}
def strC (x : ByteArray) : List Value := [.string x]
theorem dec_str (hu : P.underlying t = some .string) : Dec P t strC (fun _ x => x.size ≤ maxLen) (fun x => x.size + 1) := ⟨fun h => by
  obtain ⟨s, rfl, rfl, hs⟩ := DataW.trod_string hu h
  refine ⟨s, rfl, hs, ?_⟩
  have e : s.data.toList.length = s.size := by rw [Array.length_toList]; rfl
  simp only [Rows.uptoBulk, e]; omega⟩
theorem dec_int {k : IntKind} (hu : P.underlying t = some (.int k)) : Dec P t (fun x : Int => [.int k x]) (fun _ x => (Lit.int k x).wf = true) (fun _ => 1) := ⟨fun h => by
  obtain ⟨s, rfl, rfl, hs⟩ := DataW.trod_int hu h
  exact ⟨s, rfl, hs, by simp [Rows.uptoBulk]⟩⟩
theorem dec_bool (hu : P.underlying t = some .bool) : Dec P t (fun x : Bool => [.bool x]) (fun _ _ => True) (fun _ => 1) := ⟨fun h => by
  obtain ⟨s, rfl, rfl⟩ := DataW.trod_bool hu h
  exact ⟨s, rfl, trivial, by simp [Rows.uptoBulk]⟩⟩
theorem dec_flt {k : FloatKind} (hu : P.underlying t = some (.float k)) : Dec P t (fun x : Nat => [.float k x]) (fun _ _ => True) (fun _ => 1) := ⟨fun {H enc w base spare held n cs y} h => by
  have : ∃ b, cs = [.float k b] ∧ y.1 = .lit (.float k b) := by
    cases n with
    | zero => simp [DataW.trod] at h
    | succ n =>
      unfold DataW.trod at h
      rw [hu] at h
      split at h <;> simp_all
      rw [← h.2]
  obtain ⟨b, rfl, hy⟩ := this
  exact ⟨b, rfl, trivial, by rw [hy]; simp [Rows.uptoBulk]⟩⟩
theorem dec_slice {α : Type} {e sz : Nat} {cells : α → List Value} {Q : World → α → Prop} {bulk : α → Nat} (d : Dec P e cells Q bulk) (ht : P.underlying t = some (.slice e)) (hsz : P.cellsOf e = sz) :
    Dec P t (fun x : Sl × List α => [Sl.v x.1]) (fun w x => Rd cells sz (fun _ => True) w x.1 x.2 ∧ ∀ y ∈ x.2, Q w y) (fun x => (x.2.map bulk).sum + 1) := ⟨fun {H enc w base spare held n cs y} h => by
  subst hsz
  rcases DataW.trod_slice ht h with ⟨rfl, rfl⟩ | ⟨a, len, cap, elems, rest, m, rfl, rfl, rfl, hb, hl, hc, hlen, hel, _⟩
  · exact ⟨(Sl.nil, []), rfl, ⟨Rd.nil_ _ _, fun y hy => by cases hy⟩, by simp [Rows.uptoBulk]⟩
  · obtain ⟨l, hll, hp⟩ := list_of (n := len) (p := fun i (x : α) => At w (a.add (i * P.cellsOf e)) (cells x) ∧ Q w x ∧ ∀ (h : i < elems.length), bulk x ≤ Rows.uptoBulk elems[i].1) fun i hi => by
      have h1 := hel i hi
      have hi' : i < elems.length := by omega
      rw [List.getElem?_eq_getElem hi', Option.bind_eq_some_iff] at h1
      obtain ⟨cs, h2, h3⟩ := h1
      obtain ⟨x, rfl, hq, hbk⟩ := d.dec h3
      obtain ⟨_, hcl, hcell⟩ := World.cells?_some h2
      exact ⟨x, fun j hj => by rw [hcell j (by omega), List.getElem?_eq_getElem hj], hq, fun _ => hbk⟩
    refine ⟨(⟨some a, len, cap⟩, l), rfl, ⟨⟨hll.symm, hl, hc, fun k hk => ⟨a, rfl, trivial, (hp k hk).1⟩⟩, fun y hy => ?_⟩, ?_⟩
    · obtain ⟨i, hi, rfl⟩ := List.mem_iff_getElem.1 hy
      exact (hp i hi).2.1
    · have := bulk_sum (bulk := bulk) l (elems.map (·.1)) (by simp; omega) fun i a b => by
        rw [List.getElem_map]; exact (hp i a).2.2 (by simpa using b)
      simp only [Rows.uptoBulk]; omega⟩
theorem len2 {α : Type} : ∀ {l : List α}, l.length = 2 → ∃ a b, l = [a, b]
  | [a, b], _ => ⟨a, b, rfl⟩
theorem len3 {α : Type} : ∀ {l : List α}, l.length = 3 → ∃ a b c, l = [a, b, c]
  | [a, b, c], _ => ⟨a, b, c, rfl⟩
theorem len4 {α : Type} : ∀ {l : List α}, l.length = 4 → ∃ a b c d, l = [a, b, c, d]
  | [a, b, c, d], _ => ⟨a, b, c, d, rfl⟩
theorem len8 {α : Type} : ∀ {l : List α}, l.length = 8 → ∃ a b c d e f g h, l = [a, b, c, d, e, f, g, h]
  | [a, b, c, d, e, f, g, h], _ => ⟨a, b, c, d, e, f, g, h, rfl⟩
/-- one field of a struct, of one cell -/
theorem fld {α : Type} {H : Type} {enc : TypeId × Value → H} {w : World} {base : Nat} {spare : Nat → Bool} {held : Bool} {n : Nat} {cs : List Value} {c : Value} {y : DataW H × List MemPlace} {o : Nat} {v : α → Value} {Q : World → α → Prop} {bulk : α → Nat}
    (d : Dec P t (fun x => [v x]) Q bulk) (hk : P.cellsOf t = 1) (h : DataW.trod enc P w base spare held n t ((cs.drop o).take (P.cellsOf t)) = some y) (hc : cs[o]? = some c) : ∃ x, c = v x ∧ Q w x ∧ bulk x ≤ Rows.uptoBulk y.1 := by
  rw [hk] at h
  have e : (cs.drop o).take 1 = [c] := by
    obtain ⟨ho, rfl⟩ := List.getElem?_eq_some_iff.1 hc
    rw [List.drop_eq_getElem_cons ho]; rfl
  rw [e] at h
  obtain ⟨x, hx, hq, hb⟩ := d.dec h
  exact ⟨x, by simpa using hx, hq, hb⟩
/-- a list read by pairs, read by one of the two -/
theorem rd_map {α β : Type} {cells : β → List Value} {sz : Nat} {F : Nat → Prop} {w : World} {s : Sl} {g : α → β} {l : List α} (h : Rd (fun x => cells (g x)) sz F w s l) : Rd cells sz F w s (l.map g) :=
  ⟨by simpa using h.len, h.cap, h.lim, fun k hk => by simpa using h.el k (by simpa using hk)⟩
end

/-! ### The frame of a law -/
section
variable {H : Type} {enc : TypeId × Value → H} {P : Program}
theorem trodAll_stays (hl : laidOutB P = true) {W W' : World} (hb : Below W.heap.size W W') : ∀ {ts : List TypeId} {vs : List Value} {ds : List (DataW H)} {ps : List MemPlace},
    (ts.all fun t => P.readableRec t && decide (t < P.types.size)) = true → DataW.TrodAll enc P W 0 (fun _ => true) true ts vs ds ps → (∀ x ∈ ps, x.block < W.heap.size) → ∀ sp : Nat → Bool, (∀ p ∈ ps, sp p.block = true) →
    DataW.TrodAll enc P W' 0 sp true ts vs ds ps
  | [], vs, ds, ps, _, h, _, sp, _ => by
    cases vs <;> cases ds <;> simp [DataW.TrodAll] at h ⊢
    exact h
  | t :: ts, vs, ds, ps, hr, h, hlt, sp, hsp => by
    simp only [List.all_cons, Bool.and_eq_true, decide_eq_true_eq] at hr
    obtain ⟨v, vs', d, ds', p, q, rfl, rfl, rfl, h1, h2⟩ := trodAll_cons h
    exact ⟨p, q, WideElems.Trod_stays hl hr.1.1 hr.1.2 h1 (fun x hx => hb.same (hlt x (List.mem_append.2 (.inl hx)))) (fun x hx => hsp x (List.mem_append.2 (.inl hx))),
      trodAll_stays hl hb (by simpa using hr.2) h2 (fun x hx => hlt x (List.mem_append.2 (.inr hx))) sp (fun x hx => hsp x (List.mem_append.2 (.inr hx))), rfl⟩
theorem post_true {f : Func} {s : ChangeSpec} {apart fresh handsOn again : Bool} {W W' : World} {args : Array Value} {ds gs : List (DataW H)} {before : List MemPlace} {tb : TypeId}
    (hl : laidOutB P = true) (hr : (f.params.toList.all fun t => P.readableRec t && decide (t < P.types.size)) = true) (hres : f.resultTypes = #[tb]) (htb : P.underlying tb = some .bool) (hvars : s.vars = [])
    (hfn : (s.fn H (ds ++ gs)).results = [.lit (.bool true)]) (hfa : (s.fn H (ds ++ gs)).args = ds) (hfv : (s.fn H (ds ++ gs)).vars = [])
    (hW : DataW.Whole enc P f.params.toList s.vars apart W args.toList ds gs before) (hb : Below W.heap.size W W') :
    s.post enc P f apart fresh handsOn again W args (.bool true) W' := by
  have hlt : ∀ p ∈ before, p.block < W.heap.size := fun p hp => hW.lt p hp
  have hW0 := hW
  obtain ⟨pa, pv, hA, hV, hps, hz, hn⟩ := hW
  rw [hvars] at hV
  obtain ⟨rfl, rfl⟩ : gs = [] ∧ pv = [] := by
    cases gs <;> simp [DataW.TrodVars] at hV
    exact ⟨rfl, hV⟩
  rw [List.append_nil] at hps
  subst hps
  have hold : ∀ p ∈ before, (fun b => decide (b < W.heap.size)) p.block = true := fun p hp => by simpa using hlt p hp
  have hargs : ∀ sp : Nat → Bool, (∀ p ∈ before, sp p.block = true) → DataW.TrodAll enc P W' 0 sp true f.params.toList args.toList (s.fn H (ds ++ [])).args before := fun sp hsp => by
    rw [hfa]; exact trodAll_stays hl hb hr hA hlt sp hsp
  have hre : ∀ (b : Nat) (sp : Nat → Bool) (hd : Bool), DataW.TrodAll enc P W' b sp hd f.resultTypes.toList ((Value.bool true).resultList f.resultTypes.size) (s.fn H (ds ++ [])).results [] := fun b sp hd => by
    rw [hres, hfn]
    exact trodAll_mk1 (shut_bool htb true)
  have hva : ∀ sp : Nat → Bool, DataW.TrodVars enc P W' sp s.vars (s.fn H (ds ++ [])).vars [] := fun sp => by
    rw [hvars, hfv]; rfl
  refine ⟨ds, [], before, [], before, [], hW0, hre _ _ _, hargs _ hold, hva _, World.keptBut_mono (fun p hp => ⟨hp, ?_⟩) (hb.frame (· ∈ before)), fun _ => ?_⟩
  · exact .inr (.inl hp)
  · refine ⟨?_, _, _, ([] ++ before) ++ [], ⟨[] ++ before, [], trodAll_append (hargs _ (fun _ _ => rfl)) (hre _ _ _), hva _, rfl, ?_, ?_⟩, ?_⟩
    · intro j t r hj hr'
      rw [hres] at hj hr'
      match j, hj with
      | 0, hj =>
        simp at hj; subst hj
        simp [Value.resultList] at hr'
        subst hr'
        exact okWide_bool_mk htb true
    · intro b off hp
      have hin : MemPlace.cell b off ∈ before := by simpa using hp
      rw [hb.frozen (hlt _ hin)]
      exact hz b off hin
    · intro ha
      simpa using hn ha
    · intro p hp _
      simpa using hp
end
end Go.Proofs.Ytdoeegfcmbcbkaa.Opn

/- Made by program: the structs of the program as Lean structures, and closed facts on its types and functions. -/
namespace Go.Proofs.Ytdoeegfcmbcbkaa.Tr
open Go Go.Eng
set_option linter.unusedVariables false
set_option maxRecDepth 100000
set_option maxHeartbeats 4000000
structure TShare where
  Service : ByteArray
  Upto : Nat

def TShare.cells (x : TShare) : List Value := [(.string x.Service), (.float .f64 x.Upto)]
def TShare.v (x : TShare) : Value := .agg (Array.mk x.cells)

structure TResource where
  Kind : Int
  Name : ByteArray
  Endpoints : Sl
  Targets : Sl
  Host : ByteArray
  Rules : Sl
  Route : ByteArray
  Delete : Bool

def TResource.cells (x : TResource) : List Value := [(.int .i64 x.Kind), (.string x.Name), (Sl.v x.Endpoints), (Sl.v x.Targets), (.string x.Host), (Sl.v x.Rules), (.string x.Route), (.bool x.Delete)]
def TResource.v (x : TResource) : Value := .agg (Array.mk x.cells)

structure TTables where
  Version : Int
  Hosts : Sl
  Services : Sl

def TTables.cells (x : TTables) : List Value := [(.int .i64 x.Version), (Sl.v x.Hosts), (Sl.v x.Services)]
def TTables.v (x : TTables) : Value := .agg (Array.mk x.cells)

structure THost where
  Host : ByteArray
  Route : ByteArray
  Entries : Sl
  Permits : Sl

def THost.cells (x : THost) : List Value := [(.string x.Host), (.string x.Route), (Sl.v x.Entries), (Sl.v x.Permits)]
def THost.v (x : THost) : Value := .agg (Array.mk x.cells)

structure TEntry where
  Path : ByteArray
  Method : ByteArray
  Shares : Sl

def TEntry.cells (x : TEntry) : List Value := [(.string x.Path), (.string x.Method), (Sl.v x.Shares)]
def TEntry.v (x : TEntry) : Value := .agg (Array.mk x.cells)

structure TFault where
  Doc : Int
  Line : Int
  Err : Int

def TFault.cells (x : TFault) : List Value := [(.int .i64 x.Doc), (.int .i64 x.Line), (.int .i64 x.Err)]
def TFault.v (x : TFault) : Value := .agg (Array.mk x.cells)

structure TTarget where
  Service : ByteArray
  Split : ByteArray
  Weight : Nat

def TTarget.cells (x : TTarget) : List Value := [(.string x.Service), (.string x.Split), (.float .f64 x.Weight)]
def TTarget.v (x : TTarget) : Value := .agg (Array.mk x.cells)

structure TPermit where
  Path : ByteArray
  Method : ByteArray
  Allow : Bool

def TPermit.cells (x : TPermit) : List Value := [(.string x.Path), (.string x.Method), (.bool x.Allow)]
def TPermit.v (x : TPermit) : Value := .agg (Array.mk x.cells)

structure TRule where
  Path : ByteArray
  Method : ByteArray
  Split : ByteArray
  Allow : Bool

def TRule.cells (x : TRule) : List Value := [(.string x.Path), (.string x.Method), (.string x.Split), (.bool x.Allow)]
def TRule.v (x : TRule) : Value := .agg (Array.mk x.cells)

structure TFault14 where
  Doc : Int
  Line : Int
  Err : Int

def TFault14.cells (x : TFault14) : List Value := [(.int .i64 x.Doc), (.int .i64 x.Line), (.int .i64 x.Err)]
def TFault14.v (x : TFault14) : Value := .agg (Array.mk x.cells)

structure TKnown15 where
  Names : Sl
  Shares : Sl

def TKnown15.cells (x : TKnown15) : List Value := [(Sl.v x.Names), (Sl.v x.Shares)]
def TKnown15.v (x : TKnown15) : Value := .agg (Array.mk x.cells)

structure TKey where
  kind : Int
  name : ByteArray

def TKey.cells (x : TKey) : List Value := [(.int .i64 x.kind), (.string x.name)]
def TKey.v (x : TKey) : Value := .agg (Array.mk x.cells)

structure TDepths where
  splits : (Option Nat)
  known : (Option Nat)

def TDepths.cells (x : TDepths) : List Value := [(.map x.splits), (.map x.known)]
def TDepths.v (x : TDepths) : Value := .agg (Array.mk x.cells)

structure TWarning14 where
  Doc : Int
  Rule : Int
  By : Int

def TWarning14.cells (x : TWarning14) : List Value := [(.int .i64 x.Doc), (.int .i64 x.Rule), (.int .i64 x.By)]
def TWarning14.v (x : TWarning14) : Value := .agg (Array.mk x.cells)

structure TWarning where
  Doc : Int
  Rule : Int
  By : Int

def TWarning.cells (x : TWarning) : List Value := [(.int .i64 x.Doc), (.int .i64 x.Rule), (.int .i64 x.By)]
def TWarning.v (x : TWarning) : Value := .agg (Array.mk x.cells)

theorem mixed : Try.prog.follows .mixedOrders = true := by kernel_rfl
theorem en16 (vs : Array Value) (w : World) : (callFunc 16 vs).run Try.prog w = .ok (.enter 16 vs) w := enters Try.func16 rfl rfl vs w
theorem en17 (vs : Array Value) (w : World) : (callFunc 17 vs).run Try.prog w = .ok (.enter 17 vs) w := enters Try.func17 rfl rfl vs w
theorem en18 (vs : Array Value) (w : World) : (callFunc 18 vs).run Try.prog w = .ok (.enter 18 vs) w := enters Try.func18 rfl rfl vs w
theorem zero32 : (Try.prog.info? 32).map (·.zero) = some (some (TShare.v (⟨⟨#[]⟩, 0⟩ : TShare))) := by kernel_rfl
theorem size9 : (Try.prog.info? 9).map (·.size) = some 1 := by kernel_rfl
theorem size30 : (Try.prog.info? 30).map (·.size) = some 1 := by kernel_rfl
theorem pl32 (w : World) : ((fieldsOf Try.prog 32).mapM fun f => do pure (f.offset, ← sizeOf f.type) : Sem (Array (Nat × Nat))).run Try.prog w = .ok #[(0, 1), (1, 1)] w := by kernel_rfl
theorem info32 : Try.prog.info? 32 = some (Try.prog.types.getD 32 default) := by kernel_rfl
theorem iz32 : (Try.prog.types.getD 32 default).zero = some (TShare.v (⟨⟨#[]⟩, 0⟩ : TShare)) := by kernel_rfl
theorem en19 (vs : Array Value) (w : World) : (callFunc 19 vs).run Try.prog w = .ok (.enter 19 vs) w := enters Try.func19 rfl rfl vs w
theorem en20 (vs : Array Value) (w : World) : (callFunc 20 vs).run Try.prog w = .ok (.enter 20 vs) w := enters Try.func20 rfl rfl vs w
theorem en21 (vs : Array Value) (w : World) : (callFunc 21 vs).run Try.prog w = .ok (.enter 21 vs) w := enters Try.func21 rfl rfl vs w
theorem en22 (vs : Array Value) (w : World) : (callFunc 22 vs).run Try.prog w = .ok (.enter 22 vs) w := enters Try.func22 rfl rfl vs w
theorem info9 : Try.prog.info? 9 = some (Try.prog.types.getD 9 default) := by kernel_rfl
theorem fa32_0 : ∀ (p : Addr) (w : World), (Instr.fieldAt 32 (Ptr p) 0).run Try.prog w = .ok (Ptr (p.add 0)) w := e_fa Try.underlying32 rfl info9 (by kernel_rfl) rfl
theorem en23 (vs : Array Value) (w : World) : (callFunc 23 vs).run Try.prog w = .ok (.enter 23 vs) w := enters Try.func23 rfl rfl vs w
theorem en24 (vs : Array Value) (w : World) : (callFunc 24 vs).run Try.prog w = .ok (.enter 24 vs) w := enters Try.func24 rfl rfl vs w
theorem en25 (vs : Array Value) (w : World) : (callFunc 25 vs).run Try.prog w = .ok (.enter 25 vs) w := enters Try.func25 rfl rfl vs w
theorem en26 (vs : Array Value) (w : World) : (callFunc 26 vs).run Try.prog w = .ok (.enter 26 vs) w := enters Try.func26 rfl rfl vs w
theorem en27 (vs : Array Value) (w : World) : (callFunc 27 vs).run Try.prog w = .ok (.enter 27 vs) w := enters Try.func27 rfl rfl vs w
theorem en28 (vs : Array Value) (w : World) : (callFunc 28 vs).run Try.prog w = .ok (.enter 28 vs) w := enters Try.func28 rfl rfl vs w
theorem en29 (vs : Array Value) (w : World) : (callFunc 29 vs).run Try.prog w = .ok (.enter 29 vs) w := enters Try.func29 rfl rfl vs w
theorem en30 (vs : Array Value) (w : World) : (callFunc 30 vs).run Try.prog w = .ok (.enter 30 vs) w := enters Try.func30 rfl rfl vs w
theorem en31 (vs : Array Value) (w : World) : (callFunc 31 vs).run Try.prog w = .ok (.enter 31 vs) w := enters Try.func31 rfl rfl vs w
theorem en32 (vs : Array Value) (w : World) : (callFunc 32 vs).run Try.prog w = .ok (.enter 32 vs) w := enters Try.func32 rfl rfl vs w
theorem info30 : Try.prog.info? 30 = some (Try.prog.types.getD 30 default) := by kernel_rfl
theorem fa32_1 : ∀ (p : Addr) (w : World), (Instr.fieldAt 32 (Ptr p) 1).run Try.prog w = .ok (Ptr (p.add 1)) w := e_fa Try.underlying32 rfl info30 (by kernel_rfl) rfl
theorem en33 (vs : Array Value) (w : World) : (callFunc 33 vs).run Try.prog w = .ok (.enter 33 vs) w := enters Try.func33 rfl rfl vs w
theorem en34 (vs : Array Value) (w : World) : (callFunc 34 vs).run Try.prog w = .ok (.enter 34 vs) w := enters Try.func34 rfl rfl vs w
theorem zero53 : (Try.prog.info? 53).map (·.zero) = some (some (TTables.v (⟨0, Sl.nil, Sl.nil⟩ : TTables))) := by kernel_rfl
theorem info51 : Try.prog.info? 51 = some (Try.prog.types.getD 51 default) := by kernel_rfl
theorem fa53_1 : ∀ (p : Addr) (w : World), (Instr.fieldAt 53 (Ptr p) 1).run Try.prog w = .ok (Ptr (p.add 1)) w := e_fa Try.underlying53 rfl info51 (by kernel_rfl) rfl
theorem info44 : Try.prog.info? 44 = some (Try.prog.types.getD 44 default) := by kernel_rfl
theorem fa53_2 : ∀ (p : Addr) (w : World), (Instr.fieldAt 53 (Ptr p) 2).run Try.prog w = .ok (Ptr (p.add 2)) w := e_fa Try.underlying53 rfl info44 (by kernel_rfl) rfl
theorem info3 : Try.prog.info? 3 = some (Try.prog.types.getD 3 default) := by kernel_rfl
theorem fa53_0 : ∀ (p : Addr) (w : World), (Instr.fieldAt 53 (Ptr p) 0).run Try.prog w = .ok (Ptr (p.add 0)) w := e_fa Try.underlying53 rfl info3 (by kernel_rfl) rfl
theorem fa48_0 : ∀ (p : Addr) (w : World), (Instr.fieldAt 48 (Ptr p) 0).run Try.prog w = .ok (Ptr (p.add 0)) w := e_fa Try.underlying48 rfl info3 (by kernel_rfl) rfl
theorem info56 : Try.prog.info? 56 = some (Try.prog.types.getD 56 default) := by kernel_rfl
theorem fa59_2 : ∀ (p : Addr) (w : World), (Instr.fieldAt 59 (Ptr p) 2).run Try.prog w = .ok (Ptr (p.add 2)) w := e_fa Try.underlying59 rfl info56 (by kernel_rfl) rfl
theorem info23 : Try.prog.info? 23 = some (Try.prog.types.getD 23 default) := by kernel_rfl
theorem fa61_2 : ∀ (p : Addr) (w : World), (Instr.fieldAt 61 (Ptr p) 2).run Try.prog w = .ok (Ptr (p.add 2)) w := e_fa Try.underlying61 rfl info23 (by kernel_rfl) rfl
theorem en35 (vs : Array Value) (w : World) : (callFunc 35 vs).run Try.prog w = .ok (.enter 35 vs) w := enters Try.func35 rfl rfl vs w
theorem en36 (vs : Array Value) (w : World) : (callFunc 36 vs).run Try.prog w = .ok (.enter 36 vs) w := enters Try.func36 rfl rfl vs w
theorem en37 (vs : Array Value) (w : World) : (callFunc 37 vs).run Try.prog w = .ok (.enter 37 vs) w := enters Try.func37 rfl rfl vs w
theorem en38 (vs : Array Value) (w : World) : (callFunc 38 vs).run Try.prog w = .ok (.enter 38 vs) w := enters Try.func38 rfl rfl vs w
theorem en39 (vs : Array Value) (w : World) : (callFunc 39 vs).run Try.prog w = .ok (.enter 39 vs) w := enters Try.func39 rfl rfl vs w
theorem fa59_0 : ∀ (p : Addr) (w : World), (Instr.fieldAt 59 (Ptr p) 0).run Try.prog w = .ok (Ptr (p.add 0)) w := e_fa Try.underlying59 rfl info9 (by kernel_rfl) rfl
theorem en40 (vs : Array Value) (w : World) : (callFunc 40 vs).run Try.prog w = .ok (.enter 40 vs) w := enters Try.func40 rfl rfl vs w
theorem iz9 : (Try.prog.types.getD 9 default).zero = some (.string ⟨#[]⟩) := by kernel_rfl
theorem en41 (vs : Array Value) (w : World) : (callFunc 41 vs).run Try.prog w = .ok (.enter 41 vs) w := enters Try.func41 rfl rfl vs w
theorem en42 (vs : Array Value) (w : World) : (callFunc 42 vs).run Try.prog w = .ok (.enter 42 vs) w := enters Try.func42 rfl rfl vs w
theorem en43 (vs : Array Value) (w : World) : (callFunc 43 vs).run Try.prog w = .ok (.enter 43 vs) w := enters Try.func43 rfl rfl vs w
theorem en44 (vs : Array Value) (w : World) : (callFunc 44 vs).run Try.prog w = .ok (.enter 44 vs) w := enters Try.func44 rfl rfl vs w
theorem en45 (vs : Array Value) (w : World) : (callFunc 45 vs).run Try.prog w = .ok (.enter 45 vs) w := enters Try.func45 rfl rfl vs w
theorem fa48_1 : ∀ (p : Addr) (w : World), (Instr.fieldAt 48 (Ptr p) 1).run Try.prog w = .ok (Ptr (p.add 1)) w := e_fa Try.underlying48 rfl info9 (by kernel_rfl) rfl
theorem info4 : Try.prog.info? 4 = some (Try.prog.types.getD 4 default) := by kernel_rfl
theorem fa48_7 : ∀ (p : Addr) (w : World), (Instr.fieldAt 48 (Ptr p) 7).run Try.prog w = .ok (Ptr (p.add 7)) w := e_fa Try.underlying48 rfl info4 (by kernel_rfl) rfl
theorem en46 (vs : Array Value) (w : World) : (callFunc 46 vs).run Try.prog w = .ok (.enter 46 vs) w := enters Try.func46 rfl rfl vs w
theorem zero80 : (Try.prog.info? 80).map (·.zero) = some (some (TFault.v (⟨0, 0, 0⟩ : TFault))) := by kernel_rfl
theorem info25 : Try.prog.info? 25 = some (Try.prog.types.getD 25 default) := by kernel_rfl
theorem fa80_2 : ∀ (p : Addr) (w : World), (Instr.fieldAt 80 (Ptr p) 2).run Try.prog w = .ok (Ptr (p.add 2)) w := e_fa Try.underlying80 rfl info25 (by kernel_rfl) rfl
theorem fa80_0 : ∀ (p : Addr) (w : World), (Instr.fieldAt 80 (Ptr p) 0).run Try.prog w = .ok (Ptr (p.add 0)) w := e_fa Try.underlying80 rfl info3 (by kernel_rfl) rfl
theorem fa80_1 : ∀ (p : Addr) (w : World), (Instr.fieldAt 80 (Ptr p) 1).run Try.prog w = .ok (Ptr (p.add 1)) w := e_fa Try.underlying80 rfl info3 (by kernel_rfl) rfl
theorem info45 : Try.prog.info? 45 = some (Try.prog.types.getD 45 default) := by kernel_rfl
theorem fa48_3 : ∀ (p : Addr) (w : World), (Instr.fieldAt 48 (Ptr p) 3).run Try.prog w = .ok (Ptr (p.add 3)) w := e_fa Try.underlying48 rfl info45 (by kernel_rfl) rfl
theorem zero84 : (Try.prog.info? 84).map (·.zero) = some (some (TTarget.v (⟨⟨#[]⟩, ⟨#[]⟩, 0⟩ : TTarget))) := by kernel_rfl
theorem fa84_0 : ∀ (p : Addr) (w : World), (Instr.fieldAt 84 (Ptr p) 0).run Try.prog w = .ok (Ptr (p.add 0)) w := e_fa Try.underlying84 rfl info9 (by kernel_rfl) rfl
theorem fa84_1 : ∀ (p : Addr) (w : World), (Instr.fieldAt 84 (Ptr p) 1).run Try.prog w = .ok (Ptr (p.add 1)) w := e_fa Try.underlying84 rfl info9 (by kernel_rfl) rfl
theorem en47 (vs : Array Value) (w : World) : (callFunc 47 vs).run Try.prog w = .ok (.enter 47 vs) w := enters Try.func47 rfl rfl vs w
theorem en48 (vs : Array Value) (w : World) : (callFunc 48 vs).run Try.prog w = .ok (.enter 48 vs) w := enters Try.func48 rfl rfl vs w
theorem zero48 : (Try.prog.info? 48).map (·.zero) = some (some (TResource.v (⟨0, ⟨#[]⟩, Sl.nil, Sl.nil, ⟨#[]⟩, Sl.nil, ⟨#[]⟩, false⟩ : TResource))) := by kernel_rfl
theorem size3 : (Try.prog.info? 3).map (·.size) = some 1 := by kernel_rfl
theorem size44 : (Try.prog.info? 44).map (·.size) = some 1 := by kernel_rfl
theorem size45 : (Try.prog.info? 45).map (·.size) = some 1 := by kernel_rfl
theorem size46 : (Try.prog.info? 46).map (·.size) = some 1 := by kernel_rfl
theorem size4 : (Try.prog.info? 4).map (·.size) = some 1 := by kernel_rfl
theorem pl48 (w : World) : ((fieldsOf Try.prog 48).mapM fun f => do pure (f.offset, ← sizeOf f.type) : Sem (Array (Nat × Nat))).run Try.prog w = .ok #[(0, 1), (1, 1), (2, 1), (3, 1), (4, 1), (5, 1), (6, 1), (7, 1)] w := by kernel_rfl
theorem info48 : Try.prog.info? 48 = some (Try.prog.types.getD 48 default) := by kernel_rfl
theorem iz48 : (Try.prog.types.getD 48 default).zero = some (TResource.v (⟨0, ⟨#[]⟩, Sl.nil, Sl.nil, ⟨#[]⟩, Sl.nil, ⟨#[]⟩, false⟩ : TResource)) := by kernel_rfl
theorem en49 (vs : Array Value) (w : World) : (callFunc 49 vs).run Try.prog w = .ok (.enter 49 vs) w := enters Try.func49 rfl rfl vs w
theorem fa59_1 : ∀ (p : Addr) (w : World), (Instr.fieldAt 59 (Ptr p) 1).run Try.prog w = .ok (Ptr (p.add 1)) w := e_fa Try.underlying59 rfl info9 (by kernel_rfl) rfl
theorem info91 : Try.prog.info? 91 = some (Try.prog.types.getD 91 default) := by kernel_rfl
theorem info57 : Try.prog.info? 57 = some (Try.prog.types.getD 57 default) := by kernel_rfl
theorem fa59_3 : ∀ (p : Addr) (w : World), (Instr.fieldAt 59 (Ptr p) 3).run Try.prog w = .ok (Ptr (p.add 3)) w := e_fa Try.underlying59 rfl info57 (by kernel_rfl) rfl
theorem en50 (vs : Array Value) (w : World) : (callFunc 50 vs).run Try.prog w = .ok (.enter 50 vs) w := enters Try.func50 rfl rfl vs w
theorem zero89 : (Try.prog.info? 89).map (·.zero) = some (some (TPermit.v (⟨⟨#[]⟩, ⟨#[]⟩, false⟩ : TPermit))) := by kernel_rfl
theorem fa89_0 : ∀ (p : Addr) (w : World), (Instr.fieldAt 89 (Ptr p) 0).run Try.prog w = .ok (Ptr (p.add 0)) w := e_fa Try.underlying89 rfl info9 (by kernel_rfl) rfl
theorem fa91_0 : ∀ (p : Addr) (w : World), (Instr.fieldAt 91 (Ptr p) 0).run Try.prog w = .ok (Ptr (p.add 0)) w := e_fa Try.underlying91 rfl info9 (by kernel_rfl) rfl
theorem fa89_1 : ∀ (p : Addr) (w : World), (Instr.fieldAt 89 (Ptr p) 1).run Try.prog w = .ok (Ptr (p.add 1)) w := e_fa Try.underlying89 rfl info9 (by kernel_rfl) rfl
theorem fa91_1 : ∀ (p : Addr) (w : World), (Instr.fieldAt 91 (Ptr p) 1).run Try.prog w = .ok (Ptr (p.add 1)) w := e_fa Try.underlying91 rfl info9 (by kernel_rfl) rfl
theorem fa89_2 : ∀ (p : Addr) (w : World), (Instr.fieldAt 89 (Ptr p) 2).run Try.prog w = .ok (Ptr (p.add 2)) w := e_fa Try.underlying89 rfl info4 (by kernel_rfl) rfl
theorem fa91_3 : ∀ (p : Addr) (w : World), (Instr.fieldAt 91 (Ptr p) 3).run Try.prog w = .ok (Ptr (p.add 3)) w := e_fa Try.underlying91 rfl info4 (by kernel_rfl) rfl
theorem pl84 (w : World) : ((fieldsOf Try.prog 84).mapM fun f => do pure (f.offset, ← sizeOf f.type) : Sem (Array (Nat × Nat))).run Try.prog w = .ok #[(0, 1), (1, 1), (2, 1)] w := by kernel_rfl
theorem info84 : Try.prog.info? 84 = some (Try.prog.types.getD 84 default) := by kernel_rfl
theorem iz84 : (Try.prog.types.getD 84 default).zero = some (TTarget.v (⟨⟨#[]⟩, ⟨#[]⟩, 0⟩ : TTarget)) := by kernel_rfl
theorem en51 (vs : Array Value) (w : World) : (callFunc 51 vs).run Try.prog w = .ok (.enter 51 vs) w := enters Try.func51 rfl rfl vs w
theorem en52 (vs : Array Value) (w : World) : (callFunc 52 vs).run Try.prog w = .ok (.enter 52 vs) w := enters Try.func52 rfl rfl vs w
theorem fa48_2 : ∀ (p : Addr) (w : World), (Instr.fieldAt 48 (Ptr p) 2).run Try.prog w = .ok (Ptr (p.add 2)) w := e_fa Try.underlying48 rfl info44 (by kernel_rfl) rfl
theorem info46 : Try.prog.info? 46 = some (Try.prog.types.getD 46 default) := by kernel_rfl
theorem fa48_5 : ∀ (p : Addr) (w : World), (Instr.fieldAt 48 (Ptr p) 5).run Try.prog w = .ok (Ptr (p.add 5)) w := e_fa Try.underlying48 rfl info46 (by kernel_rfl) rfl
theorem en54 (vs : Array Value) (w : World) : (callFunc 54 vs).run Try.prog w = .ok (.enter 54 vs) w := enters Try.func54 rfl rfl vs w
theorem en53 (vs : Array Value) (w : World) : (callFunc 53 vs).run Try.prog w = .ok (.enter 53 vs) w := enters Try.func53 rfl rfl vs w
theorem en56 (vs : Array Value) (w : World) : (callFunc 56 vs).run Try.prog w = .ok (.enter 56 vs) w := enters Try.func56 rfl rfl vs w
theorem en57 (vs : Array Value) (w : World) : (callFunc 57 vs).run Try.prog w = .ok (.enter 57 vs) w := enters Try.func57 rfl rfl vs w
theorem en58 (vs : Array Value) (w : World) : (callFunc 58 vs).run Try.prog w = .ok (.enter 58 vs) w := enters Try.func58 rfl rfl vs w
theorem zero101 : (Try.prog.info? 101).map (·.zero) = some (some (TFault14.v (⟨0, 0, 0⟩ : TFault14))) := by kernel_rfl
theorem fa101_2 : ∀ (p : Addr) (w : World), (Instr.fieldAt 101 (Ptr p) 2).run Try.prog w = .ok (Ptr (p.add 2)) w := e_fa Try.underlying101 rfl info3 (by kernel_rfl) rfl
theorem en59 (vs : Array Value) (w : World) : (callFunc 59 vs).run Try.prog w = .ok (.enter 59 vs) w := enters Try.func59 rfl rfl vs w
theorem en60 (vs : Array Value) (w : World) : (callFunc 60 vs).run Try.prog w = .ok (.enter 60 vs) w := enters Try.func60 rfl rfl vs w
theorem info107 : Try.prog.info? 107 = some (Try.prog.types.getD 107 default) := by kernel_rfl
theorem fa109_1 : ∀ (p : Addr) (w : World), (Instr.fieldAt 109 (Ptr p) 1).run Try.prog w = .ok (Ptr (p.add 1)) w := e_fa Try.underlying109 rfl info107 (by kernel_rfl) rfl
theorem en61 (vs : Array Value) (w : World) : (callFunc 61 vs).run Try.prog w = .ok (.enter 61 vs) w := enters Try.func61 rfl rfl vs w
theorem en62 (vs : Array Value) (w : World) : (callFunc 62 vs).run Try.prog w = .ok (.enter 62 vs) w := enters Try.func62 rfl rfl vs w
theorem en63 (vs : Array Value) (w : World) : (callFunc 63 vs).run Try.prog w = .ok (.enter 63 vs) w := enters Try.func63 rfl rfl vs w
theorem zero113 : (Try.prog.info? 113).map (·.zero) = some (some (TKey.v (⟨0, ⟨#[]⟩⟩ : TKey))) := by kernel_rfl
theorem en64 (vs : Array Value) (w : World) : (callFunc 64 vs).run Try.prog w = .ok (.enter 64 vs) w := enters Try.func64 rfl rfl vs w
theorem en65 (vs : Array Value) (w : World) : (callFunc 65 vs).run Try.prog w = .ok (.enter 65 vs) w := enters Try.func65 rfl rfl vs w
theorem en66 (vs : Array Value) (w : World) : (callFunc 66 vs).run Try.prog w = .ok (.enter 66 vs) w := enters Try.func66 rfl rfl vs w
theorem en67 (vs : Array Value) (w : World) : (callFunc 67 vs).run Try.prog w = .ok (.enter 67 vs) w := enters Try.func67 rfl rfl vs w
theorem en68 (vs : Array Value) (w : World) : (callFunc 68 vs).run Try.prog w = .ok (.enter 68 vs) w := enters Try.func68 rfl rfl vs w
theorem zero111 : (Try.prog.info? 111).map (·.zero) = some (some (.map none)) := by kernel_rfl
theorem fa48_4 : ∀ (p : Addr) (w : World), (Instr.fieldAt 48 (Ptr p) 4).run Try.prog w = .ok (Ptr (p.add 4)) w := e_fa Try.underlying48 rfl info9 (by kernel_rfl) rfl
theorem fa48_6 : ∀ (p : Addr) (w : World), (Instr.fieldAt 48 (Ptr p) 6).run Try.prog w = .ok (Ptr (p.add 6)) w := e_fa Try.underlying48 rfl info9 (by kernel_rfl) rfl
theorem en70 (vs : Array Value) (w : World) : (callFunc 70 vs).run Try.prog w = .ok (.enter 70 vs) w := enters Try.func70 rfl rfl vs w
theorem en71 (vs : Array Value) (w : World) : (callFunc 71 vs).run Try.prog w = .ok (.enter 71 vs) w := enters Try.func71 rfl rfl vs w
theorem en72 (vs : Array Value) (w : World) : (callFunc 72 vs).run Try.prog w = .ok (.enter 72 vs) w := enters Try.func72 rfl rfl vs w
theorem en75 (vs : Array Value) (w : World) : (callFunc 75 vs).run Try.prog w = .ok (.enter 75 vs) w := enters Try.func75 rfl rfl vs w
theorem fa84_2 : ∀ (p : Addr) (w : World), (Instr.fieldAt 84 (Ptr p) 2).run Try.prog w = .ok (Ptr (p.add 2)) w := e_fa Try.underlying84 rfl info30 (by kernel_rfl) rfl
theorem eqg91 : (Try.prog.eqGuardType Try.prog.depth 91) = false := by kernel_rfl
theorem zero91 : (Try.prog.info? 91).map (·.zero) = some (some (TRule.v (⟨⟨#[]⟩, ⟨#[]⟩, ⟨#[]⟩, false⟩ : TRule))) := by kernel_rfl
theorem pl91 (w : World) : ((fieldsOf Try.prog 91).mapM fun f => do pure (f.offset, ← sizeOf f.type) : Sem (Array (Nat × Nat))).run Try.prog w = .ok #[(0, 1), (1, 1), (2, 1), (3, 1)] w := by kernel_rfl
theorem iz91 : (Try.prog.types.getD 91 default).zero = some (TRule.v (⟨⟨#[]⟩, ⟨#[]⟩, ⟨#[]⟩, false⟩ : TRule)) := by kernel_rfl
theorem eqg32 : (Try.prog.eqGuardType Try.prog.depth 32) = false := by kernel_rfl
theorem size51 : (Try.prog.info? 51).map (·.size) = some 1 := by kernel_rfl
theorem pl53 (w : World) : ((fieldsOf Try.prog 53).mapM fun f => do pure (f.offset, ← sizeOf f.type) : Sem (Array (Nat × Nat))).run Try.prog w = .ok #[(0, 1), (1, 1), (2, 1)] w := by kernel_rfl
theorem info59 : Try.prog.info? 59 = some (Try.prog.types.getD 59 default) := by kernel_rfl
theorem iz59 : (Try.prog.types.getD 59 default).zero = some (THost.v (⟨⟨#[]⟩, ⟨#[]⟩, Sl.nil, Sl.nil⟩ : THost)) := by kernel_rfl
theorem en76 (vs : Array Value) (w : World) : (callFunc 76 vs).run Try.prog w = .ok (.enter 76 vs) w := enters Try.func76 rfl rfl vs w
theorem en77 (vs : Array Value) (w : World) : (callFunc 77 vs).run Try.prog w = .ok (.enter 77 vs) w := enters Try.func77 rfl rfl vs w
theorem zero59 : (Try.prog.info? 59).map (·.zero) = some (some (THost.v (⟨⟨#[]⟩, ⟨#[]⟩, Sl.nil, Sl.nil⟩ : THost))) := by kernel_rfl
theorem size56 : (Try.prog.info? 56).map (·.size) = some 1 := by kernel_rfl
theorem size57 : (Try.prog.info? 57).map (·.size) = some 1 := by kernel_rfl
theorem pl59 (w : World) : ((fieldsOf Try.prog 59).mapM fun f => do pure (f.offset, ← sizeOf f.type) : Sem (Array (Nat × Nat))).run Try.prog w = .ok #[(0, 1), (1, 1), (2, 1), (3, 1)] w := by kernel_rfl
theorem fa91_2 : ∀ (p : Addr) (w : World), (Instr.fieldAt 91 (Ptr p) 2).run Try.prog w = .ok (Ptr (p.add 2)) w := e_fa Try.underlying91 rfl info9 (by kernel_rfl) rfl
theorem zero61 : (Try.prog.info? 61).map (·.zero) = some (some (TEntry.v (⟨⟨#[]⟩, ⟨#[]⟩, Sl.nil⟩ : TEntry))) := by kernel_rfl
theorem size23 : (Try.prog.info? 23).map (·.size) = some 1 := by kernel_rfl
theorem pl61 (w : World) : ((fieldsOf Try.prog 61).mapM fun f => do pure (f.offset, ← sizeOf f.type) : Sem (Array (Nat × Nat))).run Try.prog w = .ok #[(0, 1), (1, 1), (2, 1)] w := by kernel_rfl
theorem info61 : Try.prog.info? 61 = some (Try.prog.types.getD 61 default) := by kernel_rfl
theorem iz61 : (Try.prog.types.getD 61 default).zero = some (TEntry.v (⟨⟨#[]⟩, ⟨#[]⟩, Sl.nil⟩ : TEntry)) := by kernel_rfl
theorem pl89 (w : World) : ((fieldsOf Try.prog 89).mapM fun f => do pure (f.offset, ← sizeOf f.type) : Sem (Array (Nat × Nat))).run Try.prog w = .ok #[(0, 1), (1, 1), (2, 1)] w := by kernel_rfl
theorem info89 : Try.prog.info? 89 = some (Try.prog.types.getD 89 default) := by kernel_rfl
theorem iz89 : (Try.prog.types.getD 89 default).zero = some (TPermit.v (⟨⟨#[]⟩, ⟨#[]⟩, false⟩ : TPermit)) := by kernel_rfl
theorem en79 (vs : Array Value) (w : World) : (callFunc 79 vs).run Try.prog w = .ok (.enter 79 vs) w := enters Try.func79 rfl rfl vs w
theorem en80 (vs : Array Value) (w : World) : (callFunc 80 vs).run Try.prog w = .ok (.enter 80 vs) w := enters Try.func80 rfl rfl vs w
theorem en81 (vs : Array Value) (w : World) : (callFunc 81 vs).run Try.prog w = .ok (.enter 81 vs) w := enters Try.func81 rfl rfl vs w
theorem en82 (vs : Array Value) (w : World) : (callFunc 82 vs).run Try.prog w = .ok (.enter 82 vs) w := enters Try.func82 rfl rfl vs w
theorem en83 (vs : Array Value) (w : World) : (callFunc 83 vs).run Try.prog w = .ok (.enter 83 vs) w := enters Try.func83 rfl rfl vs w
theorem en84 (vs : Array Value) (w : World) : (callFunc 84 vs).run Try.prog w = .ok (.enter 84 vs) w := enters Try.func84 rfl rfl vs w
theorem en85 (vs : Array Value) (w : World) : (callFunc 85 vs).run Try.prog w = .ok (.enter 85 vs) w := enters Try.func85 rfl rfl vs w
theorem en86 (vs : Array Value) (w : World) : (callFunc 86 vs).run Try.prog w = .ok (.enter 86 vs) w := enters Try.func86 rfl rfl vs w
theorem en87 (vs : Array Value) (w : World) : (callFunc 87 vs).run Try.prog w = .ok (.enter 87 vs) w := enters Try.func87 rfl rfl vs w
theorem en89 (vs : Array Value) (w : World) : (callFunc 89 vs).run Try.prog w = .ok (.enter 89 vs) w := enters Try.func89 rfl rfl vs w
theorem iz3 : (Try.prog.types.getD 3 default).zero = some (.int .i64 0) := by kernel_rfl
theorem en88 (vs : Array Value) (w : World) : (callFunc 88 vs).run Try.prog w = .ok (.enter 88 vs) w := enters Try.func88 rfl rfl vs w
theorem en90 (vs : Array Value) (w : World) : (callFunc 90 vs).run Try.prog w = .ok (.enter 90 vs) w := enters Try.func90 rfl rfl vs w
theorem en92 (vs : Array Value) (w : World) : (callFunc 92 vs).run Try.prog w = .ok (.enter 92 vs) w := enters Try.func92 rfl rfl vs w
theorem fa61_0 : ∀ (p : Addr) (w : World), (Instr.fieldAt 61 (Ptr p) 0).run Try.prog w = .ok (Ptr (p.add 0)) w := e_fa Try.underlying61 rfl info9 (by kernel_rfl) rfl
theorem en93 (vs : Array Value) (w : World) : (callFunc 93 vs).run Try.prog w = .ok (.enter 93 vs) w := enters Try.func93 rfl rfl vs w
theorem size25 : (Try.prog.info? 25).map (·.size) = some 1 := by kernel_rfl
theorem pl80 (w : World) : ((fieldsOf Try.prog 80).mapM fun f => do pure (f.offset, ← sizeOf f.type) : Sem (Array (Nat × Nat))).run Try.prog w = .ok #[(0, 1), (1, 1), (2, 1)] w := by kernel_rfl
theorem zero148 : (Try.prog.info? 148).map (·.zero) = some (some (TDepths.v (⟨none, none⟩ : TDepths))) := by kernel_rfl
theorem size145 : (Try.prog.info? 145).map (·.size) = some 1 := by kernel_rfl
theorem size146 : (Try.prog.info? 146).map (·.size) = some 1 := by kernel_rfl
theorem pl148 (w : World) : ((fieldsOf Try.prog 148).mapM fun f => do pure (f.offset, ← sizeOf f.type) : Sem (Array (Nat × Nat))).run Try.prog w = .ok #[(0, 1), (1, 1)] w := by kernel_rfl
theorem info145 : Try.prog.info? 145 = some (Try.prog.types.getD 145 default) := by kernel_rfl
theorem fa148_0 : ∀ (p : Addr) (w : World), (Instr.fieldAt 148 (Ptr p) 0).run Try.prog w = .ok (Ptr (p.add 0)) w := e_fa Try.underlying148 rfl info145 (by kernel_rfl) rfl
theorem en94 (vs : Array Value) (w : World) : (callFunc 94 vs).run Try.prog w = .ok (.enter 94 vs) w := enters Try.func94 rfl rfl vs w
theorem en95 (vs : Array Value) (w : World) : (callFunc 95 vs).run Try.prog w = .ok (.enter 95 vs) w := enters Try.func95 rfl rfl vs w
theorem en96 (vs : Array Value) (w : World) : (callFunc 96 vs).run Try.prog w = .ok (.enter 96 vs) w := enters Try.func96 rfl rfl vs w
theorem en97 (vs : Array Value) (w : World) : (callFunc 97 vs).run Try.prog w = .ok (.enter 97 vs) w := enters Try.func97 rfl rfl vs w
theorem en98 (vs : Array Value) (w : World) : (callFunc 98 vs).run Try.prog w = .ok (.enter 98 vs) w := enters Try.func98 rfl rfl vs w
theorem zero153 : (Try.prog.info? 153).map (·.zero) = some (some (.map none)) := by kernel_rfl
theorem zero97 : (Try.prog.info? 97).map (·.zero) = some (some (.map none)) := by kernel_rfl
theorem zero154 : (Try.prog.info? 154).map (·.zero) = some (some Value.nilFunc) := by kernel_rfl
theorem pl101 (w : World) : ((fieldsOf Try.prog 101).mapM fun f => do pure (f.offset, ← sizeOf f.type) : Sem (Array (Nat × Nat))).run Try.prog w = .ok #[(0, 1), (1, 1), (2, 1)] w := by kernel_rfl
theorem en101 (vs : Array Value) (w : World) : (callFunc 101 vs).run Try.prog w = .ok (.enter 101 vs) w := enters Try.func101 rfl rfl vs w
theorem en102 (vs : Array Value) (w : World) : (callFunc 102 vs).run Try.prog w = .ok (.enter 102 vs) w := enters Try.func102 rfl rfl vs w
theorem en103 (vs : Array Value) (w : World) : (callFunc 103 vs).run Try.prog w = .ok (.enter 103 vs) w := enters Try.func103 rfl rfl vs w
theorem zero160 : (Try.prog.info? 160).map (·.zero) = some (some (TWarning14.v (⟨0, 0, 0⟩ : TWarning14))) := by kernel_rfl
theorem pl160 (w : World) : ((fieldsOf Try.prog 160).mapM fun f => do pure (f.offset, ← sizeOf f.type) : Sem (Array (Nat × Nat))).run Try.prog w = .ok #[(0, 1), (1, 1), (2, 1)] w := by kernel_rfl
theorem info160 : Try.prog.info? 160 = some (Try.prog.types.getD 160 default) := by kernel_rfl
theorem iz160 : (Try.prog.types.getD 160 default).zero = some (TWarning14.v (⟨0, 0, 0⟩ : TWarning14)) := by kernel_rfl
theorem zero109 : (Try.prog.info? 109).map (·.zero) = some (some (TKnown15.v (⟨Sl.nil, Sl.nil⟩ : TKnown15))) := by kernel_rfl
theorem size107 : (Try.prog.info? 107).map (·.size) = some 1 := by kernel_rfl
theorem pl109 (w : World) : ((fieldsOf Try.prog 109).mapM fun f => do pure (f.offset, ← sizeOf f.type) : Sem (Array (Nat × Nat))).run Try.prog w = .ok #[(0, 1), (1, 1)] w := by kernel_rfl
theorem en104 (vs : Array Value) (w : World) : (callFunc 104 vs).run Try.prog w = .ok (.enter 104 vs) w := enters Try.func104 rfl rfl vs w
theorem fa109_0 : ∀ (p : Addr) (w : World), (Instr.fieldAt 109 (Ptr p) 0).run Try.prog w = .ok (Ptr (p.add 0)) w := e_fa Try.underlying109 rfl info44 (by kernel_rfl) rfl
theorem iz23 : (Try.prog.types.getD 23 default).zero = some (Sl.v Sl.nil) := by kernel_rfl
theorem en106 (vs : Array Value) (w : World) : (callFunc 106 vs).run Try.prog w = .ok (.enter 106 vs) w := enters Try.func106 rfl rfl vs w
theorem en107 (vs : Array Value) (w : World) : (callFunc 107 vs).run Try.prog w = .ok (.enter 107 vs) w := enters Try.func107 rfl rfl vs w
theorem pl113 (w : World) : ((fieldsOf Try.prog 113).mapM fun f => do pure (f.offset, ← sizeOf f.type) : Sem (Array (Nat × Nat))).run Try.prog w = .ok #[(0, 1), (1, 1)] w := by kernel_rfl
theorem en108 (vs : Array Value) (w : World) : (callFunc 108 vs).run Try.prog w = .ok (.enter 108 vs) w := enters Try.func108 rfl rfl vs w
theorem en109 (vs : Array Value) (w : World) : (callFunc 109 vs).run Try.prog w = .ok (.enter 109 vs) w := enters Try.func109 rfl rfl vs w
theorem en74 (vs : Array Value) (w : World) : (callFunc 74 vs).run Try.prog w = .ok (.enter 74 vs) w := enters Try.func74 rfl rfl vs w
theorem en113 (vs : Array Value) (w : World) : (callFunc 113 vs).run Try.prog w = .ok (.enter 113 vs) w := enters Try.func113 rfl rfl vs w
theorem en114 (vs : Array Value) (w : World) : (callFunc 114 vs).run Try.prog w = .ok (.enter 114 vs) w := enters Try.func114 rfl rfl vs w
theorem en115 (vs : Array Value) (w : World) : (callFunc 115 vs).run Try.prog w = .ok (.enter 115 vs) w := enters Try.func115 rfl rfl vs w
theorem fa61_1 : ∀ (p : Addr) (w : World), (Instr.fieldAt 61 (Ptr p) 1).run Try.prog w = .ok (Ptr (p.add 1)) w := e_fa Try.underlying61 rfl info9 (by kernel_rfl) rfl
theorem eqg89 : (Try.prog.eqGuardType Try.prog.depth 89) = false := by kernel_rfl
theorem en116 (vs : Array Value) (w : World) : (callFunc 116 vs).run Try.prog w = .ok (.enter 116 vs) w := enters Try.func116 rfl rfl vs w
theorem en117 (vs : Array Value) (w : World) : (callFunc 117 vs).run Try.prog w = .ok (.enter 117 vs) w := enters Try.func117 rfl rfl vs w
theorem en118 (vs : Array Value) (w : World) : (callFunc 118 vs).run Try.prog w = .ok (.enter 118 vs) w := enters Try.func118 rfl rfl vs w
theorem en119 (vs : Array Value) (w : World) : (callFunc 119 vs).run Try.prog w = .ok (.enter 119 vs) w := enters Try.func119 rfl rfl vs w
theorem en120 (vs : Array Value) (w : World) : (callFunc 120 vs).run Try.prog w = .ok (.enter 120 vs) w := enters Try.func120 rfl rfl vs w
theorem en111 (vs : Array Value) (w : World) : (callFunc 111 vs).run Try.prog w = .ok (.enter 111 vs) w := enters Try.func111 rfl rfl vs w
theorem info146 : Try.prog.info? 146 = some (Try.prog.types.getD 146 default) := by kernel_rfl
theorem fa148_1 : ∀ (p : Addr) (w : World), (Instr.fieldAt 148 (Ptr p) 1).run Try.prog w = .ok (Ptr (p.add 1)) w := e_fa Try.underlying148 rfl info146 (by kernel_rfl) rfl
theorem en121 (vs : Array Value) (w : World) : (callFunc 121 vs).run Try.prog w = .ok (.enter 121 vs) w := enters Try.func121 rfl rfl vs w
theorem zero177 : (Try.prog.info? 177).map (·.zero) = some (some (TWarning.v (⟨0, 0, 0⟩ : TWarning))) := by kernel_rfl
theorem pl177 (w : World) : ((fieldsOf Try.prog 177).mapM fun f => do pure (f.offset, ← sizeOf f.type) : Sem (Array (Nat × Nat))).run Try.prog w = .ok #[(0, 1), (1, 1), (2, 1)] w := by kernel_rfl
theorem info177 : Try.prog.info? 177 = some (Try.prog.types.getD 177 default) := by kernel_rfl
theorem iz177 : (Try.prog.types.getD 177 default).zero = some (TWarning.v (⟨0, 0, 0⟩ : TWarning)) := by kernel_rfl
theorem en100 (vs : Array Value) (w : World) : (callFunc 100 vs).run Try.prog w = .ok (.enter 100 vs) w := enters Try.func100 rfl rfl vs w
theorem en124 (vs : Array Value) (w : World) : (callFunc 124 vs).run Try.prog w = .ok (.enter 124 vs) w := enters Try.func124 rfl rfl vs w
theorem en126 (vs : Array Value) (w : World) : (callFunc 126 vs).run Try.prog w = .ok (.enter 126 vs) w := enters Try.func126 rfl rfl vs w
theorem en127 (vs : Array Value) (w : World) : (callFunc 127 vs).run Try.prog w = .ok (.enter 127 vs) w := enters Try.func127 rfl rfl vs w
theorem en128 (vs : Array Value) (w : World) : (callFunc 128 vs).run Try.prog w = .ok (.enter 128 vs) w := enters Try.func128 rfl rfl vs w
theorem en129 (vs : Array Value) (w : World) : (callFunc 129 vs).run Try.prog w = .ok (.enter 129 vs) w := enters Try.func129 rfl rfl vs w
theorem en131 (vs : Array Value) (w : World) : (callFunc 131 vs).run Try.prog w = .ok (.enter 131 vs) w := enters Try.func131 rfl rfl vs w
theorem en130 (vs : Array Value) (w : World) : (callFunc 130 vs).run Try.prog w = .ok (.enter 130 vs) w := enters Try.func130 rfl rfl vs w
theorem en133 (vs : Array Value) (w : World) : (callFunc 133 vs).run Try.prog w = .ok (.enter 133 vs) w := enters Try.func133 rfl rfl vs w
theorem en132 (vs : Array Value) (w : World) : (callFunc 132 vs).run Try.prog w = .ok (.enter 132 vs) w := enters Try.func132 rfl rfl vs w
theorem fa113_0 : ∀ (p : Addr) (w : World), (Instr.fieldAt 113 (Ptr p) 0).run Try.prog w = .ok (Ptr (p.add 0)) w := e_fa Try.underlying113 rfl info3 (by kernel_rfl) rfl
theorem fa113_1 : ∀ (p : Addr) (w : World), (Instr.fieldAt 113 (Ptr p) 1).run Try.prog w = .ok (Ptr (p.add 1)) w := e_fa Try.underlying113 rfl info9 (by kernel_rfl) rfl
theorem en134 (vs : Array Value) (w : World) : (callFunc 134 vs).run Try.prog w = .ok (.enter 134 vs) w := enters Try.func134 rfl rfl vs w
theorem en135 (vs : Array Value) (w : World) : (callFunc 135 vs).run Try.prog w = .ok (.enter 135 vs) w := enters Try.func135 rfl rfl vs w
theorem en136 (vs : Array Value) (w : World) : (callFunc 136 vs).run Try.prog w = .ok (.enter 136 vs) w := enters Try.func136 rfl rfl vs w
theorem en137 (vs : Array Value) (w : World) : (callFunc 137 vs).run Try.prog w = .ok (.enter 137 vs) w := enters Try.func137 rfl rfl vs w
theorem en138 (vs : Array Value) (w : World) : (callFunc 138 vs).run Try.prog w = .ok (.enter 138 vs) w := enters Try.func138 rfl rfl vs w
theorem en139 (vs : Array Value) (w : World) : (callFunc 139 vs).run Try.prog w = .ok (.enter 139 vs) w := enters Try.func139 rfl rfl vs w
theorem en123 (vs : Array Value) (w : World) : (callFunc 123 vs).run Try.prog w = .ok (.enter 123 vs) w := enters Try.func123 rfl rfl vs w
theorem en140 (vs : Array Value) (w : World) : (callFunc 140 vs).run Try.prog w = .ok (.enter 140 vs) w := enters Try.func140 rfl rfl vs w
theorem en141 (vs : Array Value) (w : World) : (callFunc 141 vs).run Try.prog w = .ok (.enter 141 vs) w := enters Try.func141 rfl rfl vs w
theorem en142 (vs : Array Value) (w : World) : (callFunc 142 vs).run Try.prog w = .ok (.enter 142 vs) w := enters Try.func142 rfl rfl vs w
theorem en143 (vs : Array Value) (w : World) : (callFunc 143 vs).run Try.prog w = .ok (.enter 143 vs) w := enters Try.func143 rfl rfl vs w
theorem en144 (vs : Array Value) (w : World) : (callFunc 144 vs).run Try.prog w = .ok (.enter 144 vs) w := enters Try.func144 rfl rfl vs w
theorem en145 (vs : Array Value) (w : World) : (callFunc 145 vs).run Try.prog w = .ok (.enter 145 vs) w := enters Try.func145 rfl rfl vs w
theorem en146 (vs : Array Value) (w : World) : (callFunc 146 vs).run Try.prog w = .ok (.enter 146 vs) w := enters Try.func146 rfl rfl vs w
theorem en147 (vs : Array Value) (w : World) : (callFunc 147 vs).run Try.prog w = .ok (.enter 147 vs) w := enters Try.func147 rfl rfl vs w
theorem en148 (vs : Array Value) (w : World) : (callFunc 148 vs).run Try.prog w = .ok (.enter 148 vs) w := enters Try.func148 rfl rfl vs w
theorem en149 (vs : Array Value) (w : World) : (callFunc 149 vs).run Try.prog w = .ok (.enter 149 vs) w := enters Try.func149 rfl rfl vs w
theorem en150 (vs : Array Value) (w : World) : (callFunc 150 vs).run Try.prog w = .ok (.enter 150 vs) w := enters Try.func150 rfl rfl vs w
theorem en151 (vs : Array Value) (w : World) : (callFunc 151 vs).run Try.prog w = .ok (.enter 151 vs) w := enters Try.func151 rfl rfl vs w
theorem en153 (vs : Array Value) (w : World) : (callFunc 153 vs).run Try.prog w = .ok (.enter 153 vs) w := enters Try.func153 rfl rfl vs w
theorem en154 (vs : Array Value) (w : World) : (callFunc 154 vs).run Try.prog w = .ok (.enter 154 vs) w := enters Try.func154 rfl rfl vs w
theorem en155 (vs : Array Value) (w : World) : (callFunc 155 vs).run Try.prog w = .ok (.enter 155 vs) w := enters Try.func155 rfl rfl vs w
theorem info5 : Try.prog.info? 5 = some (Try.prog.types.getD 5 default) := by kernel_rfl
theorem iz5 : (Try.prog.types.getD 5 default).zero = some (.int .u8 0) := by kernel_rfl
theorem en156 (vs : Array Value) (w : World) : (callFunc 156 vs).run Try.prog w = .ok (.enter 156 vs) w := enters Try.func156 rfl rfl vs w
theorem en157 (vs : Array Value) (w : World) : (callFunc 157 vs).run Try.prog w = .ok (.enter 157 vs) w := enters Try.func157 rfl rfl vs w
theorem en158 (vs : Array Value) (w : World) : (callFunc 158 vs).run Try.prog w = .ok (.enter 158 vs) w := enters Try.func158 rfl rfl vs w
theorem zero199 : (Try.prog.info? 199).map (·.zero) = some (some (.int .u64 0)) := by kernel_rfl
theorem en159 (vs : Array Value) (w : World) : (callFunc 159 vs).run Try.prog w = .ok (.enter 159 vs) w := enters Try.func159 rfl rfl vs w
theorem en160 (vs : Array Value) (w : World) : (callFunc 160 vs).run Try.prog w = .ok (.enter 160 vs) w := enters Try.func160 rfl rfl vs w
theorem zero3 : (Try.prog.info? 3).map (·.zero) = some (some (.int .i64 0)) := by kernel_rfl
theorem en161 (vs : Array Value) (w : World) : (callFunc 161 vs).run Try.prog w = .ok (.enter 161 vs) w := enters Try.func161 rfl rfl vs w
theorem en162 (vs : Array Value) (w : World) : (callFunc 162 vs).run Try.prog w = .ok (.enter 162 vs) w := enters Try.func162 rfl rfl vs w
theorem en164 (vs : Array Value) (w : World) : (callFunc 164 vs).run Try.prog w = .ok (.enter 164 vs) w := enters Try.func164 rfl rfl vs w
theorem en165 (vs : Array Value) (w : World) : (callFunc 165 vs).run Try.prog w = .ok (.enter 165 vs) w := enters Try.func165 rfl rfl vs w
theorem en166 (vs : Array Value) (w : World) : (callFunc 166 vs).run Try.prog w = .ok (.enter 166 vs) w := enters Try.func166 rfl rfl vs w
theorem one1 : One Try.prog 1 := ⟨_, Try.underlying1, rfl⟩
theorem sz1 : (Try.prog.info? 1).map (·.size) = some 1 := by kernel_rfl
theorem one2 : One Try.prog 2 := ⟨_, Try.underlying2, rfl⟩
theorem sz2 : (Try.prog.info? 2).map (·.size) = some 1 := by kernel_rfl
theorem one3 : One Try.prog 3 := ⟨_, Try.underlying3, rfl⟩
theorem sz3 : (Try.prog.info? 3).map (·.size) = some 1 := by kernel_rfl
theorem one4 : One Try.prog 4 := ⟨_, Try.underlying4, rfl⟩
theorem sz4 : (Try.prog.info? 4).map (·.size) = some 1 := by kernel_rfl
theorem one5 : One Try.prog 5 := ⟨_, Try.underlying5, rfl⟩
theorem sz5 : (Try.prog.info? 5).map (·.size) = some 1 := by kernel_rfl
theorem one6 : One Try.prog 6 := ⟨_, Try.underlying6, rfl⟩
theorem sz6 : (Try.prog.info? 6).map (·.size) = some 1 := by kernel_rfl
theorem one9 : One Try.prog 9 := ⟨_, Try.underlying9, rfl⟩
theorem sz9 : (Try.prog.info? 9).map (·.size) = some 1 := by kernel_rfl
theorem one10 : One Try.prog 10 := ⟨_, Try.underlying10, rfl⟩
theorem sz10 : (Try.prog.info? 10).map (·.size) = some 1 := by kernel_rfl
theorem one11 : One Try.prog 11 := ⟨_, Try.underlying11, rfl⟩
theorem sz11 : (Try.prog.info? 11).map (·.size) = some 1 := by kernel_rfl
theorem one12 : One Try.prog 12 := ⟨_, Try.underlying12, rfl⟩
theorem sz12 : (Try.prog.info? 12).map (·.size) = some 1 := by kernel_rfl
theorem one15 : One Try.prog 15 := ⟨_, Try.underlying15, rfl⟩
theorem sz15 : (Try.prog.info? 15).map (·.size) = some 1 := by kernel_rfl
theorem one16 : One Try.prog 16 := ⟨_, Try.underlying16, rfl⟩
theorem sz16 : (Try.prog.info? 16).map (·.size) = some 1 := by kernel_rfl
theorem one17 : One Try.prog 17 := ⟨_, Try.underlying17, rfl⟩
theorem sz17 : (Try.prog.info? 17).map (·.size) = some 1 := by kernel_rfl
theorem one20 : One Try.prog 20 := ⟨_, Try.underlying20, rfl⟩
theorem sz20 : (Try.prog.info? 20).map (·.size) = some 1 := by kernel_rfl
theorem one21 : One Try.prog 21 := ⟨_, Try.underlying21, rfl⟩
theorem sz21 : (Try.prog.info? 21).map (·.size) = some 1 := by kernel_rfl
theorem one22 : One Try.prog 22 := ⟨_, Try.underlying22, rfl⟩
theorem sz22 : (Try.prog.info? 22).map (·.size) = some 1 := by kernel_rfl
theorem sl22 : SlT Try.prog 22 48 8 := ⟨Try.underlying22, by kernel_rfl⟩
theorem el22 : ElT Try.prog 22 48 8 136 (TResource.v (⟨0, ⟨#[]⟩, Sl.nil, Sl.nil, ⟨#[]⟩, Sl.nil, ⟨#[]⟩, false⟩ : TResource)) := ⟨Try.underlying22, by kernel_rfl, rfl, by decide⟩
theorem one23 : One Try.prog 23 := ⟨_, Try.underlying23, rfl⟩
theorem sz23 : (Try.prog.info? 23).map (·.size) = some 1 := by kernel_rfl
theorem sl23 : SlT Try.prog 23 32 2 := ⟨Try.underlying23, by kernel_rfl⟩
theorem el23 : ElT Try.prog 23 32 2 24 (TShare.v (⟨⟨#[]⟩, 0⟩ : TShare)) := ⟨Try.underlying23, by kernel_rfl, rfl, by decide⟩
theorem one24 : One Try.prog 24 := ⟨_, Try.underlying24, rfl⟩
theorem sz24 : (Try.prog.info? 24).map (·.size) = some 1 := by kernel_rfl
theorem one25 : One Try.prog 25 := ⟨_, Try.underlying25, rfl⟩
theorem sz25 : (Try.prog.info? 25).map (·.size) = some 1 := by kernel_rfl
theorem one27 : One Try.prog 27 := ⟨_, Try.underlying27, rfl⟩
theorem sz27 : (Try.prog.info? 27).map (·.size) = some 1 := by kernel_rfl
theorem one29 : One Try.prog 29 := ⟨_, Try.underlying29, rfl⟩
theorem sz29 : (Try.prog.info? 29).map (·.size) = some 1 := by kernel_rfl
theorem one30 : One Try.prog 30 := ⟨_, Try.underlying30, rfl⟩
theorem sz30 : (Try.prog.info? 30).map (·.size) = some 1 := by kernel_rfl
theorem many32 : Many Try.prog 32 2 := ⟨⟨_, Try.underlying32, rfl⟩, by kernel_rfl⟩
theorem sz32 : (Try.prog.info? 32).map (·.size) = some 2 := by kernel_rfl
theorem one33 : One Try.prog 33 := ⟨_, Try.underlying33, rfl⟩
theorem sz33 : (Try.prog.info? 33).map (·.size) = some 1 := by kernel_rfl
theorem one34 : One Try.prog 34 := ⟨_, Try.underlying34, rfl⟩
theorem sz34 : (Try.prog.info? 34).map (·.size) = some 1 := by kernel_rfl
theorem one35 : One Try.prog 35 := ⟨_, Try.underlying35, rfl⟩
theorem sz35 : (Try.prog.info? 35).map (·.size) = some 1 := by kernel_rfl
theorem one36 : One Try.prog 36 := ⟨_, Try.underlying36, rfl⟩
theorem sz36 : (Try.prog.info? 36).map (·.size) = some 1 := by kernel_rfl
theorem one38 : One Try.prog 38 := ⟨_, Try.underlying38, rfl⟩
theorem sz38 : (Try.prog.info? 38).map (·.size) = some 1 := by kernel_rfl
theorem one40 : One Try.prog 40 := ⟨_, Try.underlying40, rfl⟩
theorem sz40 : (Try.prog.info? 40).map (·.size) = some 1 := by kernel_rfl
theorem one41 : One Try.prog 41 := ⟨_, Try.underlying41, rfl⟩
theorem sz41 : (Try.prog.info? 41).map (·.size) = some 1 := by kernel_rfl
theorem one42 : One Try.prog 42 := ⟨_, Try.underlying42, rfl⟩
theorem sz42 : (Try.prog.info? 42).map (·.size) = some 1 := by kernel_rfl
theorem one43 : One Try.prog 43 := ⟨_, Try.underlying43, rfl⟩
theorem sz43 : (Try.prog.info? 43).map (·.size) = some 1 := by kernel_rfl
theorem one44 : One Try.prog 44 := ⟨_, Try.underlying44, rfl⟩
theorem sz44 : (Try.prog.info? 44).map (·.size) = some 1 := by kernel_rfl
theorem sl44 : SlT Try.prog 44 9 1 := ⟨Try.underlying44, by kernel_rfl⟩
theorem el44 : ElT Try.prog 44 9 1 16 (.string ⟨#[]⟩) := ⟨Try.underlying44, by kernel_rfl, rfl, by decide⟩
theorem one45 : One Try.prog 45 := ⟨_, Try.underlying45, rfl⟩
theorem sz45 : (Try.prog.info? 45).map (·.size) = some 1 := by kernel_rfl
theorem sl45 : SlT Try.prog 45 84 3 := ⟨Try.underlying45, by kernel_rfl⟩
theorem el45 : ElT Try.prog 45 84 3 40 (TTarget.v (⟨⟨#[]⟩, ⟨#[]⟩, 0⟩ : TTarget)) := ⟨Try.underlying45, by kernel_rfl, rfl, by decide⟩
theorem one46 : One Try.prog 46 := ⟨_, Try.underlying46, rfl⟩
theorem sz46 : (Try.prog.info? 46).map (·.size) = some 1 := by kernel_rfl
theorem sl46 : SlT Try.prog 46 91 4 := ⟨Try.underlying46, by kernel_rfl⟩
theorem el46 : ElT Try.prog 46 91 4 56 (TRule.v (⟨⟨#[]⟩, ⟨#[]⟩, ⟨#[]⟩, false⟩ : TRule)) := ⟨Try.underlying46, by kernel_rfl, rfl, by decide⟩
theorem many48 : Many Try.prog 48 8 := ⟨⟨_, Try.underlying48, rfl⟩, by kernel_rfl⟩
theorem sz48 : (Try.prog.info? 48).map (·.size) = some 8 := by kernel_rfl
theorem one49 : One Try.prog 49 := ⟨_, Try.underlying49, rfl⟩
theorem sz49 : (Try.prog.info? 49).map (·.size) = some 1 := by kernel_rfl
theorem one50 : One Try.prog 50 := ⟨_, Try.underlying50, rfl⟩
theorem sz50 : (Try.prog.info? 50).map (·.size) = some 1 := by kernel_rfl
theorem one51 : One Try.prog 51 := ⟨_, Try.underlying51, rfl⟩
theorem sz51 : (Try.prog.info? 51).map (·.size) = some 1 := by kernel_rfl
theorem sl51 : SlT Try.prog 51 59 4 := ⟨Try.underlying51, by kernel_rfl⟩
theorem el51 : ElT Try.prog 51 59 4 80 (THost.v (⟨⟨#[]⟩, ⟨#[]⟩, Sl.nil, Sl.nil⟩ : THost)) := ⟨Try.underlying51, by kernel_rfl, rfl, by decide⟩
theorem many53 : Many Try.prog 53 3 := ⟨⟨_, Try.underlying53, rfl⟩, by kernel_rfl⟩
theorem sz53 : (Try.prog.info? 53).map (·.size) = some 3 := by kernel_rfl
theorem one55 : One Try.prog 55 := ⟨_, Try.underlying55, rfl⟩
theorem sz55 : (Try.prog.info? 55).map (·.size) = some 1 := by kernel_rfl
theorem one56 : One Try.prog 56 := ⟨_, Try.underlying56, rfl⟩
theorem sz56 : (Try.prog.info? 56).map (·.size) = some 1 := by kernel_rfl
theorem sl56 : SlT Try.prog 56 61 3 := ⟨Try.underlying56, by kernel_rfl⟩
theorem el56 : ElT Try.prog 56 61 3 56 (TEntry.v (⟨⟨#[]⟩, ⟨#[]⟩, Sl.nil⟩ : TEntry)) := ⟨Try.underlying56, by kernel_rfl, rfl, by decide⟩
theorem one57 : One Try.prog 57 := ⟨_, Try.underlying57, rfl⟩
theorem sz57 : (Try.prog.info? 57).map (·.size) = some 1 := by kernel_rfl
theorem sl57 : SlT Try.prog 57 89 3 := ⟨Try.underlying57, by kernel_rfl⟩
theorem el57 : ElT Try.prog 57 89 3 40 (TPermit.v (⟨⟨#[]⟩, ⟨#[]⟩, false⟩ : TPermit)) := ⟨Try.underlying57, by kernel_rfl, rfl, by decide⟩
theorem many59 : Many Try.prog 59 4 := ⟨⟨_, Try.underlying59, rfl⟩, by kernel_rfl⟩
theorem sz59 : (Try.prog.info? 59).map (·.size) = some 4 := by kernel_rfl
theorem many61 : Many Try.prog 61 3 := ⟨⟨_, Try.underlying61, rfl⟩, by kernel_rfl⟩
theorem sz61 : (Try.prog.info? 61).map (·.size) = some 3 := by kernel_rfl
theorem one62 : One Try.prog 62 := ⟨_, Try.underlying62, rfl⟩
theorem sz62 : (Try.prog.info? 62).map (·.size) = some 1 := by kernel_rfl
theorem one63 : One Try.prog 63 := ⟨_, Try.underlying63, rfl⟩
theorem sz63 : (Try.prog.info? 63).map (·.size) = some 1 := by kernel_rfl
theorem one65 : One Try.prog 65 := ⟨_, Try.underlying65, rfl⟩
theorem sz65 : (Try.prog.info? 65).map (·.size) = some 1 := by kernel_rfl
theorem one66 : One Try.prog 66 := ⟨_, Try.underlying66, rfl⟩
theorem sz66 : (Try.prog.info? 66).map (·.size) = some 1 := by kernel_rfl
theorem one67 : One Try.prog 67 := ⟨_, Try.underlying67, rfl⟩
theorem sz67 : (Try.prog.info? 67).map (·.size) = some 1 := by kernel_rfl
theorem one68 : One Try.prog 68 := ⟨_, Try.underlying68, rfl⟩
theorem sz68 : (Try.prog.info? 68).map (·.size) = some 1 := by kernel_rfl
theorem one69 : One Try.prog 69 := ⟨_, Try.underlying69, rfl⟩
theorem sz69 : (Try.prog.info? 69).map (·.size) = some 1 := by kernel_rfl
theorem one70 : One Try.prog 70 := ⟨_, Try.underlying70, rfl⟩
theorem sz70 : (Try.prog.info? 70).map (·.size) = some 1 := by kernel_rfl
theorem one72 : One Try.prog 72 := ⟨_, Try.underlying72, rfl⟩
theorem sz72 : (Try.prog.info? 72).map (·.size) = some 1 := by kernel_rfl
theorem one73 : One Try.prog 73 := ⟨_, Try.underlying73, rfl⟩
theorem sz73 : (Try.prog.info? 73).map (·.size) = some 1 := by kernel_rfl
theorem one74 : One Try.prog 74 := ⟨_, Try.underlying74, rfl⟩
theorem sz74 : (Try.prog.info? 74).map (·.size) = some 1 := by kernel_rfl
theorem one75 : One Try.prog 75 := ⟨_, Try.underlying75, rfl⟩
theorem sz75 : (Try.prog.info? 75).map (·.size) = some 1 := by kernel_rfl
theorem one76 : One Try.prog 76 := ⟨_, Try.underlying76, rfl⟩
theorem sz76 : (Try.prog.info? 76).map (·.size) = some 1 := by kernel_rfl
theorem one77 : One Try.prog 77 := ⟨_, Try.underlying77, rfl⟩
theorem sz77 : (Try.prog.info? 77).map (·.size) = some 1 := by kernel_rfl
theorem sl77 : SlT Try.prog 77 3 1 := ⟨Try.underlying77, by kernel_rfl⟩
theorem el77 : ElT Try.prog 77 3 1 8 (.int .i64 0) := ⟨Try.underlying77, by kernel_rfl, rfl, by decide⟩
theorem one78 : One Try.prog 78 := ⟨_, Try.underlying78, rfl⟩
theorem sz78 : (Try.prog.info? 78).map (·.size) = some 1 := by kernel_rfl
theorem sl78 : SlT Try.prog 78 177 3 := ⟨Try.underlying78, by kernel_rfl⟩
theorem el78 : ElT Try.prog 78 177 3 24 (TWarning.v (⟨0, 0, 0⟩ : TWarning)) := ⟨Try.underlying78, by kernel_rfl, rfl, by decide⟩
theorem many80 : Many Try.prog 80 3 := ⟨⟨_, Try.underlying80, rfl⟩, by kernel_rfl⟩
theorem sz80 : (Try.prog.info? 80).map (·.size) = some 3 := by kernel_rfl
theorem one82 : One Try.prog 82 := ⟨_, Try.underlying82, rfl⟩
theorem sz82 : (Try.prog.info? 82).map (·.size) = some 1 := by kernel_rfl
theorem many84 : Many Try.prog 84 3 := ⟨⟨_, Try.underlying84, rfl⟩, by kernel_rfl⟩
theorem sz84 : (Try.prog.info? 84).map (·.size) = some 3 := by kernel_rfl
theorem one85 : One Try.prog 85 := ⟨_, Try.underlying85, rfl⟩
theorem sz85 : (Try.prog.info? 85).map (·.size) = some 1 := by kernel_rfl
theorem one87 : One Try.prog 87 := ⟨_, Try.underlying87, rfl⟩
theorem sz87 : (Try.prog.info? 87).map (·.size) = some 1 := by kernel_rfl
theorem many89 : Many Try.prog 89 3 := ⟨⟨_, Try.underlying89, rfl⟩, by kernel_rfl⟩
theorem sz89 : (Try.prog.info? 89).map (·.size) = some 3 := by kernel_rfl
theorem many91 : Many Try.prog 91 4 := ⟨⟨_, Try.underlying91, rfl⟩, by kernel_rfl⟩
theorem sz91 : (Try.prog.info? 91).map (·.size) = some 4 := by kernel_rfl
theorem one92 : One Try.prog 92 := ⟨_, Try.underlying92, rfl⟩
theorem sz92 : (Try.prog.info? 92).map (·.size) = some 1 := by kernel_rfl
theorem one93 : One Try.prog 93 := ⟨_, Try.underlying93, rfl⟩
theorem sz93 : (Try.prog.info? 93).map (·.size) = some 1 := by kernel_rfl
theorem one94 : One Try.prog 94 := ⟨_, Try.underlying94, rfl⟩
theorem sz94 : (Try.prog.info? 94).map (·.size) = some 1 := by kernel_rfl
theorem one95 : One Try.prog 95 := ⟨_, Try.underlying95, rfl⟩
theorem sz95 : (Try.prog.info? 95).map (·.size) = some 1 := by kernel_rfl
theorem one96 : One Try.prog 96 := ⟨_, Try.underlying96, rfl⟩
theorem sz96 : (Try.prog.info? 96).map (·.size) = some 1 := by kernel_rfl
theorem one97 : One Try.prog 97 := ⟨_, Try.underlying97, rfl⟩
theorem sz97 : (Try.prog.info? 97).map (·.size) = some 1 := by kernel_rfl
theorem one98 : One Try.prog 98 := ⟨_, Try.underlying98, rfl⟩
theorem sz98 : (Try.prog.info? 98).map (·.size) = some 1 := by kernel_rfl
theorem one99 : One Try.prog 99 := ⟨_, Try.underlying99, rfl⟩
theorem sz99 : (Try.prog.info? 99).map (·.size) = some 1 := by kernel_rfl
theorem sl99 : SlT Try.prog 99 160 3 := ⟨Try.underlying99, by kernel_rfl⟩
theorem el99 : ElT Try.prog 99 160 3 24 (TWarning14.v (⟨0, 0, 0⟩ : TWarning14)) := ⟨Try.underlying99, by kernel_rfl, rfl, by decide⟩
theorem many101 : Many Try.prog 101 3 := ⟨⟨_, Try.underlying101, rfl⟩, by kernel_rfl⟩
theorem sz101 : (Try.prog.info? 101).map (·.size) = some 3 := by kernel_rfl
theorem one103 : One Try.prog 103 := ⟨_, Try.underlying103, rfl⟩
theorem sz103 : (Try.prog.info? 103).map (·.size) = some 1 := by kernel_rfl
theorem one104 : One Try.prog 104 := ⟨_, Try.underlying104, rfl⟩
theorem sz104 : (Try.prog.info? 104).map (·.size) = some 1 := by kernel_rfl
theorem one105 : One Try.prog 105 := ⟨_, Try.underlying105, rfl⟩
theorem sz105 : (Try.prog.info? 105).map (·.size) = some 1 := by kernel_rfl
theorem one106 : One Try.prog 106 := ⟨_, Try.underlying106, rfl⟩
theorem sz106 : (Try.prog.info? 106).map (·.size) = some 1 := by kernel_rfl
theorem one107 : One Try.prog 107 := ⟨_, Try.underlying107, rfl⟩
theorem sz107 : (Try.prog.info? 107).map (·.size) = some 1 := by kernel_rfl
theorem sl107 : SlT Try.prog 107 23 1 := ⟨Try.underlying107, by kernel_rfl⟩
theorem el107 : ElT Try.prog 107 23 1 24 (Sl.v Sl.nil) := ⟨Try.underlying107, by kernel_rfl, rfl, by decide⟩
theorem many109 : Many Try.prog 109 2 := ⟨⟨_, Try.underlying109, rfl⟩, by kernel_rfl⟩
theorem sz109 : (Try.prog.info? 109).map (·.size) = some 2 := by kernel_rfl
theorem one110 : One Try.prog 110 := ⟨_, Try.underlying110, rfl⟩
theorem sz110 : (Try.prog.info? 110).map (·.size) = some 1 := by kernel_rfl
theorem one111 : One Try.prog 111 := ⟨_, Try.underlying111, rfl⟩
theorem sz111 : (Try.prog.info? 111).map (·.size) = some 1 := by kernel_rfl
theorem many113 : Many Try.prog 113 2 := ⟨⟨_, Try.underlying113, rfl⟩, by kernel_rfl⟩
theorem sz113 : (Try.prog.info? 113).map (·.size) = some 2 := by kernel_rfl
theorem one114 : One Try.prog 114 := ⟨_, Try.underlying114, rfl⟩
theorem sz114 : (Try.prog.info? 114).map (·.size) = some 1 := by kernel_rfl
theorem one115 : One Try.prog 115 := ⟨_, Try.underlying115, rfl⟩
theorem sz115 : (Try.prog.info? 115).map (·.size) = some 1 := by kernel_rfl
theorem one117 : One Try.prog 117 := ⟨_, Try.underlying117, rfl⟩
theorem sz117 : (Try.prog.info? 117).map (·.size) = some 1 := by kernel_rfl
theorem one118 : One Try.prog 118 := ⟨_, Try.underlying118, rfl⟩
theorem sz118 : (Try.prog.info? 118).map (·.size) = some 1 := by kernel_rfl
theorem one119 : One Try.prog 119 := ⟨_, Try.underlying119, rfl⟩
theorem sz119 : (Try.prog.info? 119).map (·.size) = some 1 := by kernel_rfl
theorem one120 : One Try.prog 120 := ⟨_, Try.underlying120, rfl⟩
theorem sz120 : (Try.prog.info? 120).map (·.size) = some 1 := by kernel_rfl
theorem one121 : One Try.prog 121 := ⟨_, Try.underlying121, rfl⟩
theorem sz121 : (Try.prog.info? 121).map (·.size) = some 1 := by kernel_rfl
theorem one122 : One Try.prog 122 := ⟨_, Try.underlying122, rfl⟩
theorem sz122 : (Try.prog.info? 122).map (·.size) = some 1 := by kernel_rfl
theorem one123 : One Try.prog 123 := ⟨_, Try.underlying123, rfl⟩
theorem sz123 : (Try.prog.info? 123).map (·.size) = some 1 := by kernel_rfl
theorem one124 : One Try.prog 124 := ⟨_, Try.underlying124, rfl⟩
theorem sz124 : (Try.prog.info? 124).map (·.size) = some 1 := by kernel_rfl
theorem one125 : One Try.prog 125 := ⟨_, Try.underlying125, rfl⟩
theorem sz125 : (Try.prog.info? 125).map (·.size) = some 1 := by kernel_rfl
theorem one126 : One Try.prog 126 := ⟨_, Try.underlying126, rfl⟩
theorem sz126 : (Try.prog.info? 126).map (·.size) = some 1 := by kernel_rfl
theorem one127 : One Try.prog 127 := ⟨_, Try.underlying127, rfl⟩
theorem sz127 : (Try.prog.info? 127).map (·.size) = some 1 := by kernel_rfl
theorem one128 : One Try.prog 128 := ⟨_, Try.underlying128, rfl⟩
theorem sz128 : (Try.prog.info? 128).map (·.size) = some 1 := by kernel_rfl
theorem one129 : One Try.prog 129 := ⟨_, Try.underlying129, rfl⟩
theorem sz129 : (Try.prog.info? 129).map (·.size) = some 1 := by kernel_rfl
theorem one130 : One Try.prog 130 := ⟨_, Try.underlying130, rfl⟩
theorem sz130 : (Try.prog.info? 130).map (·.size) = some 1 := by kernel_rfl
theorem one131 : One Try.prog 131 := ⟨_, Try.underlying131, rfl⟩
theorem sz131 : (Try.prog.info? 131).map (·.size) = some 1 := by kernel_rfl
theorem one132 : One Try.prog 132 := ⟨_, Try.underlying132, rfl⟩
theorem sz132 : (Try.prog.info? 132).map (·.size) = some 1 := by kernel_rfl
theorem one133 : One Try.prog 133 := ⟨_, Try.underlying133, rfl⟩
theorem sz133 : (Try.prog.info? 133).map (·.size) = some 1 := by kernel_rfl
theorem one134 : One Try.prog 134 := ⟨_, Try.underlying134, rfl⟩
theorem sz134 : (Try.prog.info? 134).map (·.size) = some 1 := by kernel_rfl
theorem one135 : One Try.prog 135 := ⟨_, Try.underlying135, rfl⟩
theorem sz135 : (Try.prog.info? 135).map (·.size) = some 1 := by kernel_rfl
theorem one136 : One Try.prog 136 := ⟨_, Try.underlying136, rfl⟩
theorem sz136 : (Try.prog.info? 136).map (·.size) = some 1 := by kernel_rfl
theorem one138 : One Try.prog 138 := ⟨_, Try.underlying138, rfl⟩
theorem sz138 : (Try.prog.info? 138).map (·.size) = some 1 := by kernel_rfl
theorem one139 : One Try.prog 139 := ⟨_, Try.underlying139, rfl⟩
theorem sz139 : (Try.prog.info? 139).map (·.size) = some 1 := by kernel_rfl
theorem one140 : One Try.prog 140 := ⟨_, Try.underlying140, rfl⟩
theorem sz140 : (Try.prog.info? 140).map (·.size) = some 1 := by kernel_rfl
theorem one141 : One Try.prog 141 := ⟨_, Try.underlying141, rfl⟩
theorem sz141 : (Try.prog.info? 141).map (·.size) = some 1 := by kernel_rfl
theorem one142 : One Try.prog 142 := ⟨_, Try.underlying142, rfl⟩
theorem sz142 : (Try.prog.info? 142).map (·.size) = some 1 := by kernel_rfl
theorem one143 : One Try.prog 143 := ⟨_, Try.underlying143, rfl⟩
theorem sz143 : (Try.prog.info? 143).map (·.size) = some 1 := by kernel_rfl
theorem one144 : One Try.prog 144 := ⟨_, Try.underlying144, rfl⟩
theorem sz144 : (Try.prog.info? 144).map (·.size) = some 1 := by kernel_rfl
theorem one145 : One Try.prog 145 := ⟨_, Try.underlying145, rfl⟩
theorem sz145 : (Try.prog.info? 145).map (·.size) = some 1 := by kernel_rfl
theorem one146 : One Try.prog 146 := ⟨_, Try.underlying146, rfl⟩
theorem sz146 : (Try.prog.info? 146).map (·.size) = some 1 := by kernel_rfl
theorem many148 : Many Try.prog 148 2 := ⟨⟨_, Try.underlying148, rfl⟩, by kernel_rfl⟩
theorem sz148 : (Try.prog.info? 148).map (·.size) = some 2 := by kernel_rfl
theorem one149 : One Try.prog 149 := ⟨_, Try.underlying149, rfl⟩
theorem sz149 : (Try.prog.info? 149).map (·.size) = some 1 := by kernel_rfl
theorem one150 : One Try.prog 150 := ⟨_, Try.underlying150, rfl⟩
theorem sz150 : (Try.prog.info? 150).map (·.size) = some 1 := by kernel_rfl
theorem one151 : One Try.prog 151 := ⟨_, Try.underlying151, rfl⟩
theorem sz151 : (Try.prog.info? 151).map (·.size) = some 1 := by kernel_rfl
theorem one152 : One Try.prog 152 := ⟨_, Try.underlying152, rfl⟩
theorem sz152 : (Try.prog.info? 152).map (·.size) = some 1 := by kernel_rfl
theorem one153 : One Try.prog 153 := ⟨_, Try.underlying153, rfl⟩
theorem sz153 : (Try.prog.info? 153).map (·.size) = some 1 := by kernel_rfl
theorem one154 : One Try.prog 154 := ⟨_, Try.underlying154, rfl⟩
theorem sz154 : (Try.prog.info? 154).map (·.size) = some 1 := by kernel_rfl
theorem one156 : One Try.prog 156 := ⟨_, Try.underlying156, rfl⟩
theorem sz156 : (Try.prog.info? 156).map (·.size) = some 1 := by kernel_rfl
theorem one157 : One Try.prog 157 := ⟨_, Try.underlying157, rfl⟩
theorem sz157 : (Try.prog.info? 157).map (·.size) = some 1 := by kernel_rfl
theorem one158 : One Try.prog 158 := ⟨_, Try.underlying158, rfl⟩
theorem sz158 : (Try.prog.info? 158).map (·.size) = some 1 := by kernel_rfl
theorem many160 : Many Try.prog 160 3 := ⟨⟨_, Try.underlying160, rfl⟩, by kernel_rfl⟩
theorem sz160 : (Try.prog.info? 160).map (·.size) = some 3 := by kernel_rfl
theorem one161 : One Try.prog 161 := ⟨_, Try.underlying161, rfl⟩
theorem sz161 : (Try.prog.info? 161).map (·.size) = some 1 := by kernel_rfl
theorem one162 : One Try.prog 162 := ⟨_, Try.underlying162, rfl⟩
theorem sz162 : (Try.prog.info? 162).map (·.size) = some 1 := by kernel_rfl
theorem one163 : One Try.prog 163 := ⟨_, Try.underlying163, rfl⟩
theorem sz163 : (Try.prog.info? 163).map (·.size) = some 1 := by kernel_rfl
theorem one164 : One Try.prog 164 := ⟨_, Try.underlying164, rfl⟩
theorem sz164 : (Try.prog.info? 164).map (·.size) = some 1 := by kernel_rfl
theorem one165 : One Try.prog 165 := ⟨_, Try.underlying165, rfl⟩
theorem sz165 : (Try.prog.info? 165).map (·.size) = some 1 := by kernel_rfl
theorem one166 : One Try.prog 166 := ⟨_, Try.underlying166, rfl⟩
theorem sz166 : (Try.prog.info? 166).map (·.size) = some 1 := by kernel_rfl
theorem one167 : One Try.prog 167 := ⟨_, Try.underlying167, rfl⟩
theorem sz167 : (Try.prog.info? 167).map (·.size) = some 1 := by kernel_rfl
theorem one168 : One Try.prog 168 := ⟨_, Try.underlying168, rfl⟩
theorem sz168 : (Try.prog.info? 168).map (·.size) = some 1 := by kernel_rfl
theorem one169 : One Try.prog 169 := ⟨_, Try.underlying169, rfl⟩
theorem sz169 : (Try.prog.info? 169).map (·.size) = some 1 := by kernel_rfl
theorem one170 : One Try.prog 170 := ⟨_, Try.underlying170, rfl⟩
theorem sz170 : (Try.prog.info? 170).map (·.size) = some 1 := by kernel_rfl
theorem one172 : One Try.prog 172 := ⟨_, Try.underlying172, rfl⟩
theorem sz172 : (Try.prog.info? 172).map (·.size) = some 1 := by kernel_rfl
theorem one173 : One Try.prog 173 := ⟨_, Try.underlying173, rfl⟩
theorem sz173 : (Try.prog.info? 173).map (·.size) = some 1 := by kernel_rfl
theorem one174 : One Try.prog 174 := ⟨_, Try.underlying174, rfl⟩
theorem sz174 : (Try.prog.info? 174).map (·.size) = some 1 := by kernel_rfl
theorem one175 : One Try.prog 175 := ⟨_, Try.underlying175, rfl⟩
theorem sz175 : (Try.prog.info? 175).map (·.size) = some 1 := by kernel_rfl
theorem one176 : One Try.prog 176 := ⟨_, Try.underlying176, rfl⟩
theorem sz176 : (Try.prog.info? 176).map (·.size) = some 1 := by kernel_rfl
theorem many177 : Many Try.prog 177 3 := ⟨⟨_, Try.underlying177, rfl⟩, by kernel_rfl⟩
theorem sz177 : (Try.prog.info? 177).map (·.size) = some 3 := by kernel_rfl
theorem one178 : One Try.prog 178 := ⟨_, Try.underlying178, rfl⟩
theorem sz178 : (Try.prog.info? 178).map (·.size) = some 1 := by kernel_rfl
theorem one179 : One Try.prog 179 := ⟨_, Try.underlying179, rfl⟩
theorem sz179 : (Try.prog.info? 179).map (·.size) = some 1 := by kernel_rfl
theorem one180 : One Try.prog 180 := ⟨_, Try.underlying180, rfl⟩
theorem sz180 : (Try.prog.info? 180).map (·.size) = some 1 := by kernel_rfl
theorem one181 : One Try.prog 181 := ⟨_, Try.underlying181, rfl⟩
theorem sz181 : (Try.prog.info? 181).map (·.size) = some 1 := by kernel_rfl
theorem one182 : One Try.prog 182 := ⟨_, Try.underlying182, rfl⟩
theorem sz182 : (Try.prog.info? 182).map (·.size) = some 1 := by kernel_rfl
theorem one183 : One Try.prog 183 := ⟨_, Try.underlying183, rfl⟩
theorem sz183 : (Try.prog.info? 183).map (·.size) = some 1 := by kernel_rfl
theorem one184 : One Try.prog 184 := ⟨_, Try.underlying184, rfl⟩
theorem sz184 : (Try.prog.info? 184).map (·.size) = some 1 := by kernel_rfl
theorem one185 : One Try.prog 185 := ⟨_, Try.underlying185, rfl⟩
theorem sz185 : (Try.prog.info? 185).map (·.size) = some 1 := by kernel_rfl
theorem one186 : One Try.prog 186 := ⟨_, Try.underlying186, rfl⟩
theorem sz186 : (Try.prog.info? 186).map (·.size) = some 1 := by kernel_rfl
theorem one187 : One Try.prog 187 := ⟨_, Try.underlying187, rfl⟩
theorem sz187 : (Try.prog.info? 187).map (·.size) = some 1 := by kernel_rfl
theorem sl187 : SlT Try.prog 187 5 1 := ⟨Try.underlying187, by kernel_rfl⟩
theorem el187 : ElT Try.prog 187 5 1 1 (.int .u8 0) := ⟨Try.underlying187, by kernel_rfl, rfl, by decide⟩
theorem one188 : One Try.prog 188 := ⟨_, Try.underlying188, rfl⟩
theorem sz188 : (Try.prog.info? 188).map (·.size) = some 1 := by kernel_rfl
theorem one189 : One Try.prog 189 := ⟨_, Try.underlying189, rfl⟩
theorem sz189 : (Try.prog.info? 189).map (·.size) = some 1 := by kernel_rfl
theorem one191 : One Try.prog 191 := ⟨_, Try.underlying191, rfl⟩
theorem sz191 : (Try.prog.info? 191).map (·.size) = some 1 := by kernel_rfl
theorem one192 : One Try.prog 192 := ⟨_, Try.underlying192, rfl⟩
theorem sz192 : (Try.prog.info? 192).map (·.size) = some 1 := by kernel_rfl
theorem one193 : One Try.prog 193 := ⟨_, Try.underlying193, rfl⟩
theorem sz193 : (Try.prog.info? 193).map (·.size) = some 1 := by kernel_rfl
theorem one194 : One Try.prog 194 := ⟨_, Try.underlying194, rfl⟩
theorem sz194 : (Try.prog.info? 194).map (·.size) = some 1 := by kernel_rfl
theorem one195 : One Try.prog 195 := ⟨_, Try.underlying195, rfl⟩
theorem sz195 : (Try.prog.info? 195).map (·.size) = some 1 := by kernel_rfl
theorem one196 : One Try.prog 196 := ⟨_, Try.underlying196, rfl⟩
theorem sz196 : (Try.prog.info? 196).map (·.size) = some 1 := by kernel_rfl
theorem one197 : One Try.prog 197 := ⟨_, Try.underlying197, rfl⟩
theorem sz197 : (Try.prog.info? 197).map (·.size) = some 1 := by kernel_rfl
theorem one198 : One Try.prog 198 := ⟨_, Try.underlying198, rfl⟩
theorem sz198 : (Try.prog.info? 198).map (·.size) = some 1 := by kernel_rfl
theorem one199 : One Try.prog 199 := ⟨_, Try.underlying199, rfl⟩
theorem sz199 : (Try.prog.info? 199).map (·.size) = some 1 := by kernel_rfl
theorem one200 : One Try.prog 200 := ⟨_, Try.underlying200, rfl⟩
theorem sz200 : (Try.prog.info? 200).map (·.size) = some 1 := by kernel_rfl
theorem one201 : One Try.prog 201 := ⟨_, Try.underlying201, rfl⟩
theorem sz201 : (Try.prog.info? 201).map (·.size) = some 1 := by kernel_rfl
theorem one202 : One Try.prog 202 := ⟨_, Try.underlying202, rfl⟩
theorem sz202 : (Try.prog.info? 202).map (·.size) = some 1 := by kernel_rfl
theorem one203 : One Try.prog 203 := ⟨_, Try.underlying203, rfl⟩
theorem sz203 : (Try.prog.info? 203).map (·.size) = some 1 := by kernel_rfl
theorem one204 : One Try.prog 204 := ⟨_, Try.underlying204, rfl⟩
theorem sz204 : (Try.prog.info? 204).map (·.size) = some 1 := by kernel_rfl
theorem one205 : One Try.prog 205 := ⟨_, Try.underlying205, rfl⟩
theorem sz205 : (Try.prog.info? 205).map (·.size) = some 1 := by kernel_rfl
theorem one207 : One Try.prog 207 := ⟨_, Try.underlying207, rfl⟩
theorem sz207 : (Try.prog.info? 207).map (·.size) = some 1 := by kernel_rfl
theorem one208 : One Try.prog 208 := ⟨_, Try.underlying208, rfl⟩
theorem sz208 : (Try.prog.info? 208).map (·.size) = some 1 := by kernel_rfl
theorem one214 : One Try.prog 214 := ⟨_, Try.underlying214, rfl⟩
theorem sz214 : (Try.prog.info? 214).map (·.size) = some 1 := by kernel_rfl
theorem one215 : One Try.prog 215 := ⟨_, Try.underlying215, rfl⟩
theorem sz215 : (Try.prog.info? 215).map (·.size) = some 1 := by kernel_rfl
theorem one216 : One Try.prog 216 := ⟨_, Try.underlying216, rfl⟩
theorem sz216 : (Try.prog.info? 216).map (·.size) = some 1 := by kernel_rfl
theorem one217 : One Try.prog 217 := ⟨_, Try.underlying217, rfl⟩
theorem sz217 : (Try.prog.info? 217).map (·.size) = some 1 := by kernel_rfl
theorem one218 : One Try.prog 218 := ⟨_, Try.underlying218, rfl⟩
theorem sz218 : (Try.prog.info? 218).map (·.size) = some 1 := by kernel_rfl
theorem one219 : One Try.prog 219 := ⟨_, Try.underlying219, rfl⟩
theorem sz219 : (Try.prog.info? 219).map (·.size) = some 1 := by kernel_rfl
theorem one220 : One Try.prog 220 := ⟨_, Try.underlying220, rfl⟩
theorem sz220 : (Try.prog.info? 220).map (·.size) = some 1 := by kernel_rfl
end Go.Proofs.Ytdoeegfcmbcbkaa.Tr

/- Made by program: typed transformers of the functions, each met by its code. -/
namespace Go.Proofs.Ytdoeegfcmbcbkaa.Tr
open Go Go.Eng
set_option linter.unusedVariables false
set_option maxRecDepth 100000
set_option maxHeartbeats 4000000
/-- turnpike/turnpikelaw15.TablesShares; slots 0:conf, 1:split, 2:l, 3:conf, 4:split, 5:l, 7:given, 8:a, 9:e, 10:b, 11:f, 12:list, 13:s, 14:i -/
def f3 (t0 : Sl) (t1 : ByteArray) (t2 : Sl) (R : (Bool) → World → Prop) (w : World) : Prop :=
  Cal Try.prog Sl.v 16 #[(Sl.v t0)] w fun t16 w =>
  Cal Try.prog (fun x : Sl × Int => Value.tuple #[(Sl.v x.1), (.int .i64 x.2)]) 17 #[(Sl.v t16), (.string t1)] w fun t20 w =>
  Cal Try.prog (fun x : Sl × Int => Value.tuple #[(Sl.v x.1), (.int .i64 x.2)]) 18 #[(Sl.v t0), (.string t1)] w fun t26 w =>
  Rn Try.prog Sl.v (Builtin.append_ #[23, 23] 23 #[(Sl.v Sl.nil), (Sl.v t2)]) w fun t31 w =>
  New 32 ((TShare.cells (⟨(⟨#[109, 97, 114, 107]⟩ : ByteArray), 0⟩ : TShare))) w fun b33 w =>
  Rn Try.prog Sl.v (Builtin.append_ #[23, 23] 23 #[(Sl.v t31), (Sl.v (⟨some ⟨b33, 0, none⟩, 1, 1⟩ : Sl))]) w fun t34 w =>
  RnP Try.prog Sl.v (Instr.sliceAt 23 (Sl.v t34) none (some (.int .i64 (t2.n : Int))) none) fun t38 =>
  Cal Try.prog Sl.v 19 #[(Sl.v t38)] w fun t39 w =>
  Jn (σ := Bool) (fun k1 =>
    Cal Try.prog Value.bool 20 #[(Sl.v t20.1), (Sl.v t26.1)] w fun t42 w =>
    if (!t42) = true then
      k1 true w
    else
      if t20.2 ≠ t26.2 then
        k1 true w
      else
        Cal Try.prog Value.bool 21 #[(Sl.v t16), (Sl.v t0)] w fun t52 w =>
        if (!t52) = true then
          k1 true w
        else
          Cal Try.prog Sl.v 22 #[(Sl.v t2)] w fun t58 w =>
          Cal Try.prog Value.bool 20 #[(Sl.v t39), (Sl.v t58)] w fun t59 w =>
          if (!t59) = true then
            k1 true w
          else
            RnP Try.prog Sl.v (Instr.sliceAt 23 (Sl.v t34) none (some (.int .i64 (t2.n : Int))) none) fun t66 =>
            Cal Try.prog Value.bool 20 #[(Sl.v t66), (Sl.v t2)] w fun t68 w =>
            if (!t68) = true then
              k1 true w
            else
              RnP Try.prog Ptr (Instr.indexAt 23 (Sl.v t34) (.int .i64 (t2.n : Int))) fun t75 =>
              Rn Try.prog Value.string (Instr.loadAt 9 (Ptr (t75.add 0))) w fun t77 w =>
              k1 (decide (t77 ≠ (⟨#[109, 97, 114, 107]⟩ : ByteArray))) w
  ) fun s1 w =>
    if s1 = true then
      R false w
    else
      Lp (σ := Int) (fun s8 w n8 =>
        if s8 < (t39.n : Int) then
          RnP Try.prog Ptr (Instr.indexAt 23 (Sl.v t39) (.int .i64 s8)) fun t89 =>
          RnU Try.prog (Instr.storeAt 32 (Ptr t89) (TShare.v (⟨(⟨#[103, 111, 110, 101]⟩ : ByteArray), 0⟩ : TShare))) w fun w =>
          n8 (IntKind.i64.wrap (s8 + 1)) w
        else
          Jn (σ := Bool) (fun k10 =>
            RnP Try.prog Sl.v (Instr.sliceAt 23 (Sl.v t34) none (some (.int .i64 (t2.n : Int))) none) fun t93 =>
            Cal Try.prog Value.bool 20 #[(Sl.v t93), (Sl.v t2)] w fun t95 w =>
            if t95 = true then
              Cal Try.prog Sl.v 19 #[(Sl.v t20.1)] w fun t98 w =>
              Cal Try.prog Sl.v 22 #[(Sl.v t26.1)] w fun t100 w =>
              Cal Try.prog Value.bool 20 #[(Sl.v t98), (Sl.v t100)] w fun t101 w =>
              k10 t101 w
            else
              k10 false w
          ) fun s10 w =>
            R s10 w
      ) 0 w
theorem c3 {t0 : Sl} {t1 : ByteArray} {t2 : Sl} {R : (Bool) → World → Prop} {w : World} (h : f3 t0 t1 t2 R w) :
    Cal Try.prog Value.bool 3 #[(Sl.v t0), (.string t1), (Sl.v t2)] w R := by
  unfold f3 at h
  refine calls_ Try.func3 Try.ntmps3 rfl rfl ?_
  refine seq_ ?_
  refine region_ ?_
  refine st_val (ex_assign (v := (.bool false)) rfl) ?_
  refine wl_nil ?_
  refine then_n ?_
  refine seq_ ?_
  refine region_ ?_
  refine st_val (ex_move (v := (Sl.v t0)) rfl) ?_
  refine st_cal en16 rfl h ?_; clear h; intro t16 w h
  refine st_val (ex_assign (v := (Sl.v t16)) rfl) ?_
  refine wl_nil ?_
  refine then_n ?_
  refine seq_ ?_
  refine region_ ?_
  refine st_val (ex_move (v := (Sl.v t16)) rfl) ?_
  refine st_val (ex_move (v := (.string t1)) rfl) ?_
  refine st_cal en17 rfl h ?_; clear h; intro t20 w h
  refine st_val (ex_move (v := (.tuple #[(Sl.v t20.1), (.int .i64 t20.2)])) rfl) ?_
  refine st_val (ex_extract (u := (.tuple #[(Sl.v t20.1), (.int .i64 t20.2)])) rfl (v := (Sl.v t20.1)) rfl) ?_
  refine st_val (ex_extract (u := (.tuple #[(Sl.v t20.1), (.int .i64 t20.2)])) rfl (v := (.int .i64 t20.2)) rfl) ?_
  refine st_val (ex_assign (v := (Sl.v t20.1)) rfl) ?_
  refine st_val (ex_assign (v := (.int .i64 t20.2)) rfl) ?_
  refine wl_nil ?_
  refine then_n ?_
  refine seq_ ?_
  refine region_ ?_
  refine st_val (ex_move (v := (Sl.v t0)) rfl) ?_
  refine st_val (ex_move (v := (.string t1)) rfl) ?_
  refine st_cal en18 rfl h ?_; clear h; intro t26 w h
  refine st_val (ex_move (v := (.tuple #[(Sl.v t26.1), (.int .i64 t26.2)])) rfl) ?_
  refine st_val (ex_extract (u := (.tuple #[(Sl.v t26.1), (.int .i64 t26.2)])) rfl (v := (Sl.v t26.1)) rfl) ?_
  refine st_val (ex_extract (u := (.tuple #[(Sl.v t26.1), (.int .i64 t26.2)])) rfl (v := (.int .i64 t26.2)) rfl) ?_
  refine st_val (ex_assign (v := (Sl.v t26.1)) rfl) ?_
  refine st_val (ex_assign (v := (.int .i64 t26.2)) rfl) ?_
  refine wl_nil ?_
  refine then_n ?_
  refine seq_ ?_
  refine region_ ?_
  refine st_val (ex_assign (v := (Sl.v Sl.nil)) rfl) ?_
  refine wl_nil ?_
  refine then_n ?_
  refine seq_ ?_
  refine region_ ?_
  refine st_val (ex_move (v := (Sl.v Sl.nil)) rfl) ?_
  refine st_val (ex_move (v := (Sl.v t2)) rfl) ?_
  refine st_rn (fun r => ex_builtin rfl (fun _ => rfl) r) h ?_; clear h; intro t31 w h
  refine st_val (ex_build (a' := [(0, (.string (⟨#[109, 97, 114, 107]⟩ : ByteArray)))]) (v := TShare.v (⟨(⟨#[109, 97, 114, 107]⟩ : ByteArray), 0⟩ : TShare)) rfl (e_build Try.underlying32 zero32 rfl pl32 rfl _)) ?_
  refine st_new (f := (fun b => Sl.v ⟨some ⟨b, 0, none⟩, 1, 1⟩)) (ex_buildSlice (a' := [(0, (TShare.v (⟨(⟨#[109, 97, 114, 107]⟩ : ByteArray), 0⟩ : TShare)))]) rfl (e_buildSlice (cs := ((TShare.cells (⟨(⟨#[109, 97, 114, 107]⟩ : ByteArray), 0⟩ : TShare)))) Try.underlying23 info32 iz32 (by decide +kernel) (by decide +kernel) (by kernel_rfl) _)) h ?_; clear h; intro b33 w h
  refine st_rn (fun r => ex_builtin rfl (fun _ => rfl) r) h ?_; clear h; intro t34 w h
  refine st_val (ex_assign (v := (Sl.v t34)) rfl) ?_
  refine wl_nil ?_
  refine then_n ?_
  refine seq_ ?_
  refine region_ ?_
  refine st_val (ex_move (v := (Sl.v t34)) rfl) ?_
  refine st_val (ex_move (v := (Sl.v t2)) rfl) ?_
  refine st_val (ex_len (s := t2) Try.underlying23 rfl) ?_
  refine st_rnp (fun r => ex_slice rfl rfl rfl rfl r) h ?_; clear h; intro t38 h
  refine st_cal en19 rfl h ?_; clear h; intro t39 w h
  refine st_val (ex_assign (v := (Sl.v t39)) rfl) ?_
  refine wl_nil ?_
  refine then_n ?_
  refine seq_ ?_
  refine wp_jn (σ := Bool) (fun s1 l => ∃ j, l = upds j [(2, (Sl.v t2)), (8, (Sl.v t20.1)), (10, (Sl.v t26.1)), (12, (Sl.v t34)), (13, (Sl.v t39)), (79, (.bool s1))]) h ?_ ?_
  · clear h; rintro s1 _ w ⟨j, rfl⟩ h
    by_cases hc7 : s1 = true
    · rw [if_pos hc7] at h; refine cond_1 (b := s1) rfl hc7 ?_
      refine seq_ ?_
      refine region_ ?_
      refine st_val (ex_assign (v := (.bool false)) rfl) ?_
      refine wl_nil ?_
      refine then_n ?_
      refine wp_ret ?_
      refine then_r ?_
      refine ret_1 rfl rfl ⟨false, rfl, h⟩
    · rw [if_neg hc7] at h; refine cond_0 (b := s1) rfl (Bool.eq_false_iff.2 hc7) ?_
      refine wp_skip ?_
      refine then_n ?_
      refine seq_ ?_
      refine seq_ ?_
      refine region_ ?_
      refine st_val (ex_assign (v := (.int .i64 0)) rfl) ?_
      refine wl_nil ?_
      refine then_n ?_
      refine wp_block ?_
      refine wp_lp (σ := Int) (fun s8 a => ∃ j, a = F 103 (upds j [(2, (Sl.v t2)), (8, (Sl.v t20.1)), (10, (Sl.v t26.1)), (12, (Sl.v t34)), (13, (Sl.v t39)), (14, (.int .i64 s8))])) h (mk_upds (ae rfl (ae rfl (ae rfl (ae rfl (ae rfl (ae rfl ae0))))))) ?_
      clear h; rintro s8 _ w n8 ⟨j, rfl⟩ h
      refine seq_ ?_
      refine seq_ ?_
      refine region_ ?_
      refine st_val (ex_move (v := (.int .i64 s8)) rfl) ?_
      refine st_val (ex_move (v := (Sl.v t39)) rfl) ?_
      refine st_val (ex_len (s := t39) Try.underlying23 rfl) ?_
      refine st_val (ex_lss (a := s8) (b := (t39.n : Int)) rfl rfl) ?_
      refine wl_nil ?_
      refine then_n ?_
      by_cases hc9 : s8 < (t39.n : Int)
      · rw [if_pos hc9] at h; refine cond_1 (b := (decide (s8 < (t39.n : Int)))) rfl (decide_eq_true hc9) ?_
        refine wp_skip ?_
        refine then_n ?_
        refine seq_ ?_
        refine wp_block ?_
        refine region_ ?_
        refine st_val (ex_move (v := (Sl.v t39)) rfl) ?_
        refine st_val (ex_move (v := (.int .i64 s8)) rfl) ?_
        refine st_val (ex_build (a' := [(0, (.string (⟨#[103, 111, 110, 101]⟩ : ByteArray)))]) (v := TShare.v (⟨(⟨#[103, 111, 110, 101]⟩ : ByteArray), 0⟩ : TShare)) rfl (e_build Try.underlying32 zero32 rfl pl32 rfl _)) ?_
        refine st_rnp (fun r => ex_indexAddr rfl rfl r) h ?_; clear h; intro t89 h
        refine st_rnu (fun r => ex_store rfl rfl r) h ?_; clear h; intro w h
        refine wl_nil ?_
        refine inb_n ?_
        refine then_n ?_
        refine region_ ?_
        refine st_val (ex_move (v := (.int .i64 s8)) rfl) ?_
        refine st_val (ex_add (a := s8) (b := 1) rfl rfl) ?_
        refine st_val (ex_assign (v := (.int .i64 (IntKind.i64.wrap (s8 + 1)))) rfl) ?_
        refine wl_nil ?_
        exact then_n ⟨(IntKind.i64.wrap (s8 + 1)), mk_upds (ae rfl (ae rfl (ae rfl (ae rfl (ae rfl (ae rfl ae0)))))), h⟩
      · rw [if_neg hc9] at h; refine cond_0 (b := (decide (s8 < (t39.n : Int)))) rfl (decide_eq_false hc9) ?_
        refine wp_exit ?_
        refine then_e ?_
        refine then_e ?_
        refine inb_e ?_
        refine then_n ?_
        refine wp_jn (σ := Bool) (fun s10 l => ∃ j, l = upds j [(6, (.bool s10))]) h ?_ ?_
        · clear h; rintro s10 _ w ⟨j, rfl⟩ h
          refine wp_ret ?_
          refine ret_1 rfl rfl ⟨s10, rfl, h⟩
        · clear h; intro k10 h
          refine region_ ?_
          refine st_val (ex_move (v := (Sl.v t34)) rfl) ?_
          refine st_val (ex_move (v := (Sl.v t2)) rfl) ?_
          refine st_val (ex_len (s := t2) Try.underlying23 rfl) ?_
          refine st_rnp (fun r => ex_slice rfl rfl rfl rfl r) h ?_; clear h; intro t93 h
          refine st_val (ex_move (v := (Sl.v t2)) rfl) ?_
          refine st_cal en20 rfl h ?_; clear h; intro t95 w h
          refine st_val (ex_move (v := (.bool t95)) rfl) ?_
          by_cases hc11 : t95 = true
          · rw [if_pos hc11] at h
            refine st_on (t := 96) (c := t95) rfl rfl hc11 ?_
            refine st_val (ex_move (v := (Sl.v t20.1)) rfl) ?_
            refine st_on (t := 96) (c := t95) rfl rfl hc11 ?_
            refine st_cal en19 rfl h ?_; clear h; intro t98 w h
            refine st_on (t := 96) (c := t95) rfl rfl hc11 ?_
            refine st_val (ex_move (v := (Sl.v t26.1)) rfl) ?_
            refine st_on (t := 96) (c := t95) rfl rfl hc11 ?_
            refine st_cal en22 rfl h ?_; clear h; intro t100 w h
            refine st_on (t := 96) (c := t95) rfl rfl hc11 ?_
            refine st_cal en20 rfl h ?_; clear h; intro t101 w h
            refine st_val (ex_pick1 (b := t95) rfl hc11 (v := (.bool t101)) rfl) ?_
            refine st_val (ex_assign (v := (.bool t101)) rfl) ?_
            refine wl_nil ?_
            exact then_n ⟨t101, _, rfl, mk_upds' (ae rfl ae0), h⟩
          · rw [if_neg hc11] at h
            refine st_off (t := 96) (c := t95) rfl rfl (Bool.eq_false_iff.2 hc11) ?_
            refine st_off (t := 96) (c := t95) rfl rfl (Bool.eq_false_iff.2 hc11) ?_
            refine st_off (t := 96) (c := t95) rfl rfl (Bool.eq_false_iff.2 hc11) ?_
            refine st_off (t := 96) (c := t95) rfl rfl (Bool.eq_false_iff.2 hc11) ?_
            refine st_off (t := 96) (c := t95) rfl rfl (Bool.eq_false_iff.2 hc11) ?_
            refine st_val (ex_pick0 (b := t95) rfl (Bool.eq_false_iff.2 hc11) (v := (.bool false)) rfl) ?_
            refine st_val (ex_assign (v := (.bool false)) rfl) ?_
            refine wl_nil ?_
            exact then_n ⟨false, _, rfl, mk_upds' (ae rfl ae0), h⟩
  · clear h; intro k1 h
    refine region_ ?_
    refine st_val (ex_move (v := (Sl.v t20.1)) rfl) ?_
    refine st_val (ex_move (v := (Sl.v t26.1)) rfl) ?_
    refine st_cal en20 rfl h ?_; clear h; intro t42 w h
    refine st_val (ex_not (b := t42) rfl) ?_
    refine st_val (ex_move (v := (.bool (!t42))) rfl) ?_
    by_cases hc2 : (!t42) = true
    · rw [if_pos hc2] at h
      refine st_off (t := 44) (c := (!t42)) rfl rfl hc2 ?_
      refine st_off (t := 44) (c := (!t42)) rfl rfl hc2 ?_
      refine st_off (t := 44) (c := (!t42)) rfl rfl hc2 ?_
      refine st_val (ex_pick1 (b := (!t42)) rfl hc2 (v := (.bool true)) rfl) ?_
      refine st_val (ex_move (v := (.bool true)) rfl) ?_
      refine st_off (t := 49) (c := true) rfl rfl (rfl : true = !false) ?_
      refine st_off (t := 49) (c := true) rfl rfl (rfl : true = !false) ?_
      refine st_off (t := 49) (c := true) rfl rfl (rfl : true = !false) ?_
      refine st_off (t := 49) (c := true) rfl rfl (rfl : true = !false) ?_
      refine st_val (ex_pick1 (b := true) rfl (rfl : true = true) (v := (.bool true)) rfl) ?_
      refine st_val (ex_move (v := (.bool true)) rfl) ?_
      refine st_off (t := 55) (c := true) rfl rfl (rfl : true = !false) ?_
      refine st_off (t := 55) (c := true) rfl rfl (rfl : true = !false) ?_
      refine st_off (t := 55) (c := true) rfl rfl (rfl : true = !false) ?_
      refine st_off (t := 55) (c := true) rfl rfl (rfl : true = !false) ?_
      refine st_off (t := 55) (c := true) rfl rfl (rfl : true = !false) ?_
      refine st_val (ex_pick1 (b := true) rfl (rfl : true = true) (v := (.bool true)) rfl) ?_
      refine st_val (ex_move (v := (.bool true)) rfl) ?_
      refine st_off (t := 62) (c := true) rfl rfl (rfl : true = !false) ?_
      refine st_off (t := 62) (c := true) rfl rfl (rfl : true = !false) ?_
      refine st_off (t := 62) (c := true) rfl rfl (rfl : true = !false) ?_
      refine st_off (t := 62) (c := true) rfl rfl (rfl : true = !false) ?_
      refine st_off (t := 62) (c := true) rfl rfl (rfl : true = !false) ?_
      refine st_off (t := 62) (c := true) rfl rfl (rfl : true = !false) ?_
      refine st_off (t := 62) (c := true) rfl rfl (rfl : true = !false) ?_
      refine st_val (ex_pick1 (b := true) rfl (rfl : true = true) (v := (.bool true)) rfl) ?_
      refine st_val (ex_move (v := (.bool true)) rfl) ?_
      refine st_off (t := 71) (c := true) rfl rfl (rfl : true = !false) ?_
      refine st_off (t := 71) (c := true) rfl rfl (rfl : true = !false) ?_
      refine st_off (t := 71) (c := true) rfl rfl (rfl : true = !false) ?_
      refine st_off (t := 71) (c := true) rfl rfl (rfl : true = !false) ?_
      refine st_off (t := 71) (c := true) rfl rfl (rfl : true = !false) ?_
      refine st_off (t := 71) (c := true) rfl rfl (rfl : true = !false) ?_
      refine st_off (t := 71) (c := true) rfl rfl (rfl : true = !false) ?_
      refine st_val (ex_pick1 (b := true) rfl (rfl : true = true) (v := (.bool true)) rfl) ?_
      refine wl_nil ?_
      exact then_n ⟨true, _, rfl, mk_upds' (ae rfl (ae rfl (ae rfl (ae rfl (ae rfl (ae rfl ae0)))))), h⟩
    · rw [if_neg hc2] at h
      refine st_on (t := 44) (c := (!t42)) rfl rfl (Bool.eq_false_iff.2 hc2) ?_
      refine st_val (ex_move (v := (.int .i64 t20.2)) rfl) ?_
      refine st_on (t := 44) (c := (!t42)) rfl rfl (Bool.eq_false_iff.2 hc2) ?_
      refine st_val (ex_move (v := (.int .i64 t26.2)) rfl) ?_
      refine st_on (t := 44) (c := (!t42)) rfl rfl (Bool.eq_false_iff.2 hc2) ?_
      refine st_val (ex_neq (a := t20.2) (b := t26.2) rfl rfl) ?_
      refine st_val (ex_pick0 (b := (!t42)) rfl (Bool.eq_false_iff.2 hc2) (v := (.bool (decide (t20.2 ≠ t26.2)))) rfl) ?_
      refine st_val (ex_move (v := (.bool (decide (t20.2 ≠ t26.2)))) rfl) ?_
      by_cases hc3 : t20.2 ≠ t26.2
      · rw [if_pos hc3] at h
        refine st_off (t := 49) (c := (decide (t20.2 ≠ t26.2))) rfl rfl (decide_eq_true hc3) ?_
        refine st_off (t := 49) (c := (decide (t20.2 ≠ t26.2))) rfl rfl (decide_eq_true hc3) ?_
        refine st_off (t := 49) (c := (decide (t20.2 ≠ t26.2))) rfl rfl (decide_eq_true hc3) ?_
        refine st_off (t := 49) (c := (decide (t20.2 ≠ t26.2))) rfl rfl (decide_eq_true hc3) ?_
        refine st_val (ex_pick1 (b := (decide (t20.2 ≠ t26.2))) rfl (decide_eq_true hc3) (v := (.bool true)) rfl) ?_
        refine st_val (ex_move (v := (.bool true)) rfl) ?_
        refine st_off (t := 55) (c := true) rfl rfl (rfl : true = !false) ?_
        refine st_off (t := 55) (c := true) rfl rfl (rfl : true = !false) ?_
        refine st_off (t := 55) (c := true) rfl rfl (rfl : true = !false) ?_
        refine st_off (t := 55) (c := true) rfl rfl (rfl : true = !false) ?_
        refine st_off (t := 55) (c := true) rfl rfl (rfl : true = !false) ?_
        refine st_val (ex_pick1 (b := true) rfl (rfl : true = true) (v := (.bool true)) rfl) ?_
        refine st_val (ex_move (v := (.bool true)) rfl) ?_
        refine st_off (t := 62) (c := true) rfl rfl (rfl : true = !false) ?_
        refine st_off (t := 62) (c := true) rfl rfl (rfl : true = !false) ?_
        refine st_off (t := 62) (c := true) rfl rfl (rfl : true = !false) ?_
        refine st_off (t := 62) (c := true) rfl rfl (rfl : true = !false) ?_
        refine st_off (t := 62) (c := true) rfl rfl (rfl : true = !false) ?_
        refine st_off (t := 62) (c := true) rfl rfl (rfl : true = !false) ?_
        refine st_off (t := 62) (c := true) rfl rfl (rfl : true = !false) ?_
        refine st_val (ex_pick1 (b := true) rfl (rfl : true = true) (v := (.bool true)) rfl) ?_
        refine st_val (ex_move (v := (.bool true)) rfl) ?_
        refine st_off (t := 71) (c := true) rfl rfl (rfl : true = !false) ?_
        refine st_off (t := 71) (c := true) rfl rfl (rfl : true = !false) ?_
        refine st_off (t := 71) (c := true) rfl rfl (rfl : true = !false) ?_
        refine st_off (t := 71) (c := true) rfl rfl (rfl : true = !false) ?_
        refine st_off (t := 71) (c := true) rfl rfl (rfl : true = !false) ?_
        refine st_off (t := 71) (c := true) rfl rfl (rfl : true = !false) ?_
        refine st_off (t := 71) (c := true) rfl rfl (rfl : true = !false) ?_
        refine st_val (ex_pick1 (b := true) rfl (rfl : true = true) (v := (.bool true)) rfl) ?_
        refine wl_nil ?_
        exact then_n ⟨true, _, rfl, mk_upds' (ae rfl (ae rfl (ae rfl (ae rfl (ae rfl (ae rfl ae0)))))), h⟩
      · rw [if_neg hc3] at h
        refine st_on (t := 49) (c := (decide (t20.2 ≠ t26.2))) rfl rfl (decide_eq_false hc3) ?_
        refine st_val (ex_move (v := (Sl.v t16)) rfl) ?_
        refine st_on (t := 49) (c := (decide (t20.2 ≠ t26.2))) rfl rfl (decide_eq_false hc3) ?_
        refine st_val (ex_move (v := (Sl.v t0)) rfl) ?_
        refine st_on (t := 49) (c := (decide (t20.2 ≠ t26.2))) rfl rfl (decide_eq_false hc3) ?_
        refine st_cal en21 rfl h ?_; clear h; intro t52 w h
        refine st_on (t := 49) (c := (decide (t20.2 ≠ t26.2))) rfl rfl (decide_eq_false hc3) ?_
        refine st_val (ex_not (b := t52) rfl) ?_
        refine st_val (ex_pick0 (b := (decide (t20.2 ≠ t26.2))) rfl (decide_eq_false hc3) (v := (.bool (!t52))) rfl) ?_
        refine st_val (ex_move (v := (.bool (!t52))) rfl) ?_
        by_cases hc4 : (!t52) = true
        · rw [if_pos hc4] at h
          refine st_off (t := 55) (c := (!t52)) rfl rfl hc4 ?_
          refine st_off (t := 55) (c := (!t52)) rfl rfl hc4 ?_
          refine st_off (t := 55) (c := (!t52)) rfl rfl hc4 ?_
          refine st_off (t := 55) (c := (!t52)) rfl rfl hc4 ?_
          refine st_off (t := 55) (c := (!t52)) rfl rfl hc4 ?_
          refine st_val (ex_pick1 (b := (!t52)) rfl hc4 (v := (.bool true)) rfl) ?_
          refine st_val (ex_move (v := (.bool true)) rfl) ?_
          refine st_off (t := 62) (c := true) rfl rfl (rfl : true = !false) ?_
          refine st_off (t := 62) (c := true) rfl rfl (rfl : true = !false) ?_
          refine st_off (t := 62) (c := true) rfl rfl (rfl : true = !false) ?_
          refine st_off (t := 62) (c := true) rfl rfl (rfl : true = !false) ?_
          refine st_off (t := 62) (c := true) rfl rfl (rfl : true = !false) ?_
          refine st_off (t := 62) (c := true) rfl rfl (rfl : true = !false) ?_
          refine st_off (t := 62) (c := true) rfl rfl (rfl : true = !false) ?_
          refine st_val (ex_pick1 (b := true) rfl (rfl : true = true) (v := (.bool true)) rfl) ?_
          refine st_val (ex_move (v := (.bool true)) rfl) ?_
          refine st_off (t := 71) (c := true) rfl rfl (rfl : true = !false) ?_
          refine st_off (t := 71) (c := true) rfl rfl (rfl : true = !false) ?_
          refine st_off (t := 71) (c := true) rfl rfl (rfl : true = !false) ?_
          refine st_off (t := 71) (c := true) rfl rfl (rfl : true = !false) ?_
          refine st_off (t := 71) (c := true) rfl rfl (rfl : true = !false) ?_
          refine st_off (t := 71) (c := true) rfl rfl (rfl : true = !false) ?_
          refine st_off (t := 71) (c := true) rfl rfl (rfl : true = !false) ?_
          refine st_val (ex_pick1 (b := true) rfl (rfl : true = true) (v := (.bool true)) rfl) ?_
          refine wl_nil ?_
          exact then_n ⟨true, _, rfl, mk_upds' (ae rfl (ae rfl (ae rfl (ae rfl (ae rfl (ae rfl ae0)))))), h⟩
        · rw [if_neg hc4] at h
          refine st_on (t := 55) (c := (!t52)) rfl rfl (Bool.eq_false_iff.2 hc4) ?_
          refine st_val (ex_move (v := (Sl.v t39)) rfl) ?_
          refine st_on (t := 55) (c := (!t52)) rfl rfl (Bool.eq_false_iff.2 hc4) ?_
          refine st_val (ex_move (v := (Sl.v t2)) rfl) ?_
          refine st_on (t := 55) (c := (!t52)) rfl rfl (Bool.eq_false_iff.2 hc4) ?_
          refine st_cal en22 rfl h ?_; clear h; intro t58 w h
          refine st_on (t := 55) (c := (!t52)) rfl rfl (Bool.eq_false_iff.2 hc4) ?_
          refine st_cal en20 rfl h ?_; clear h; intro t59 w h
          refine st_on (t := 55) (c := (!t52)) rfl rfl (Bool.eq_false_iff.2 hc4) ?_
          refine st_val (ex_not (b := t59) rfl) ?_
          refine st_val (ex_pick0 (b := (!t52)) rfl (Bool.eq_false_iff.2 hc4) (v := (.bool (!t59))) rfl) ?_
          refine st_val (ex_move (v := (.bool (!t59))) rfl) ?_
          by_cases hc5 : (!t59) = true
          · rw [if_pos hc5] at h
            refine st_off (t := 62) (c := (!t59)) rfl rfl hc5 ?_
            refine st_off (t := 62) (c := (!t59)) rfl rfl hc5 ?_
            refine st_off (t := 62) (c := (!t59)) rfl rfl hc5 ?_
            refine st_off (t := 62) (c := (!t59)) rfl rfl hc5 ?_
            refine st_off (t := 62) (c := (!t59)) rfl rfl hc5 ?_
            refine st_off (t := 62) (c := (!t59)) rfl rfl hc5 ?_
            refine st_off (t := 62) (c := (!t59)) rfl rfl hc5 ?_
            refine st_val (ex_pick1 (b := (!t59)) rfl hc5 (v := (.bool true)) rfl) ?_
            refine st_val (ex_move (v := (.bool true)) rfl) ?_
            refine st_off (t := 71) (c := true) rfl rfl (rfl : true = !false) ?_
            refine st_off (t := 71) (c := true) rfl rfl (rfl : true = !false) ?_
            refine st_off (t := 71) (c := true) rfl rfl (rfl : true = !false) ?_
            refine st_off (t := 71) (c := true) rfl rfl (rfl : true = !false) ?_
            refine st_off (t := 71) (c := true) rfl rfl (rfl : true = !false) ?_
            refine st_off (t := 71) (c := true) rfl rfl (rfl : true = !false) ?_
            refine st_off (t := 71) (c := true) rfl rfl (rfl : true = !false) ?_
            refine st_val (ex_pick1 (b := true) rfl (rfl : true = true) (v := (.bool true)) rfl) ?_
            refine wl_nil ?_
            exact then_n ⟨true, _, rfl, mk_upds' (ae rfl (ae rfl (ae rfl (ae rfl (ae rfl (ae rfl ae0)))))), h⟩
          · rw [if_neg hc5] at h
            refine st_on (t := 62) (c := (!t59)) rfl rfl (Bool.eq_false_iff.2 hc5) ?_
            refine st_val (ex_move (v := (Sl.v t34)) rfl) ?_
            refine st_on (t := 62) (c := (!t59)) rfl rfl (Bool.eq_false_iff.2 hc5) ?_
            refine st_val (ex_move (v := (Sl.v t2)) rfl) ?_
            refine st_on (t := 62) (c := (!t59)) rfl rfl (Bool.eq_false_iff.2 hc5) ?_
            refine st_val (ex_len (s := t2) Try.underlying23 rfl) ?_
            refine st_on (t := 62) (c := (!t59)) rfl rfl (Bool.eq_false_iff.2 hc5) ?_
            refine st_rnp (fun r => ex_slice rfl rfl rfl rfl r) h ?_; clear h; intro t66 h
            refine st_on (t := 62) (c := (!t59)) rfl rfl (Bool.eq_false_iff.2 hc5) ?_
            refine st_val (ex_move (v := (Sl.v t2)) rfl) ?_
            refine st_on (t := 62) (c := (!t59)) rfl rfl (Bool.eq_false_iff.2 hc5) ?_
            refine st_cal en20 rfl h ?_; clear h; intro t68 w h
            refine st_on (t := 62) (c := (!t59)) rfl rfl (Bool.eq_false_iff.2 hc5) ?_
            refine st_val (ex_not (b := t68) rfl) ?_
            refine st_val (ex_pick0 (b := (!t59)) rfl (Bool.eq_false_iff.2 hc5) (v := (.bool (!t68))) rfl) ?_
            refine st_val (ex_move (v := (.bool (!t68))) rfl) ?_
            by_cases hc6 : (!t68) = true
            · rw [if_pos hc6] at h
              refine st_off (t := 71) (c := (!t68)) rfl rfl hc6 ?_
              refine st_off (t := 71) (c := (!t68)) rfl rfl hc6 ?_
              refine st_off (t := 71) (c := (!t68)) rfl rfl hc6 ?_
              refine st_off (t := 71) (c := (!t68)) rfl rfl hc6 ?_
              refine st_off (t := 71) (c := (!t68)) rfl rfl hc6 ?_
              refine st_off (t := 71) (c := (!t68)) rfl rfl hc6 ?_
              refine st_off (t := 71) (c := (!t68)) rfl rfl hc6 ?_
              refine st_val (ex_pick1 (b := (!t68)) rfl hc6 (v := (.bool true)) rfl) ?_
              refine wl_nil ?_
              exact then_n ⟨true, _, rfl, mk_upds' (ae rfl (ae rfl (ae rfl (ae rfl (ae rfl (ae rfl ae0)))))), h⟩
            · rw [if_neg hc6] at h
              refine st_on (t := 71) (c := (!t68)) rfl rfl (Bool.eq_false_iff.2 hc6) ?_
              refine st_val (ex_move (v := (Sl.v t34)) rfl) ?_
              refine st_on (t := 71) (c := (!t68)) rfl rfl (Bool.eq_false_iff.2 hc6) ?_
              refine st_val (ex_move (v := (Sl.v t2)) rfl) ?_
              refine st_on (t := 71) (c := (!t68)) rfl rfl (Bool.eq_false_iff.2 hc6) ?_
              refine st_val (ex_len (s := t2) Try.underlying23 rfl) ?_
              refine st_on (t := 71) (c := (!t68)) rfl rfl (Bool.eq_false_iff.2 hc6) ?_
              refine st_rnp (fun r => ex_indexAddr rfl rfl r) h ?_; clear h; intro t75 h
              refine st_on (t := 71) (c := (!t68)) rfl rfl (Bool.eq_false_iff.2 hc6) ?_
              refine st_val (ex_fa fa32_0 (p := t75) rfl) ?_
              refine st_on (t := 71) (c := (!t68)) rfl rfl (Bool.eq_false_iff.2 hc6) ?_
              refine st_rn (fun r => ex_load rfl r) h ?_; clear h; intro t77 w h
              refine st_on (t := 71) (c := (!t68)) rfl rfl (Bool.eq_false_iff.2 hc6) ?_
              refine st_val (ex_neqS (a := t77) (b := (⟨#[109, 97, 114, 107]⟩ : ByteArray)) rfl rfl) ?_
              refine st_val (ex_pick0 (b := (!t68)) rfl (Bool.eq_false_iff.2 hc6) (v := (.bool (decide (t77 ≠ (⟨#[109, 97, 114, 107]⟩ : ByteArray))))) rfl) ?_
              refine wl_nil ?_
              exact then_n ⟨(decide (t77 ≠ (⟨#[109, 97, 114, 107]⟩ : ByteArray))), _, rfl, mk_upds' (ae rfl (ae rfl (ae rfl (ae rfl (ae rfl (ae rfl ae0)))))), h⟩


end Go.Proofs.Ytdoeegfcmbcbkaa.Tr

