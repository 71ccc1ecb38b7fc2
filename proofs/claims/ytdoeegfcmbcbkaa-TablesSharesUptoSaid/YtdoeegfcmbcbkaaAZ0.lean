/- A part of the proof whose last text is YtdoeegfcmbcbkaaAZ6. -/
import Derived.WalkKit
import Derived.Orders
import Derived.Below
import Derived.OrdersHeld
import Derived.Test.YtdoeegfcmbcbkaaProg
set_option linter.all false
/- The engine: how the code of one function is walked in step with a typed predicate transformer (for any program P). -/
namespace Go.Eng
open Go
set_option linter.unusedVariables false

/-- a slice's header -/
structure Sl where
  a : Option Addr
  n : Nat
  c : Nat
def Sl.v (s : Sl) : Value := .slice s.a s.n s.c
def Sl.nil : Sl := ⟨none, 0, 0⟩
def Ptr (a : Addr) : Value := .pointer (some a)
abbrev Ext (w w' : World) : Prop := RowKit.Below w.heap.size w w'

/-- a frame: what the temporaries hold, as a function; N: how many there are -/
def upd (l : Nat → Value) (d : Nat) (v : Value) : Nat → Value := fun i => bif Nat.beq i d then v else l i
def upds (j : Nat → Value) : List (Nat × Value) → Nat → Value
  | [] => j
  | (d, v) :: ps => upd (upds j ps) d v
def AllEq (l : Nat → Value) : List (Nat × Value) → Prop
  | [] => True
  | (d, v) :: ps => l d = v ∧ AllEq l ps
def ofArgs : List Value → Nat → Nat → Value
  | [], _ => fun _ => undef
  | a :: vs, k => upd (ofArgs vs (k + 1)) k a
def F (N : Nat) (l : Nat → Value) : Act := ⟨⟨(List.range N).map l⟩, []⟩
def ev (N : Nat) (l : Nat → Value) : Operand → Value
  | .tmp t => bif Nat.blt t N then l t else undef
  | .const v => v
  | .global g => .pointer (some ⟨g, 0, none⟩)
  | .func f => .func (.func f) #[] #[]
theorem upd_self {l : Nat → Value} {d : Nat} {v : Value} (h : l d = v) : upd l d v = l := by
  funext i; unfold upd
  by_cases hi : i = d
  · subst hi; simp [h]
  · have : Nat.beq i d = false := by
      cases hc : Nat.beq i d
      · rfl
      · exact absurd (Nat.eq_of_beq_eq_true hc) hi
    rw [this]; rfl
theorem upds_self {l : Nat → Value} : ∀ {ps : List (Nat × Value)}, AllEq l ps → upds l ps = l
  | [], _ => rfl
  | (d, v) :: ps, h => by
    have ih := upds_self (ps := ps) h.2
    show upd (upds l ps) d v = l
    rw [ih]; exact upd_self h.1
theorem mk_upds {N : Nat} {l : Nat → Value} {ps : List (Nat × Value)} (h : AllEq l ps) : ∃ j, F N l = F N (upds j ps) := ⟨l, by rw [upds_self h]⟩
theorem mk_upds' {l : Nat → Value} {ps : List (Nat × Value)} (h : AllEq l ps) : ∃ j, l = upds j ps := ⟨l, (upds_self h).symm⟩
theorem ae {l : Nat → Value} {d : Nat} {v : Value} {ps : List (Nat × Value)} (h : l d = v) (t : AllEq l ps) : AllEq l ((d, v) :: ps) := ⟨h, t⟩
theorem ae0 {l : Nat → Value} : AllEq l [] := trivial
theorem F_getD (N : Nat) (l : Nat → Value) (t : Tmp) : (F N l).tmps.getD t undef = ev N l (.tmp t) := by
  show (⟨(List.range N).map l⟩ : Array Value).getD t undef = bif Nat.blt t N then l t else undef
  by_cases h : t < N
  · have hb : Nat.blt t N = true := by simpa [Nat.blt_eq] using h
    rw [hb]; simp [h]
  · have hb : Nat.blt t N = false := by
      cases hc : Nat.blt t N
      · rfl
      · exact absurd (by simpa [Nat.blt_eq] using hc) h
    rw [hb]; simp [h]
theorem F_eval (N : Nat) (l : Nat → Value) : (F N l).eval = ev N l := by
  funext x; cases x <;> first | rfl | exact F_getD N l _
theorem F_put (N : Nat) (l : Nat → Value) (d : Tmp) (v : Value) : (F N l).put (some d) v = F N (upd l d v) := by
  show (⟨(⟨(List.range N).map l⟩ : Array Value).setIfInBounds d v, []⟩ : Act) = ⟨⟨(List.range N).map (upd l d v)⟩, []⟩
  congr 1
  apply Array.toList_inj.1
  simp only [Array.toList_setIfInBounds]
  apply List.ext_getElem
  · simp
  · intro i h1 h2
    simp only [List.length_map, List.length_range, List.length_set] at h1 h2
    rw [List.getElem_set]
    simp only [List.getElem_map, List.getElem_range, upd]
    by_cases hi : d = i
    · subst hi; simp
    · have : Nat.beq i d = false := by
        cases hc : Nat.beq i d
        · rfl
        · exact absurd (Nat.eq_of_beq_eq_true hc).symm hi
      rw [if_neg hi, this]; rfl
theorem F_put_none (N : Nat) (l : Nat → Value) (v : Value) : (F N l).put none v = F N l := rfl

/-- what one operation yields -/
def Ex (P : Program) (op : Op) (ty : TypeId) (N : Nat) (l : Nat → Value) (w : World) (v : Value) (w' : World) : Prop :=
  (execOp (ev N l) ⟨none, op, ty, "", #[], none⟩).run P w = .ok (.value v) w'
def ExU (P : Program) (op : Op) (ty : TypeId) (N : Nat) (l : Nat → Value) (w w' : World) : Prop :=
  (execOp (ev N l) ⟨none, op, ty, "", #[], none⟩).run P w = .ok .skip w'
def ExC (P : Program) (op : Op) (ty : TypeId) (N : Nat) (l : Nat → Value) (w : World) (f : FuncId) (args : Array Value) : Prop :=
  (execOp (ev N l) ⟨none, op, ty, "", #[], none⟩).run P w = .ok (.enter f args) w
theorem execOp_eq (ρ : Operand → Value) (d : Option Tmp) (op : Op) (ty : TypeId) (pos : String) (after : Array Edge) (g : Option (Nat × Bool)) :
    execOp ρ ⟨d, op, ty, pos, after, g⟩ = execOp ρ ⟨none, op, ty, "", #[], none⟩ := by cases op <;> rfl

/-- the rest of a region's operations (a structure, so that nothing unfolds it) -/
structure WL (P : Program) (ops : Array Oper) (Q : Exit → Act → World → Prop) (l : List Oper) (a : Act) (w : World) : Prop where
  out : wpList P ops Q l a w
section steps
variable {P : Program} {ops : Array Oper} {Q : Exit → Act → World → Prop} {rest : List Oper} {N : Nat} {l : Nat → Value} {w w' : World}
  {d : Tmp} {op : Op} {ty : TypeId} {pos : String} {after : Array Edge} {v : Value}
theorem wpList_of {o : Oper} (hg : o.guard = none) (h : o.wp P (F N l) w (WL P ops Q rest) Q) : WL P ops Q (o :: rest) (F N l) w := by
  refine ⟨?_⟩
  unfold wpList; rw [if_pos (by simp [Region.wanted, hg])]; exact .inl (Oper.wp_mono (fun _ _ h => h.out) h)
theorem st_val (h : Ex P op ty N l w v w') (hk : WL P ops Q rest (F N (upd l d v)) w') :
    WL P ops Q (⟨some d, op, ty, pos, after, none⟩ :: rest) (F N l) w := by
  refine wpList_of rfl ?_
  unfold Oper.wp; rw [F_eval, execOp_eq, h, Oper.upon_value, F_put]; exact hk
theorem st_val0 (h : Ex P op ty N l w v w') (hk : WL P ops Q rest (F N l) w') :
    WL P ops Q (⟨none, op, ty, pos, after, none⟩ :: rest) (F N l) w := by
  refine wpList_of rfl ?_
  unfold Oper.wp; rw [F_eval, execOp_eq, h, Oper.upon_value, F_put_none]; exact hk
theorem st_unit (h : ExU P op ty N l w w') (hk : WL P ops Q rest (F N l) w') :
    WL P ops Q (⟨none, op, ty, pos, after, none⟩ :: rest) (F N l) w := by
  refine wpList_of rfl ?_
  unfold Oper.wp; rw [F_eval, execOp_eq, h, Oper.upon_skip, F_put_none]; exact hk
theorem st_call {f : FuncId} {args : Array Value} (hc : ExC P op ty N l w f args)
    (h : Calls P f args w fun e w' => ∃ v, e = .returned v ∧ WL P ops Q rest (F N (upd l d v)) w') :
    WL P ops Q (⟨some d, op, ty, pos, after, none⟩ :: rest) (F N l) w := by
  refine wpList_of rfl ?_
  unfold Oper.wp; rw [F_eval, execOp_eq, hc, Oper.upon_enter]
  refine h.mono ?_
  rintro e w' ⟨v, rfl, hv⟩
  show WL P ops Q rest ((F N l).put (some d) v) w'
  rw [F_put]; exact hv
theorem st_call0 {f : FuncId} {args : Array Value} (hc : ExC P op ty N l w f args)
    (h : Calls P f args w fun e w' => ∃ v, e = .returned v ∧ WL P ops Q rest (F N l) w') :
    WL P ops Q (⟨none, op, ty, pos, after, none⟩ :: rest) (F N l) w := by
  refine wpList_of rfl ?_
  unfold Oper.wp; rw [F_eval, execOp_eq, hc, Oper.upon_enter]
  refine h.mono ?_
  rintro e w' ⟨v, rfl, hv⟩
  exact hv
/-- an operation whose guard holds, and one whose guard does not -/
theorem yielded_of {g : Nat} {t : Tmp} {b : Bool} (hd : (ops[g]?).bind (·.dst) = some t) (hv : ev N l (.tmp t) = (.bool b)) : yielded ops (F N l).tmps g = some b := by
  have h0 := (F_getD N l t).trans hv
  have : (F N l).tmps[t]? = some (.bool b) := by
    cases hc : (F N l).tmps[t]? with
    | none => simp [hc, undef] at h0
    | some x => simp [hc] at h0; rw [h0]
  simp [yielded, hd, this]
theorem st_on {o : Option Tmp} {g : Nat} {t : Tmp} {b c : Bool} (hd : (ops[g]?).bind (·.dst) = some t) (hv : ev N l (.tmp t) = (.bool c)) (hc : c = b)
    (h : WL P ops Q (⟨o, op, ty, pos, after, none⟩ :: rest) (F N l) w) : WL P ops Q (⟨o, op, ty, pos, after, some (g, b)⟩ :: rest) (F N l) w := by
  subst hc
  have hy := yielded_of (N := N) (l := l) hd hv
  have h1 : Region.wanted ⟨o, op, ty, pos, after, some (g, c)⟩ (yielded ops (F N l).tmps) = true := by simp [Region.wanted, hy]
  obtain ⟨h⟩ := h
  refine ⟨?_⟩
  unfold wpList at h ⊢
  rw [if_pos h1]
  rw [if_pos (by simp [Region.wanted])] at h
  unfold Oper.wp Oper.asks at *
  rw [execOp_eq] at h ⊢
  exact h
theorem st_off {g : Nat} {t : Tmp} {b c : Bool} (hd : (ops[g]?).bind (·.dst) = some t) (hv : ev N l (.tmp t) = (.bool c)) (hc : c = !b)
    (h : WL P ops Q rest (F N (upd l d undef)) w) : WL P ops Q (⟨some d, op, ty, pos, after, some (g, b)⟩ :: rest) (F N l) w := by
  subst hc
  have hy := yielded_of (N := N) (l := l) hd hv
  have h1 : ¬ (Region.wanted ⟨some d, op, ty, pos, after, some (g, b)⟩ (yielded ops (F N l).tmps) = true) := by simp [Region.wanted, hy]
  refine ⟨?_⟩
  unfold wpList
  rw [if_neg h1, F_put]; exact h.out
theorem st_off0 {g : Nat} {t : Tmp} {b c : Bool} (hd : (ops[g]?).bind (·.dst) = some t) (hv : ev N l (.tmp t) = (.bool c)) (hc : c = !b)
    (h : WL P ops Q rest (F N l) w) : WL P ops Q (⟨none, op, ty, pos, after, some (g, b)⟩ :: rest) (F N l) w := by
  subst hc
  have hy := yielded_of (N := N) (l := l) hd hv
  have h1 : ¬ (Region.wanted ⟨none, op, ty, pos, after, some (g, b)⟩ (yielded ops (F N l).tmps) = true) := by simp [Region.wanted, hy]
  refine ⟨?_⟩
  unfold wpList
  rw [if_neg h1, F_put_none]; exact h.out
theorem yielded_none {g : Nat} {t : Tmp} (hd : (ops[g]?).bind (·.dst) = some t) (hv : ev N l (.tmp t) = undef) : yielded ops (F N l).tmps g = none := by
  have h0 := (F_getD N l t).trans hv
  cases hc : (F N l).tmps[t]? with
  | none => simp [yielded, hd, hc]
  | some x =>
    simp [hc] at h0
    subst h0
    simp [yielded, hd, hc, undef]
theorem st_offu {g : Nat} {t : Tmp} {b : Bool} (hd : (ops[g]?).bind (·.dst) = some t) (hv : ev N l (.tmp t) = undef)
    (h : WL P ops Q rest (F N (upd l d undef)) w) : WL P ops Q (⟨some d, op, ty, pos, after, some (g, b)⟩ :: rest) (F N l) w := by
  have hy := yielded_none (N := N) (l := l) hd hv
  have h1 : ¬ (Region.wanted ⟨some d, op, ty, pos, after, some (g, b)⟩ (yielded ops (F N l).tmps) = true) := by simp [Region.wanted, hy]
  refine ⟨?_⟩
  unfold wpList
  rw [if_neg h1, F_put]; exact h.out
theorem st_offu0 {g : Nat} {t : Tmp} {b : Bool} (hd : (ops[g]?).bind (·.dst) = some t) (hv : ev N l (.tmp t) = undef)
    (h : WL P ops Q rest (F N l) w) : WL P ops Q (⟨none, op, ty, pos, after, some (g, b)⟩ :: rest) (F N l) w := by
  have hy := yielded_none (N := N) (l := l) hd hv
  have h1 : ¬ (Region.wanted ⟨none, op, ty, pos, after, some (g, b)⟩ (yielded ops (F N l).tmps) = true) := by simp [Region.wanted, hy]
  refine ⟨?_⟩
  unfold wpList
  rw [if_neg h1, F_put_none]; exact h.out
end steps

section exs
variable {P : Program} {N : Nat} {l : Nat → Value} {w w' : World} {ty : TypeId} {x y z : Operand} {v : Value} {t : TypeId}
theorem ex_move (hx : ev N l x = v) : Ex P (.move x) ty N l w v w := by subst hx; rfl
theorem ex_assign (hx : ev N l x = v) : Ex P (.assign x) ty N l w v w := by subst hx; rfl
theorem ex_pick {b : Bool} (hc : ev N l z = .bool b) (hv : (if b then ev N l x else ev N l y) = v) : Ex P (.pick z x y) ty N l w v w := by
  subst hv; simp [Ex, execOp, hc, asBool]
theorem ex_pick1 {b : Bool} (hc : ev N l z = .bool b) (hb : b = true) (hv : ev N l x = v) : Ex P (.pick z x y) ty N l w v w := by
  subst hb; subst hv; simp [Ex, execOp, hc, asBool]
theorem ex_pick0 {b : Bool} (hc : ev N l z = .bool b) (hb : b = false) (hv : ev N l y = v) : Ex P (.pick z x y) ty N l w v w := by
  subst hb; subst hv; simp [Ex, execOp, hc, asBool]
/-- a value operation by the run of its instruction -/
theorem ex_box {u : Value} (hx : ev N l x = u) (h : (Instr.box t u).run P w = .ok v w') : Ex P (.box t x) ty N l w v w' := by
  subst hx; simp [Ex, execOp, h]
theorem ex_alloc (h : (Instr.alloc t true (.tuple #[])).run P w = .ok v w') : Ex P (.alloc t) ty N l w v w' := by simp [Ex, execOp, h]
theorem ex_load {u : Value} (hx : ev N l x = u) (h : (Instr.loadAt t u).run P w = .ok v w') : Ex P (.load t x) ty N l w v w' := by
  subst hx; simp [Ex, execOp, h]
theorem ex_store {u u' : Value} (hx : ev N l x = u) (hy : ev N l y = u') (h : (Instr.storeAt t u u').run P w = .ok () w') : ExU P (.store t x y) ty N l w w' := by
  subst hx hy; simp [ExU, execOp, h]
theorem ex_fieldAddr {u : Value} {f : Nat} (hx : ev N l x = u) (h : (Instr.fieldAt t u f).run P w = .ok v w') : Ex P (.fieldAddr t x f) ty N l w v w' := by
  subst hx; simp [Ex, execOp, h]
theorem ex_field {u : Value} {f : Nat} (hx : ev N l x = u) (h : (Instr.field t u f).run P w = .ok v w') : Ex P (.field t x f) ty N l w v w' := by
  subst hx; simp [Ex, execOp, h]
theorem ex_indexAddr {u u' : Value} (hx : ev N l x = u) (hy : ev N l y = u') (h : (Instr.indexAt t u u').run P w = .ok v w') : Ex P (.indexAddr t x y) ty N l w v w' := by
  subst hx hy; simp [Ex, execOp, h]
theorem ex_index {u u' : Value} (hx : ev N l x = u) (hy : ev N l y = u') (h : (Instr.index t u u').run P w = .ok v w') : Ex P (.index t x y) ty N l w v w' := by
  subst hx hy; simp [Ex, execOp, h]
theorem ex_lookup {u u' : Value} {b : Bool} (hx : ev N l x = u) (hy : ev N l y = u') (h : (Instr.lookup t u u' b).run P w = .ok v w') : Ex P (.lookup t x y b) ty N l w v w' := by
  subst hx hy; simp [Ex, execOp, h]
theorem ex_mapUpdate {u u' u'' : Value} (hx : ev N l x = u) (hy : ev N l y = u') (hz : ev N l z = u'') (h : (Instr.mapUpdate t u u' u'').run P w = .ok () w') :
    ExU P (.mapUpdate t x y z) ty N l w w' := by
  subst hx hy hz; simp [ExU, execOp, h]
theorem ex_range {u : Value} (hx : ev N l x = u) (h : (Instr.range t u).run P w = .ok v w') : Ex P (.range t x) ty N l w v w' := by
  subst hx; simp [Ex, execOp, h]
theorem ex_next {u : Value} {b : Bool} (hx : ev N l x = u) (h : (Instr.next u b ty).run P w = .ok v w') : Ex P (.next x b) ty N l w v w' := by
  subst hx; simp [Ex, execOp, h]
theorem ex_entry {u : Value} (hx : ev N l x = u) (h : (Instr.entry u).run P w = .ok v w') : Ex P (.entry x) ty N l w v w' := by
  subst hx; simp [Ex, execOp, h]
theorem ex_extract {u : Value} {i : Nat} (hx : ev N l x = u) (h : (Instr.extract u i).run P w = .ok v w') : Ex P (.extract x i) ty N l w v w' := by
  subst hx; simp [Ex, execOp, h]
theorem ex_convert {u : Value} {s : TypeId} (hx : ev N l x = u) (h : (convert s t u).run P w = .ok v w') : Ex P (.convert s t x) ty N l w v w' := by
  subst hx; simp [Ex, execOp, h]
theorem ex_unOp {u : Value} {o : UnOp} (hx : ev N l x = u) (h : (Op.unary o u).run P w = .ok v w') : Ex P (.unOp o t x) ty N l w v w' := by
  subst hx; simp [Ex, execOp, h]
theorem ex_makeMap (h : (Instr.makeMap t none).run P w = .ok v w') : Ex P (.makeMap t none) ty N l w v w' := by simp [Ex, execOp, h]
theorem ex_makeSlice {u u' : Value} (hx : ev N l x = u) (hy : ev N l y = u') (h : (Instr.makeSlice t u u').run P w = .ok v w') : Ex P (.makeSlice t x y) ty N l w v w' := by
  subst hx hy; simp [Ex, execOp, h]
theorem ex_slice {u : Value} {a b c : Option Operand} {a' b' c' : Option Value} (hx : ev N l x = u) (ha : a.map (ev N l) = a') (hb : b.map (ev N l) = b') (hc : c.map (ev N l) = c')
    (h : (Instr.sliceAt t u a' b' c').run P w = .ok v w') : Ex P (.slice t x a b c) ty N l w v w' := by
  subst hx ha hb hc; simp [Ex, execOp, h]
theorem map_of {α β : Type} {f : α → β} {a : Array α} {l' : List β} (h : a.toList.map f = l') : a.map f = l'.toArray := by
  subst h; apply Array.toList_inj.1; simp
theorem ex_makeFunc {f : Fn} {a b : Array Operand} {a' b' : List Value} (ha : a.toList.map (ev N l) = a') (hb : b.toList.map (ev N l) = b') : Ex P (.makeFunc f a b) ty N l w (.func f a'.toArray b'.toArray) w := by
  simp only [Ex, execOp, Instr.makeFunc, map_of ha, map_of hb, Sem.run_bind, Sem.run_pure, Result.andThen_ok]
def partsOf (N : Nat) (l : Nat → Value) (a : List (Nat × Operand)) : List (Nat × Value) := a.map fun p => (p.1, ev N l p.2)
theorem parts_map {a : Array (Nat × Operand)} {a' : List (Nat × Value)} (ha : partsOf N l a.toList = a') : (a.map fun (i, x) => (i, ev N l x)) = a'.toArray := by
  subst ha; apply Array.toList_inj.1; simp [partsOf]
theorem ex_build {a : Array (Nat × Operand)} {a' : List (Nat × Value)} (ha : partsOf N l a.toList = a') (h : (Instr.build t a'.toArray).run P w = .ok v w') :
    Ex P (.build t a) ty N l w v w' := by
  have h1 := parts_map ha
  simp only [Ex, execOp]
  rw [h1]
  simp [h]
theorem ex_buildSlice {n : Nat} {a : Array (Nat × Operand)} {a' : List (Nat × Value)} (ha : partsOf N l a.toList = a') (h : (Instr.buildSlice t n a'.toArray).run P w = .ok v w') :
    Ex P (.buildSlice t n a) ty N l w v w' := by
  have h1 := parts_map ha
  simp only [Ex, execOp]
  rw [h1]
  simp [h]
theorem ex_nilCheck {p : Addr} (hx : ev N l x = Ptr p) : Ex P (.nilCheck x) ty N l w (Ptr p) w := by
  simp [Ex, execOp, hx, Ptr]
theorem ex_nilCheckF {f : FuncId} {a b : Array Value} (hx : ev N l x = .func (.func f) a b) : Ex P (.nilCheck x) ty N l w (.func (.func f) a b) w := by
  simp [Ex, execOp, hx]
theorem ex_builtin {b : Builtin} {args : Array Operand} {ts : Array TypeId} {vs : List Value} {k : Array Value → Sem Value}
    (ha : args.toList.map (ev N l) = vs) (hk : ∀ cs : Array Bool, Go.builtin b ts ty cs vs.toArray = (do let v ← k vs.toArray; pure (.value v))) (h : (k vs.toArray).run P w = .ok v w') :
    Ex P (.call { callee := .builtin b, args := args, argTypes := ts }) ty N l w v w' := by
  simp only [Ex, execOp, resolve, invoke, map_of ha, Sem.run_bind, Sem.run_pure, Result.andThen_ok, hk, h]
theorem ex_binOp {u u' : Value} {o : BinOp} {t' : TypeId} (hx : ev N l x = u) (hy : ev N l y = u') (hg : (eqGuard o t x y u u').run P w = .ok () w)
    (h : (binOp o t u u').run P w = .ok v w') : Ex P (.binOp o t x y t') ty N l w v w' := by
  subst hx hy; simp [Ex, execOp, hg, h]
theorem guard_int {o : BinOp} {k k' : IntKind} {a b : Int} : (eqGuard o t x y (.int k a) (.int k' b)).run P w = .ok () w := by
  cases o <;> simp [eqGuard]
theorem guard_string {o : BinOp} {a b : ByteArray} : (eqGuard o t x y (.string a) (.string b)).run P w = .ok () w := by
  cases o <;> simp [eqGuard]
theorem guard_float {o : BinOp} {k k' : FloatKind} {a b : Nat} : (eqGuard o t x y (.float k a) (.float k' b)).run P w = .ok () w := by
  cases o <;> simp [eqGuard]
theorem guard_bool {o : BinOp} {a b : Bool} : (eqGuard o t x y (.bool a) (.bool b)).run P w = .ok () w := by
  cases o <;> simp [eqGuard]
theorem guard_slice {o : BinOp} {a b : Option Addr} {n c n' c' : Nat} : (eqGuard o t x y (.slice a n c) (.slice b n' c')).run P w = .ok () w := by
  cases o <;> simp [eqGuard]
theorem guard_pointer {o : BinOp} {a b : Option Addr} : (eqGuard o t x y (.pointer a) (.pointer b)).run P w = .ok () w := by
  cases o <;> simp [eqGuard]
section ints
variable {k : IntKind} {a b : Int} {t' : TypeId} (hx : ev N l x = .int k a) (hy : ev N l y = .int k b)
include hx hy
theorem ex_lss : Ex P (.binOp .lss t x y t') ty N l w (.bool (decide (a < b))) w := ex_binOp hx hy guard_int (by simp [binOp, Op.intCmp])
theorem ex_leq : Ex P (.binOp .leq t x y t') ty N l w (.bool (decide (a ≤ b))) w := ex_binOp hx hy guard_int (by simp [binOp, Op.intCmp])
theorem ex_gtr : Ex P (.binOp .gtr t x y t') ty N l w (.bool (decide (b < a))) w := ex_binOp hx hy guard_int (by simp [binOp, Op.intCmp])
theorem ex_geq : Ex P (.binOp .geq t x y t') ty N l w (.bool (decide (b ≤ a))) w := ex_binOp hx hy guard_int (by simp [binOp, Op.intCmp])
theorem ex_eql : Ex P (.binOp .eql t x y t') ty N l w (.bool (decide (a = b))) w := ex_binOp hx hy guard_int (by
  have : (a == b) = decide (a = b) := by rw [Bool.eq_iff_iff]; simp
  simp [binOp, Op.intCmp, this])
theorem ex_neq : Ex P (.binOp .neq t x y t') ty N l w (.bool (decide (a ≠ b))) w := ex_binOp hx hy guard_int (by
  have : (a != b) = decide (a ≠ b) := by rw [Bool.eq_iff_iff]; simp
  simp [binOp, Op.intCmp, this])
theorem ex_add : Ex P (.binOp .add t x y t') ty N l w (.int k (k.wrap (a + b))) w := ex_binOp hx hy guard_int (by simp [binOp, Op.intArith])
theorem ex_sub : Ex P (.binOp .sub t x y t') ty N l w (.int k (k.wrap (a - b))) w := ex_binOp hx hy guard_int (by simp [binOp, Op.intArith])
theorem ex_mul : Ex P (.binOp .mul t x y t') ty N l w (.int k (k.wrap (a * b))) w := ex_binOp hx hy guard_int (by simp [binOp, Op.intArith])
end ints
theorem ex_not {b : Bool} (hx : ev N l x = .bool b) : Ex P (.unOp .not t x) ty N l w (.bool (!b)) w := ex_unOp hx (by simp [Op.unary])
theorem run_equalInB (d : Nat) {a b : Bool} (hu : P.underlying t = some .bool) : (Op.equalIn (d + 1) t (.bool a) (.bool b)).run P w = .ok (a == b) w := by
  unfold Op.equalIn
  simp only [Sem.run_bind, run_underlying hu, Result.andThen_ok, Sem.run_pure]
theorem run_equalB {a b : Bool} (hu : P.underlying t = some .bool) : (Op.equal t (.bool a) (.bool b)).run P w = .ok (a == b) w := run_equalInB 9999 hu
theorem ex_eqlB {a b : Bool} {t' : TypeId} (hu : P.underlying t = some .bool) (hx : ev N l x = .bool a) (hy : ev N l y = .bool b) : Ex P (.binOp .eql t x y t') ty N l w (.bool (a == b)) w :=
  ex_binOp hx hy guard_bool (by
    show (do pure (Value.bool (← Op.equal t (.bool a) (.bool b))) : Sem Value).run P w = _
    simp only [Sem.run_bind, run_equalB hu, Result.andThen_ok, Sem.run_pure])
theorem ex_neqB {a b : Bool} {t' : TypeId} (hu : P.underlying t = some .bool) (hx : ev N l x = .bool a) (hy : ev N l y = .bool b) : Ex P (.binOp .neq t x y t') ty N l w (.bool (!(a == b))) w :=
  ex_binOp hx hy guard_bool (by
    show (do pure (Value.bool (!(← Op.equal t (.bool a) (.bool b)))) : Sem Value).run P w = _
    simp only [Sem.run_bind, run_equalB hu, Result.andThen_ok, Sem.run_pure])
theorem ex_len {s : Sl} {e : TypeId} (hu : P.underlying t = some (.slice e)) (hx : ev N l x = s.v) : Ex P (.call { callee := .builtin .len, args := #[x], argTypes := #[t] }) ty N l w (.int .i64 s.n) w := by
  simp [Ex, execOp, resolve, invoke, builtin, Builtin.len_, hx, Sl.v, run_underlying hu, goInt]
theorem ex_lenS {s : ByteArray} (hu : P.underlying t = some .string) (hx : ev N l x = .string s) : Ex P (.call { callee := .builtin .len, args := #[x], argTypes := #[t] }) ty N l w (.int .i64 s.size) w := by
  simp [Ex, execOp, resolve, invoke, builtin, Builtin.len_, hx, run_underlying hu, goInt]
theorem ex_max {k : IntKind} {a b : Int} {ts : Array TypeId} (hx : ev N l x = .int k a) (hy : ev N l y = .int k b) :
    Ex P (.call { callee := .builtin .max, args := #[x, y], argTypes := ts }) ty N l w (.int k (max a b)) w := by
  have : (if a < b then b else a) = max a b := by rw [Int.max_def]; split <;> split <;> omega
  simp [Ex, execOp, resolve, invoke, builtin, Builtin.max_, hx, hy, Builtin.max2, this]
theorem ex_min {k : IntKind} {a b : Int} {ts : Array TypeId} (hx : ev N l x = .int k a) (hy : ev N l y = .int k b) :
    Ex P (.call { callee := .builtin .min, args := #[x, y], argTypes := ts }) ty N l w (.int k (min a b)) w := by
  have : (if b < a then b else a) = min a b := by rw [Int.min_def]; split <;> split <;> omega
  simp [Ex, execOp, resolve, invoke, builtin, Builtin.min_, hx, hy, Builtin.min2, this]
theorem exC_func {f : FuncId} {args : Array Operand} {ts : Array TypeId} {vs : List Value} (ha : args.toList.map (ev N l) = vs)
    (hf : ∀ (vs : Array Value) (w : World), (callFunc f vs).run P w = .ok (.enter f vs) w) :
    ExC P (.call { callee := .value (.func f), args := args, argTypes := ts }) ty N l w f vs.toArray := by
  simp [ExC, execOp, resolve, Deferred.ofValue, ev, invoke, hf, map_of ha]
theorem ex_callX {f : FuncId} {args : Array Operand} {ts : Array TypeId} {vs : List Value} (ha : args.toList.map (ev N l) = vs) (h : (callFunc f vs.toArray).run P w = .ok (.value v) w') :
    Ex P (.call { callee := .value (.func f), args := args, argTypes := ts }) ty N l w v w' := by
  simp [Ex, execOp, resolve, Deferred.ofValue, ev, invoke, h, map_of ha]
theorem exC_value {f : FuncId} {args : Array Operand} {ts : Array TypeId} {vs : List Value} {first cap : Array Value} (hx : ev N l x = .func (.func f) first cap) (ha : args.toList.map (ev N l) = vs)
    (hf : ∀ (vs : Array Value) (w : World), (callFunc f vs).run P w = .ok (.enter f vs) w) :
    ExC P (.call { callee := .value x, args := args, argTypes := ts }) ty N l w f (first ++ vs.toArray ++ cap) := by
  simp [ExC, execOp, resolve, Deferred.ofValue, hx, invoke, hf, map_of ha]
end exs
theorem enters {P : Program} {f : FuncId} {fn : Func} (h : P.funcs[f]? = some fn) (hb : fn.body.isNone = false) (hn : (fn.name == "runtime.NumGoroutine") = false) (vs : Array Value) (w : World) :
    (callFunc f vs).run P w = .ok (.enter f vs) w := by
  have hp : (program.run P w : Result Program) = .ok P w := rfl
  simp only [callFunc, Sem.run_bind, hp, Result.andThen_ok, h, hn, hb]
  rfl

/-! the forms of a transformer -/
section forms
variable {α σ : Type} (P : Program)
def Rn (enc : α → Value) (s : Sem Value) (w : World) (K : α → World → Prop) : Prop := ∃ x w', s.run P w = .ok (enc x) w' ∧ K x w'
def RnU (s : Sem Unit) (w : World) (K : World → Prop) : Prop := ∃ w', s.run P w = .ok () w' ∧ K w'
def RnP (enc : α → Value) (s : Sem Value) (K : α → Prop) : Prop := ∃ x, (∀ w, s.run P w = .ok (enc x) w) ∧ K x
def RnL (enc : α → Value) (s : Sem Value) (w0 : World) (K : α → Prop) : Prop := ∃ x, (∀ w, Ext w0 w → s.run P w = .ok (enc x) w) ∧ K x
def Cal (enc : α → Value) (f : FuncId) (args : Array Value) (w : World) (K : α → World → Prop) : Prop :=
  Calls P f args w fun e w' => ∃ x, e = .returned (enc x) ∧ K x w'
def CalV (enc : α → Value) (fv : Value) (args : Array Value) (w : World) (K : α → World → Prop) : Prop :=
  ∃ f first cap, fv = .func (.func f) first cap ∧ (∀ (vs : Array Value) (w : World), (callFunc f vs).run P w = .ok (.enter f vs) w) ∧ Cal P enc f (first ++ args ++ cap) w K
end forms
section forms
variable {α σ : Type}
def Lp (body : σ → World → (σ → World → Prop) → Prop) (s : σ) (w : World) : Prop :=
  ∃ (I : σ → World → Prop) (m : σ → World → Nat), I s w ∧ ∀ s w, I s w → body s w fun s' w' => I s' w' ∧ m s' w' < m s w
def Jn (body : (σ → World → Prop) → Prop) (rest : σ → World → Prop) : Prop := ∃ M : σ → World → Prop, body M ∧ ∀ s w, M s w → rest s w
def NotNil (p : Option Addr) (K : Addr → Prop) : Prop := ∃ a, p = some a ∧ K a
theorem Jn.dup {body : (σ → World → Prop) → Prop} {rest : σ → World → Prop} (h : body rest) : Jn body rest := ⟨rest, h, fun _ _ h => h⟩
end forms

section ctl
variable {P : Program} {Q : Exit → Act → World → Prop} {a : Act} {w : World}
theorem then_n {next : Act → World → Prop} (h : next a w) : Exit.then next Q .normal a w := h
theorem then_e {next : Act → World → Prop} {i : Nat} (h : Q (.exit i) a w) : Exit.then next Q (.exit i) a w := h
theorem then_r {next : Act → World → Prop} (h : Q .ret a w) : Exit.then next Q .ret a w := h
theorem inb_n {i : Nat} (h : Q .normal a w) : Exit.inBlock i Q .normal a w := h
theorem inb_r {i : Nat} (h : Q .ret a w) : Exit.inBlock i Q .ret a w := h
theorem inb_e {i : Nat} (h : Q .normal a w) : Exit.inBlock i Q (.exit i) a w := by simpa [Exit.inBlock] using h
theorem inb_o {i j : Nat} (hne : (j == i) = false) (h : Q (.exit j) a w) : Exit.inBlock i Q (.exit j) a w := by
  have : j ≠ i := by simpa using hne
  simpa [Exit.inBlock, this] using h
theorem region_ {id : Nat} {l : List Oper} (h : WL P l.toArray Q l a w) : (Code.region id l.toArray false).wp P Q a w := wp_region_lit h.out
theorem wl_nil {ops : Array Oper} (h : Q .normal a w) : WL P ops Q [] a w := ⟨h⟩
theorem cond_b {N : Nat} {l : Nat → Value} {c : Operand} {x y : Code} {b : Bool} (hc : ev N l c = .bool b) (h1 : b = true → x.wp P Q (F N l) w) (h0 : b = false → y.wp P Q (F N l) w) :
    (Code.cond c x y).wp P Q (F N l) w := wp_cond_split (by rw [F_eval]; exact hc) h1 h0
theorem cond_1 {N : Nat} {l : Nat → Value} {c : Operand} {x y : Code} {b : Bool} (hc : ev N l c = .bool b) (hb : b = true) (h1 : x.wp P Q (F N l) w) :
    (Code.cond c x y).wp P Q (F N l) w := wp_cond_true (by rw [F_eval, hc, hb]) h1
theorem cond_0 {N : Nat} {l : Nat → Value} {c : Operand} {x y : Code} {b : Bool} (hc : ev N l c = .bool b) (hb : b = false) (h1 : y.wp P Q (F N l) w) :
    (Code.cond c x y).wp P Q (F N l) w := wp_cond_false (by rw [F_eval, hc, hb]) h1
theorem least {p : Nat → Prop} (h : ∃ n, p n) : ∃ n, p n ∧ ∀ m, p m → n ≤ m := by
  obtain ⟨n, hn⟩ := h
  induction n using Nat.strongRecOn with
  | _ n ih =>
    by_cases hex : ∃ m, m < n ∧ p m
    · obtain ⟨m, hm, hp⟩ := hex; exact ih m hm hp
    · exact ⟨n, hn, fun m hm => Nat.le_of_not_lt fun hlt => hex ⟨m, hlt, hm⟩⟩
open Classical in
theorem wp_loop_x {σ : Type} {c : Code} (fr : σ → Act → Prop) (I : σ → World → Prop) (m : σ → World → Nat) (s : σ) (hf : fr s a) (hI : I s w)
    (round : ∀ s a w, fr s a → I s w → c.wp P (Exit.then (fun a' w' => ∃ s', fr s' a' ∧ I s' w' ∧ m s' w' < m s w) Q) a w) : (Code.loop c).wp P Q a w := by
  have ex : ∃ μ : Act → World → Nat, ∀ a w, (∃ s, fr s a ∧ I s w) → (∃ s, fr s a ∧ I s w ∧ m s w = μ a w) ∧ ∀ s, fr s a → I s w → μ a w ≤ m s w := by
    refine ⟨fun a w => if h : ∃ n, ∃ s, fr s a ∧ I s w ∧ m s w = n then Classical.choose (least h) else 0, fun a w hs => ?_⟩
    have h : ∃ n, ∃ s, fr s a ∧ I s w ∧ m s w = n := by obtain ⟨s, h1, h2⟩ := hs; exact ⟨_, s, h1, h2, rfl⟩
    simp only []
    rw [dif_pos h]
    have hc := Classical.choose_spec (least h)
    exact ⟨hc.1, fun s h1 h2 => hc.2 _ ⟨s, h1, h2, rfl⟩⟩
  obtain ⟨μ, hμ⟩ := ex
  refine wp_loop (fun a w => ∃ s, fr s a ∧ I s w) μ ⟨s, hf, hI⟩ ?_
  rintro a w hs
  obtain ⟨⟨s, h1, h2, h3⟩, _⟩ := hμ a w hs
  refine Code.wp_mono ?_ (round s a w h1 h2)
  intro e a' w' hq
  cases e <;> first | exact hq | skip
  obtain ⟨s', f1, f2, f3⟩ := hq
  exact ⟨⟨s', f1, f2⟩, by rw [← h3]; exact Nat.lt_of_le_of_lt ((hμ a' w' ⟨s', f1, f2⟩).2 s' f1 f2) f3⟩
end ctl
section ret
variable {P : Program} {fn : Func} {R : Ending → World → Prop} {N : Nat} {l : Nat → Value} {w : World}
theorem ret_0 (hfn : fn.results = #[]) (h : R (.returned (.tuple #[])) w) : bodyPost P fn R .ret (F N l) w :=
  bodyPost_ret (results_none hfn _ _ _) rfl h
theorem end_0 (hfn : fn.results = #[]) (h : R (.returned (.tuple #[])) w) : bodyPost P fn R .normal (F N l) w :=
  bodyPost_end (results_none hfn _ _ _) rfl h
theorem getD_F (t : Tmp) : (F N l).tmps.getD t undef = ev N l (.tmp t) := F_getD N l t
theorem ret_1 {t : Tmp} {v : Value} (hfn : fn.results = #[.tmp t]) (hv : ev N l (.tmp t) = v) (h : R (.returned v) w) : bodyPost P fn R .ret (F N l) w :=
  bodyPost_ret (results_tmp hfn _ _ _) rfl (by rw [getD_F, hv]; exact h)
theorem ret_2 {t u : Tmp} {v v' : Value} (hfn : fn.results = #[.tmp t, .tmp u]) (hv : ev N l (.tmp t) = v) (hv' : ev N l (.tmp u) = v') (h : R (.returned (.tuple #[v, v'])) w) :
    bodyPost P fn R .ret (F N l) w :=
  bodyPost_ret (results_tmp2 hfn _ _ _) rfl (by rw [getD_F, getD_F, hv, hv']; exact h)
theorem ret_3 {t u s : Tmp} {v v' v'' : Value} (hfn : fn.results = #[.tmp t, .tmp u, .tmp s]) (hv : ev N l (.tmp t) = v) (hv' : ev N l (.tmp u) = v') (hv'' : ev N l (.tmp s) = v'')
    (h : R (.returned (.tuple #[v, v', v''])) w) : bodyPost P fn R .ret (F N l) w := by
  refine bodyPost_ret (v := .tuple #[(F N l).tmps.getD t undef, (F N l).tmps.getD u undef, (F N l).tmps.getD s undef]) (by simp [results, hfn]) rfl ?_
  rw [getD_F, getD_F, getD_F, hv, hv', hv'']; exact h
/-- one result in a cell of its own -/
theorem ret_c {t : Tmp} {T : TypeId} {p : Addr} {v : Value} (hfn : fn.results = #[.cell t T]) (hp : ev N l (.tmp t) = Ptr p) (hr : (loadVar T p).run P w = .ok v w) (h : R (.returned v) w) :
    bodyPost P fn R .ret (F N l) w := by
  refine bodyPost_ret (v := v) ?_ rfl h
  have h0 : (F N l).tmps.getD t undef = Value.pointer (some p) := (getD_F t).trans hp
  have h1 : (F N l).tmps[t]?.getD undef = Value.pointer (some p) := by simpa using h0
  simp [results, hfn, h1, asAddr, hr]
end ret
end Go.Eng

/- The engine, second part: one step for each form, joins, and regions whose order is drawn. -/
namespace Go.Eng
open Go
set_option linter.unusedVariables false

section steps
variable {P : Program} {ops : Array Oper} {Q : Exit → Act → World → Prop} {rest : List Oper} {N : Nat} {l : Nat → Value} {w : World}
  {d : Tmp} {op : Op} {ty : TypeId} {pos : String} {after : Array Edge} {α : Type} {enc : α → Value}
theorem st_rn {s : Sem Value} {K : α → World → Prop} (he : ∀ {v w'}, s.run P w = .ok v w' → Ex P op ty N l w v w') (h : Rn P enc s w K)
    (hk : ∀ x w', K x w' → WL P ops Q rest (F N (upd l d (enc x))) w') : WL P ops Q (⟨some d, op, ty, pos, after, none⟩ :: rest) (F N l) w := by
  obtain ⟨x, w', hr, hK⟩ := h; exact st_val (he hr) (hk x w' hK)
theorem st_rn0 {s : Sem Value} {K : α → World → Prop} (he : ∀ {v w'}, s.run P w = .ok v w' → Ex P op ty N l w v w') (h : Rn P enc s w K)
    (hk : ∀ x w', K x w' → WL P ops Q rest (F N l) w') : WL P ops Q (⟨none, op, ty, pos, after, none⟩ :: rest) (F N l) w := by
  obtain ⟨x, w', hr, hK⟩ := h; exact st_val0 (he hr) (hk x w' hK)
theorem st_rnu {s : Sem Unit} {K : World → Prop} (he : ∀ {w'}, s.run P w = .ok () w' → ExU P op ty N l w w') (h : RnU P s w K)
    (hk : ∀ w', K w' → WL P ops Q rest (F N l) w') : WL P ops Q (⟨none, op, ty, pos, after, none⟩ :: rest) (F N l) w := by
  obtain ⟨w', hr, hK⟩ := h; exact st_unit (he hr) (hk w' hK)
theorem st_rnp {s : Sem Value} {K : α → Prop} (he : ∀ {v w'}, s.run P w = .ok v w' → Ex P op ty N l w v w') (h : RnP P enc s K)
    (hk : ∀ x, K x → WL P ops Q rest (F N (upd l d (enc x))) w) : WL P ops Q (⟨some d, op, ty, pos, after, none⟩ :: rest) (F N l) w := by
  obtain ⟨x, hr, hK⟩ := h; exact st_val (he (hr w)) (hk x hK)
theorem st_cal {f : FuncId} {args : Array Operand} {ts : Array TypeId} {vs : List Value} {K : α → World → Prop}
    (hf : ∀ (vs : Array Value) (w : World), (callFunc f vs).run P w = .ok (.enter f vs) w) (ha : args.toList.map (ev N l) = vs) (h : Cal P enc f vs.toArray w K)
    (hk : ∀ x w', K x w' → WL P ops Q rest (F N (upd l d (enc x))) w') :
    WL P ops Q (⟨some d, .call { callee := .value (.func f), args := args, argTypes := ts }, ty, pos, after, none⟩ :: rest) (F N l) w :=
  st_call (exC_func ha hf) (h.mono fun e w' ⟨x, he, hK⟩ => ⟨_, he, hk x w' hK⟩)
theorem st_cal0 {f : FuncId} {args : Array Operand} {ts : Array TypeId} {vs : List Value} {K : α → World → Prop}
    (hf : ∀ (vs : Array Value) (w : World), (callFunc f vs).run P w = .ok (.enter f vs) w) (ha : args.toList.map (ev N l) = vs) (h : Cal P enc f vs.toArray w K)
    (hk : ∀ x w', K x w' → WL P ops Q rest (F N l) w') :
    WL P ops Q (⟨none, .call { callee := .value (.func f), args := args, argTypes := ts }, ty, pos, after, none⟩ :: rest) (F N l) w :=
  st_call0 (exC_func ha hf) (h.mono fun e w' ⟨x, he, hK⟩ => ⟨_, he, hk x w' hK⟩)
theorem st_calv {x : Operand} {fv : Value} {args : Array Operand} {ts : Array TypeId} {vs : List Value} {K : α → World → Prop}
    (hx : ev N l x = fv) (ha : args.toList.map (ev N l) = vs) (h : CalV P enc fv vs.toArray w K)
    (hk : ∀ x w', K x w' → WL P ops Q rest (F N (upd l d (enc x))) w') :
    WL P ops Q (⟨some d, .call { callee := .value x, args := args, argTypes := ts }, ty, pos, after, none⟩ :: rest) (F N l) w := by
  obtain ⟨f, first, cap, rfl, hf, h⟩ := h
  exact st_call (exC_value hx ha hf) (h.mono fun e w' ⟨x, he, hK⟩ => ⟨_, he, hk x w' hK⟩)
theorem st_calv0 {x : Operand} {fv : Value} {args : Array Operand} {ts : Array TypeId} {vs : List Value} {K : α → World → Prop}
    (hx : ev N l x = fv) (ha : args.toList.map (ev N l) = vs) (h : CalV P enc fv vs.toArray w K)
    (hk : ∀ x w', K x w' → WL P ops Q rest (F N l) w') :
    WL P ops Q (⟨none, .call { callee := .value x, args := args, argTypes := ts }, ty, pos, after, none⟩ :: rest) (F N l) w := by
  obtain ⟨f, first, cap, rfl, hf, h⟩ := h
  exact st_call0 (exC_value hx ha hf) (h.mono fun e w' ⟨x, he, hK⟩ => ⟨_, he, hk x w' hK⟩)
end steps

section joins
variable {P : Program} {Q : Exit → Act → World → Prop} {N : Nat} {l : Nat → Value} {w : World} {c1 c2 : Code} {σ : Type}
theorem seq_ (h : c1.wp P (Exit.then (c2.wp P Q) Q) (F N l) w) : (Code.seq c1 c2).wp P Q (F N l) w := wp_seq h
theorem seq_join (fr : σ → (Nat → Value) → Prop) (M : σ → World → Prop) (h2 : ∀ s l w, fr s l → M s w → c2.wp P Q (F N l) w)
    (h1 : c1.wp P (Exit.then (fun a w => ∃ s l, a = F N l ∧ fr s l ∧ M s w) Q) (F N l) w) : (Code.seq c1 c2).wp P Q (F N l) w := by
  refine wp_seq (Code.wp_mono ?_ h1)
  intro e a w h
  cases e <;> first | exact h | skip
  obtain ⟨s, l, rfl, hf, hM⟩ := h
  exact h2 s l w hf hM
theorem wp_jn (fr : σ → (Nat → Value) → Prop) {body : (σ → World → Prop) → Prop} {rest : σ → World → Prop} (h : Jn body rest) (h2 : ∀ s l w, fr s l → rest s w → c2.wp P Q (F N l) w)
    (h1 : ∀ M, body M → c1.wp P (Exit.then (fun a w => ∃ s l, a = F N l ∧ fr s l ∧ M s w) Q) (F N l) w) : (Code.seq c1 c2).wp P Q (F N l) w := by
  obtain ⟨M, hb, hr⟩ := h
  exact seq_join fr M (fun s l w hf hM => h2 s l w hf (hr s w hM)) (h1 M hb)
theorem wp_lp {c : Code} {a : Act} (fr : σ → Act → Prop) {body : σ → World → (σ → World → Prop) → Prop} {s : σ} (h : Lp body s w) (hf : fr s a)
    (round : ∀ s a w K, fr s a → body s w K → c.wp P (Exit.then (fun a' w' => ∃ s', fr s' a' ∧ K s' w') Q) a w) : (Code.loop c).wp P Q a w := by
  obtain ⟨I, m, h0, hI⟩ := h
  exact wp_loop_x fr I m s hf h0 fun s a w hf hs => round s a w _ hf (hI s w hs)
theorem calls_ {f : FuncId} {fn : Func} {c : Code} {args : Array Value} {R : Ending → World → Prop} {n : Nat} (hf : P.funcs[f]? = some fn) (hn : fn.ntmps = n) (hb : fn.body = some c)
    (hl : Nat.ble args.toList.length n = true) (h : c.wp P (bodyPost P fn R) (F n (ofArgs args.toList 0)) w) : Calls P f args w R := by
  refine calls_of_wp hf hb ?_
  have key : ∀ (vs : List Value) (k i : Nat), ofArgs vs k (k + i) = (vs[i]?).getD undef := by
    intro vs
    induction vs with
    | nil => intro k i; rfl
    | cons a vs ih =>
      intro k i
      show upd (ofArgs vs (k + 1)) k a (k + i) = _
      cases i with
      | zero => simp [upd]
      | succ i =>
        have h1 : Nat.beq (k + (i + 1)) k = false := by
          cases hc : Nat.beq (k + (i + 1)) k
          · rfl
          · have := Nat.eq_of_beq_eq_true hc; omega
        have h2 := ih (k + 1) i
        have e : k + 1 + i = k + (i + 1) := by omega
        rw [e] at h2
        simp only [upd, h1, cond_false, h2]
        rfl
  have hl' : args.size ≤ n := by simpa using hl
  have e : (⟨args ++ Array.replicate (fn.ntmps - args.size) undef, []⟩ : Act) = F n (ofArgs args.toList 0) := by
    rw [hn]
    show _ = (⟨⟨_⟩, _⟩ : Act)
    congr 1
    apply Array.toList_inj.1
    apply List.ext_getElem
    · simp; omega
    · intro i h1 h2
      have h3 := key args.toList 0 i
      rw [Nat.zero_add] at h3
      simp only [Array.toList_append, Array.toList_replicate, List.getElem_map, List.getElem_range, h3]
      by_cases hi : i < args.size
      · rw [List.getElem_append_left (by simpa using hi)]
        simp [hi]
      · rw [List.getElem_append_right (by simpa using hi)]
        simp [hi]
  rw [e]; exact h
end joins

/-! regions whose order is drawn -/
section drawn
variable {P : Program} {ops : Array Oper} {Q : Exit → Act → World → Prop} {C : List Nat} {G : World → Prop}
/-- Number c comes behind number i, by as many edges at most. -/
def anc (ops : Array Oper) (i : Nat) : Nat → Nat → Bool
  | 0, _ => false
  | f + 1, c => ((ops[c]?).map fun o => o.after.any fun e => Region.binds .any e && (e.on == i || anc ops i f e.on)).getD false
/-- Each operation of C comes behind number i. -/
def closes (ops : Array Oper) (C : List Nat) (i : Nat) : Bool := C.all fun c => anc ops i 4 c
/-- What has come up waits for nothing. -/
def Closed (ops : Array Oper) (listed : Array Bool) : Prop :=
  ∀ j oj, ops[j]? = some oj → listed.getD j false = true → ∀ e ∈ oj.after, Region.binds .any e = true → listed.getD e.on false = true
def closedB (ops : Array Oper) (listed : Array Bool) : Bool :=
  (List.range ops.size).all fun j => ((ops[j]?).map fun o => !(listed.getD j false) || o.after.all fun e => !(Region.binds .any e) || listed.getD e.on false).getD true
theorem closedB_spec {listed : Array Bool} (h : closedB ops listed = true) : Closed ops listed := by
  intro j oj hj hl e he hb
  have hjs : j < ops.size := (Array.getElem?_eq_some_iff.1 hj).1
  have h1 := List.all_eq_true.1 h j (List.mem_range.2 hjs)
  simp only [hj, Option.map_some, Option.getD_some, hl, Bool.not_true, Bool.false_or, Array.all_eq_true'] at h1
  have h2 := h1 e he
  simpa [hb] using h2
theorem getD_mono {listed : Array Bool} {j k : Nat} (h : listed.getD k false = true) : (listed.setIfInBounds j true).getD k false = true := by
  by_cases e : j = k
  · subst e
    rcases Nat.lt_or_ge j listed.size with h' | h'
    · simp [h']
    · simp [Array.getElem?_eq_none h'] at h
  · rw [getD_set_ne false e]; exact h
theorem Closed.set {listed : Array Bool} (h : Closed ops listed) {j : Nat} {oj : Oper} (hoj : ops[j]? = some oj) (hall : ∀ e ∈ oj.after, Region.binds .any e = true → listed.getD e.on false = true) : Closed ops (listed.setIfInBounds j true) := by
  intro k ok hk hl e he hb
  by_cases c : j = k
  · subst c
    rw [hk] at hoj; cases hoj
    exact getD_mono (hall e he hb)
  · rw [getD_set_ne false c] at hl
    exact getD_mono (h k ok hk hl e he hb)
theorem anc_listed {listed : Array Bool} (hcl : Closed ops listed) {i : Nat} : ∀ (f c : Nat) (oc : Oper), ops[c]? = some oc → (∀ e ∈ oc.after, Region.binds .any e = true → listed.getD e.on false = true) → anc ops i f c = true → listed.getD i false = true
  | 0, _, _, _, _, h => by cases h
  | f + 1, c, oc, hc, hall, h => by
    unfold anc at h
    simp only [hc, Option.map_some, Option.getD_some, Array.any_eq_true', Bool.and_eq_true, Bool.or_eq_true, beq_iff_eq] at h
    obtain ⟨e, he, hb, h⟩ := h
    have hl := hall e he hb
    rcases h with h | h
    · rw [← h]; exact hl
    · cases ho : ops[e.on]? with
      | none => cases f <;> simp [anc, ho] at h
      | some oe => exact anc_listed hcl f e.on oe ho (fun e' he' hb' => hcl e.on oe ho hl e' he' hb') h
/-- None of C has come up. -/
def noC (C : List Nat) (listed : Array Bool) : Bool := C.all fun c => !(listed.getD c false)
theorem noC_spec {listed : Array Bool} : noC C listed = true ↔ ∀ c ∈ C, listed.getD c false = false := by
  simp only [noC, List.all_eq_true, Bool.not_eq_true']
theorem noC_set {listed : Array Bool} {j : Nat} (hj : j ∉ C) (h : noC C listed = true) : noC C (listed.setIfInBounds j true) = true := by
  rw [noC_spec] at *
  intro c hc
  have hne : j ≠ c := fun e => hj (e ▸ hc)
  rw [getD_set_ne false hne]; exact h c hc
theorem noC_unset {listed : Array Bool} {j : Nat} (h : noC C (listed.setIfInBounds j true) = true) : noC C listed = true := by
  rw [noC_spec] at *
  intro c hc
  have h1 := h c hc
  by_cases hne : j = c
  · subst hne
    rcases Nat.lt_or_ge j listed.size with h' | h'
    · simp [h'] at h1
    · simp [Array.getElem?_eq_none h']
  · rw [getD_set_ne false hne] at h1; exact h1
def wpX (P : Program) (ops : Array Oper) (Q : Exit → Act → World → Prop) (C : List Nat) (G : World → Prop) : Nat → Array Bool → Act → World → Prop
  | 0, listed, a, w => Region.ready .any ops listed = [] ∧ Q .normal a w
  | n + 1, listed, a, w => (Region.ready .any ops listed = [] → Q .normal a w) ∧
      ∀ i ∈ Region.ready .any ops listed, wpOp P ops Q i (fun a' w' => (noC C (listed.setIfInBounds i true) = true → G w') ∧ wpX P ops Q C G n (listed.setIfInBounds i true) a' w') a w
theorem wpAny_of_x : ∀ (n : Nat) (listed : Array Bool) (a : Act) (w : World), wpX P ops Q C G n listed a w → wpAny P .any ops Q n listed a w
  | 0, _, _, _, h => h
  | n + 1, _, _, _, h => ⟨h.1, fun i hi => wpOp_mono (fun a' w' h' => wpAny_of_x n _ a' w' h'.2) (h.2 i hi)⟩
theorem not_on {i : Nat} {listed : Array Bool} (hi : i ∈ Region.ready .any ops listed) {oj : Oper} (hall : ∀ e ∈ oj.after, Region.binds .any e = true → listed.getD e.on false = true) :
    ∀ e ∈ oj.after, Region.binds .any e = true → e.on ≠ i := by
  intro e he hb heq
  have h2 := hall e he hb
  have h0 := (mem_ready.1 hi).1
  rw [heq] at h2
  rcases Nat.lt_or_ge i listed.size with h' | h'
  · simp [h'] at h0 h2; rw [h0] at h2; cases h2
  · simp [Array.getElem?_eq_none h'] at h2
theorem closes_not {i j : Nat} (hc : closes ops C i = true) {listed : Array Bool} (hcl : Closed ops listed) (hi : i ∈ Region.ready .any ops listed) (hj : j ∈ Region.ready .any ops listed) : j ∉ C := by
  intro hjC
  have h1 := List.all_eq_true.1 hc j hjC
  obtain ⟨_, oj, hoj, hall⟩ := mem_ready.1 hj
  have h2 := anc_listed hcl 4 j oj hoj hall h1
  have h0 := (mem_ready.1 hi).1
  rcases Nat.lt_or_ge i listed.size with h' | h'
  · simp [h'] at h0 h2; rw [h0] at h2; cases h2
  · simp [Array.getElem?_eq_none h'] at h2
/-- what is said of the other operations: each that has not come up waits for number i or is apart from it -/
def Free (ops : Array Oper) (i : Nat) (oi : Oper) (listed : Array Bool) : Prop :=
  ∀ j oj, ops[j]? = some oj → j ≠ i → listed.getD j true = false → (∀ e ∈ oj.after, Region.binds .any e = true → e.on ≠ i) → oi.apart ops oj = true
theorem Free.set {i : Nat} {oi : Oper} {listed : Array Bool} (h : Free ops i oi listed) {j : Nat} (hjun : listed.getD j true = false) : Free ops i oi (listed.setIfInBounds j true) := by
  intro k ok hk hki hun hno
  refine h k ok hk hki ?_ hno
  by_cases hjk : j = k
  · subst hjk; exact hjun
  · rw [getD_set_ne true hjk] at hun; exact hun
/-- AN OPERATION THAT YIELDS WHILE NONE OF C HAS COME UP, AND FOR WHICH ALL OF C WAIT, MAY BE TAKEN FIRST. -/
theorem wpX_first {i : Nat} {oi : Oper} {v : Value} (hi : ops[i]? = some oi) (hsel : ∀ (j : Nat) (o : Oper) cs b, ops[j]? = some o → o.op ≠ .select cs b)
    (hc : closes ops C i = true) (hQ : ∀ c a w, Q (.panic c) (a.put oi.dst v) w → Q (.panic c) a w) :
    ∀ (n : Nat) (listed : Array Bool) (a : Act) (w : World), Closed ops listed → Free ops i oi listed → i ∈ Region.ready .any ops listed → YieldsIf P ops G oi v a → G w → noC C listed = true →
      wpX P ops Q C G n (listed.setIfInBounds i true) (a.put oi.dst v) w → wpX P ops Q C G (n + 1) listed a w := by
  intro n
  induction n with
  | zero =>
    intro listed a w _ _ hr hy hG hno H
    refine ⟨fun h => (by rw [h] at hr; cases hr), fun j hj => ?_⟩
    by_cases hji : j = i
    · subst hji; exact hy.wpOp hi hG ⟨fun _ => hG, H⟩
    · have h1 := ready_mono hj hji
      rw [H.1] at h1; cases h1
  | succ n ih =>
    intro listed a w hcl hfree hr hy hG hno H
    refine ⟨fun h => (by rw [h] at hr; cases hr), fun j hj => ?_⟩
    by_cases hji : j = i
    · subst hji; exact hy.wpOp hi hG ⟨fun _ => hG, H⟩
    · have hjC : j ∉ C := closes_not hc hcl hr hj
      have hiC : i ∉ C := closes_not hc hcl hr hr
      have h1 := H.2 j (ready_mono hj hji)
      obtain ⟨hjun, oj, hoj, hall⟩ := mem_ready.1 hj
      have h2 := wpOp_putIf hoj (hfree j oj hoj hji hjun (not_on hr hall)) (fun cs b => hsel i oi cs b hi) (fun cs b => hsel j oj cs b hoj) hQ hy h1
      refine wpOp_mono (fun a' w' h3 => ?_) h2
      have hGw : G w' := h3.2.1 (noC_set hjC (noC_set hiC hno))
      refine ⟨fun _ => hGw, ih (listed.setIfInBounds j true) a' w' (hcl.set hoj hall) (hfree.set hjun) (ready_mono hr (Ne.symm hji)) h3.1 hGw (noC_set hjC hno) ?_⟩
      rw [Array.setIfInBounds_comm _ _ hji]
      exact h3.2.2
/-- AN OPERATION THAT YIELDS IN WHATEVER WORLD MAY BE TAKEN FIRST. -/
theorem wpX_firstP {i : Nat} {oi : Oper} {v : Value} (hi : ops[i]? = some oi) (hsel : ∀ (j : Nat) (o : Oper) cs b, ops[j]? = some o → o.op ≠ .select cs b)
    (hiC : i ∉ C) (hQ : ∀ c a w, Q (.panic c) (a.put oi.dst v) w → Q (.panic c) a w) :
    ∀ (n : Nat) (listed : Array Bool) (a : Act) (w : World), Free ops i oi listed → i ∈ Region.ready .any ops listed → YieldsIf P ops (fun _ => True) oi v a → (noC C listed = true → G w) →
      wpX P ops Q C G n (listed.setIfInBounds i true) (a.put oi.dst v) w → wpX P ops Q C G (n + 1) listed a w := by
  intro n
  induction n with
  | zero =>
    intro listed a w _ hr hy hG H
    refine ⟨fun h => (by rw [h] at hr; cases hr), fun j hj => ?_⟩
    by_cases hji : j = i
    · subst hji; exact hy.wpOp hi trivial ⟨fun h => hG (noC_unset h), H⟩
    · have h1 := ready_mono hj hji
      rw [H.1] at h1; cases h1
  | succ n ih =>
    intro listed a w hfree hr hy hG H
    refine ⟨fun h => (by rw [h] at hr; cases hr), fun j hj => ?_⟩
    by_cases hji : j = i
    · subst hji; exact hy.wpOp hi trivial ⟨fun h => hG (noC_unset h), H⟩
    · have h1 := H.2 j (ready_mono hj hji)
      obtain ⟨hjun, oj, hoj, hall⟩ := mem_ready.1 hj
      have h2 := wpOp_putIf hoj (hfree j oj hoj hji hjun (not_on hr hall)) (fun cs b => hsel i oi cs b hi) (fun cs b => hsel j oj cs b hoj) hQ hy h1
      refine wpOp_mono (fun a' w' h3 => ?_) h2
      have hGw : noC C (listed.setIfInBounds j true) = true → G w' := fun h => h3.2.1 (by rw [Array.setIfInBounds_comm _ _ (Ne.symm hji)]; exact noC_set hiC h)
      refine ⟨hGw, ih (listed.setIfInBounds j true) a' w' (hfree.set hjun) (ready_mono hr (Ne.symm hji)) h3.1 hGw ?_⟩
      rw [Array.setIfInBounds_comm _ _ hji]
      exact h3.2.2

variable {N : Nat} {l : Nat → Value} {w : World} {n i : Nat} {listed : Array Bool} {d : Tmp} {op : Op} {ty : TypeId} {pos : String} {after : Array Edge} {v : Value}
structure WX (P : Program) (ops : Array Oper) (Q : Exit → Act → World → Prop) (C : List Nat) (G : World → Prop) (n : Nat) (listed : Array Bool) (a : Act) (w : World) : Prop where
  out : wpX P ops Q C G n listed a w
/-- the form of a drawn region: from the world behind the draw -/
def Dr (w : World) (K : World → World → Prop) : Prop := K w.drew w.drew
theorem dr_begin {id : Nat} {os : List Oper} {K : World → World → Prop} (hm : P.follows .mixedOrders = true) (C : List Nat) {listed : Array Bool} (hl : Array.replicate os.toArray.size false = listed)
    {n : Nat} (hn : os.toArray.size = n) (h : Dr w K) (hk : ∀ w0, K w0 w0 → WX P os.toArray Q C (Ext w0) n listed (F N l) w0) : (Code.region id os.toArray true).wp P Q (F N l) w := by
  subst hl; subst hn
  exact wp_region_any hm (wpAny_of_x _ _ _ _ (hk _ h).out)
theorem dr_end (hr : Region.ready .any ops listed = []) (h : Q .normal (F N l) w) : WX P ops Q C G n listed (F N l) w := by
  refine ⟨?_⟩
  cases n with
  | zero => exact ⟨hr, h⟩
  | succ n => exact ⟨fun _ => h, by rw [hr]; simp⟩
/-- the side conditions of taking number i ahead of all others, as one Bool -/
def mayTakeP (ops : Array Oper) (C : List Nat) (listed : Array Bool) (i : Nat) : Bool :=
  Region.noSelect ops && Region.free .any ops listed i && (Region.ready .any ops listed).contains i && !(C.contains i)
def mayTake (ops : Array Oper) (C : List Nat) (listed : Array Bool) (i : Nat) : Bool :=
  Region.noSelect ops && Region.free .any ops listed i && (Region.ready .any ops listed).contains i && closes ops C i && noC C listed && closedB ops listed
theorem free_of {oi : Oper} (hi : ops[i]? = some oi) (h : Region.free .any ops listed i = true) : Free ops i oi listed := fun j oj hj hne hun hno => Region.free_spec hi h j oj hj hne hun hno
theorem dr_take_ {oi : Oper} (hs : mayTake ops C listed i = true) (hi : ops[i]? = some oi) (hQ : ∀ c a w, Q (.panic c) (a.put oi.dst v) w → Q (.panic c) a w)
    (hy : YieldsIf P ops G oi v (F N l)) (hG : G w) (h : WX P ops Q C G n (listed.setIfInBounds i true) ((F N l).put oi.dst v) w) : WX P ops Q C G (n + 1) listed (F N l) w := by
  simp only [mayTake, Bool.and_eq_true] at hs
  obtain ⟨⟨⟨⟨⟨hs1, hs2⟩, hs3⟩, hs4⟩, hs5⟩, hs6⟩ := hs
  exact ⟨wpX_first hi (Region.noSelect_spec hs1) hs4 hQ n listed (F N l) w (closedB_spec hs6) (free_of hi hs2) (by simpa using hs3) hy hG hs5 h.out⟩
theorem dr_takeP_ {oi : Oper} (hs : mayTakeP ops C listed i = true) (hi : ops[i]? = some oi) (hQ : ∀ c a w, Q (.panic c) (a.put oi.dst v) w → Q (.panic c) a w)
    (hy : YieldsIf P ops (fun _ => True) oi v (F N l)) (hG : noC C listed = true → G w) (h : WX P ops Q C G n (listed.setIfInBounds i true) ((F N l).put oi.dst v) w) : WX P ops Q C G (n + 1) listed (F N l) w := by
  simp only [mayTakeP, Bool.and_eq_true, Bool.not_eq_true'] at hs
  obtain ⟨⟨⟨hs1, hs2⟩, hs3⟩, hs4⟩ := hs
  exact ⟨wpX_firstP hi (Region.noSelect_spec hs1) (by simpa using hs4) hQ n listed (F N l) w (free_of hi hs2) (by simpa using hs3) hy hG h.out⟩
theorem dr_take (hs : mayTake ops C listed i = true) (hi : ops[i]? = some ⟨some d, op, ty, pos, after, none⟩) (hQ : ∀ c a w, Q (.panic c) (a.put (some d) v) w → Q (.panic c) a w)
    (hG : G w) (he : ∀ w', G w' → Ex P op ty N l w' v w') (h : WX P ops Q C G n (listed.setIfInBounds i true) (F N (upd l d v)) w) : WX P ops Q C G (n + 1) listed (F N l) w := by
  refine dr_take_ (v := v) hs hi hQ (.inl ⟨by simp [Region.wanted], fun w' hw => ?_⟩) hG (by rw [F_put]; exact h)
  rw [F_eval, execOp_eq]; exact he w' hw
theorem dr_take_on {g : Nat} {t : Tmp} {b c : Bool} (hs : mayTake ops C listed i = true) (hi : ops[i]? = some ⟨some d, op, ty, pos, after, some (g, b)⟩)
    (hd : (ops[g]?).bind (·.dst) = some t) (hv : ev N l (.tmp t) = (.bool c)) (hc : c = b) (hQ : ∀ c a w, Q (.panic c) (a.put (some d) v) w → Q (.panic c) a w)
    (hG : G w) (he : ∀ w', G w' → Ex P op ty N l w' v w') (h : WX P ops Q C G n (listed.setIfInBounds i true) (F N (upd l d v)) w) : WX P ops Q C G (n + 1) listed (F N l) w := by
  subst hc
  refine dr_take_ (v := v) hs hi hQ (.inl ⟨by simp [Region.wanted, yielded_of (N := N) (l := l) hd hv], fun w' hw => ?_⟩) hG (by rw [F_put]; exact h)
  rw [F_eval, execOp_eq]; exact he w' hw
theorem dr_takeP (hs : mayTakeP ops C listed i = true) (hi : ops[i]? = some ⟨some d, op, ty, pos, after, none⟩) (hQ : ∀ c a w, Q (.panic c) (a.put (some d) v) w → Q (.panic c) a w)
    (hG : noC C listed = true → G w) (he : ∀ w', Ex P op ty N l w' v w') (h : WX P ops Q C G n (listed.setIfInBounds i true) (F N (upd l d v)) w) : WX P ops Q C G (n + 1) listed (F N l) w := by
  refine dr_takeP_ (v := v) hs hi hQ (.inl ⟨by simp [Region.wanted], fun w' hw => ?_⟩) hG (by rw [F_put]; exact h)
  rw [F_eval, execOp_eq]; exact he w'
theorem dr_takeP_on {g : Nat} {t : Tmp} {b c : Bool} (hs : mayTakeP ops C listed i = true) (hi : ops[i]? = some ⟨some d, op, ty, pos, after, some (g, b)⟩)
    (hd : (ops[g]?).bind (·.dst) = some t) (hv : ev N l (.tmp t) = (.bool c)) (hc : c = b) (hQ : ∀ c a w, Q (.panic c) (a.put (some d) v) w → Q (.panic c) a w)
    (hG : noC C listed = true → G w) (he : ∀ w', Ex P op ty N l w' v w') (h : WX P ops Q C G n (listed.setIfInBounds i true) (F N (upd l d v)) w) : WX P ops Q C G (n + 1) listed (F N l) w := by
  subst hc
  refine dr_takeP_ (v := v) hs hi hQ (.inl ⟨by simp [Region.wanted, yielded_of (N := N) (l := l) hd hv], fun w' hw => ?_⟩) hG (by rw [F_put]; exact h)
  rw [F_eval, execOp_eq]; exact he w'
theorem dr_take_off {g : Nat} {t : Tmp} {b c : Bool} (hs : mayTakeP ops C listed i = true) (hi : ops[i]? = some ⟨some d, op, ty, pos, after, some (g, b)⟩)
    (hd : (ops[g]?).bind (·.dst) = some t) (hv : ev N l (.tmp t) = (.bool c)) (hc : c = !b) (hQ : ∀ c a w, Q (.panic c) (a.put (some d) undef) w → Q (.panic c) a w)
    (hG : noC C listed = true → G w) (h : WX P ops Q C G n (listed.setIfInBounds i true) (F N (upd l d undef)) w) : WX P ops Q C G (n + 1) listed (F N l) w := by
  subst hc
  exact dr_takeP_ (v := undef) hs hi hQ (.inr ⟨by simp [Region.wanted, yielded_of (N := N) (l := l) hd hv], rfl⟩) hG (by rw [F_put]; exact h)
theorem dr_take_off0 {g : Nat} {t : Tmp} {b c : Bool} (hs : mayTakeP ops C listed i = true) (hi : ops[i]? = some ⟨none, op, ty, pos, after, some (g, b)⟩)
    (hd : (ops[g]?).bind (·.dst) = some t) (hv : ev N l (.tmp t) = (.bool c)) (hc : c = !b) (hQ : ∀ c a w, Q (.panic c) (a.put none undef) w → Q (.panic c) a w)
    (hG : noC C listed = true → G w) (h : WX P ops Q C G n (listed.setIfInBounds i true) (F N l) w) : WX P ops Q C G (n + 1) listed (F N l) w := by
  subst hc
  exact dr_takeP_ (v := undef) hs hi hQ (.inr ⟨by simp [Region.wanted, yielded_of (N := N) (l := l) hd hv], rfl⟩) hG (by rw [F_put_none]; exact h)
theorem dr_take_offu {g : Nat} {t : Tmp} {b : Bool} (hs : mayTakeP ops C listed i = true) (hi : ops[i]? = some ⟨some d, op, ty, pos, after, some (g, b)⟩)
    (hd : (ops[g]?).bind (·.dst) = some t) (hv : ev N l (.tmp t) = undef) (hQ : ∀ c a w, Q (.panic c) (a.put (some d) undef) w → Q (.panic c) a w)
    (hG : noC C listed = true → G w) (h : WX P ops Q C G n (listed.setIfInBounds i true) (F N (upd l d undef)) w) : WX P ops Q C G (n + 1) listed (F N l) w :=
  dr_takeP_ (v := undef) hs hi hQ (.inr ⟨by simp [Region.wanted, yielded_none (N := N) (l := l) hd hv], rfl⟩) hG (by rw [F_put]; exact h)
theorem dr_take_offu0 {g : Nat} {t : Tmp} {b : Bool} (hs : mayTakeP ops C listed i = true) (hi : ops[i]? = some ⟨none, op, ty, pos, after, some (g, b)⟩)
    (hd : (ops[g]?).bind (·.dst) = some t) (hv : ev N l (.tmp t) = undef) (hQ : ∀ c a w, Q (.panic c) (a.put none undef) w → Q (.panic c) a w)
    (hG : noC C listed = true → G w) (h : WX P ops Q C G n (listed.setIfInBounds i true) (F N l) w) : WX P ops Q C G (n + 1) listed (F N l) w :=
  dr_takeP_ (v := undef) hs hi hQ (.inr ⟨by simp [Region.wanted, yielded_none (N := N) (l := l) hd hv], rfl⟩) hG (by rw [F_put_none]; exact h)
/-- one of two that may come up now (neither is guarded) -/
theorem dr_two {i j : Nat} {oi oj : Oper} (hr : Region.ready .any ops listed = [i, j]) (hi : ops[i]? = some oi) (hj : ops[j]? = some oj) (hgi : oi.guard = none) (hgj : oj.guard = none)
    (h1 : oi.wp P (F N l) w (fun a' w' => (noC C (listed.setIfInBounds i true) = true → G w') ∧ WX P ops Q C G n (listed.setIfInBounds i true) a' w') Q)
    (h2 : oj.wp P (F N l) w (fun a' w' => (noC C (listed.setIfInBounds j true) = true → G w') ∧ WX P ops Q C G n (listed.setIfInBounds j true) a' w') Q) : WX P ops Q C G (n + 1) listed (F N l) w := by
  refine ⟨⟨fun h0 => (by rw [hr] at h0; cases h0), fun k hk => ?_⟩⟩
  rw [hr] at hk
  unfold wpOp
  rcases (by simpa using hk : k = i ∨ k = j) with rfl | rfl
  · simp only [hi]
    rw [if_pos (by simp [Region.wanted, hgi])]
    exact .inl (Oper.wp_mono (fun _ _ h => ⟨h.1, h.2.out⟩) h1)
  · simp only [hj]
    rw [if_pos (by simp [Region.wanted, hgj])]
    exact .inl (Oper.wp_mono (fun _ _ h => ⟨h.1, h.2.out⟩) h2)
/-- the one that may come up now -/
theorem dr_only {oi : Oper} (hr : Region.ready .any ops listed = [i]) (hi : ops[i]? = some oi) (hg : oi.guard = none)
    (h : oi.wp P (F N l) w (fun a' w' => (noC C (listed.setIfInBounds i true) = true → G w') ∧ WX P ops Q C G n (listed.setIfInBounds i true) a' w') Q) : WX P ops Q C G (n + 1) listed (F N l) w := by
  refine ⟨⟨fun h0 => (by rw [hr] at h0; cases h0), fun j hj => ?_⟩⟩
  rw [hr] at hj
  obtain rfl : j = i := by simpa using hj
  unfold wpOp
  simp only [hi]
  rw [if_pos (by simp [Region.wanted, hg])]
  exact .inl (Oper.wp_mono (fun _ _ h => ⟨h.1, h.2.out⟩) h)
theorem dr_only_on {o : Option Tmp} {g : Nat} {t : Tmp} {b c : Bool} (hr : Region.ready .any ops listed = [i]) (hi : ops[i]? = some ⟨o, op, ty, pos, after, some (g, b)⟩)
    (hd : (ops[g]?).bind (·.dst) = some t) (hv : ev N l (.tmp t) = (.bool c)) (hc : c = b)
    (h : (⟨o, op, ty, pos, after, none⟩ : Oper).wp P (F N l) w (fun a' w' => (noC C (listed.setIfInBounds i true) = true → G w') ∧ WX P ops Q C G n (listed.setIfInBounds i true) a' w') Q) : WX P ops Q C G (n + 1) listed (F N l) w := by
  subst hc
  refine ⟨⟨fun h0 => (by rw [hr] at h0; cases h0), fun j hj => ?_⟩⟩
  rw [hr] at hj
  obtain rfl : j = i := by simpa using hj
  unfold wpOp
  simp only [hi]
  rw [if_pos (by simp [Region.wanted, yielded_of (N := N) (l := l) hd hv])]
  refine .inl (Oper.wp_mono (K := fun a' w' => (noC C (listed.setIfInBounds _ true) = true → G w') ∧ WX P ops Q C G n (listed.setIfInBounds _ true) a' w') (fun _ _ h => ⟨h.1, h.2.out⟩) ?_)
  unfold Oper.wp at h ⊢
  rw [execOp_eq] at h ⊢
  exact h
/-- the one that may come up now, and whose guard does not hold -/
theorem dr_only_off {g : Nat} {t : Tmp} {b c : Bool} (hr : Region.ready .any ops listed = [i]) (hi : ops[i]? = some ⟨some d, op, ty, pos, after, some (g, b)⟩)
    (hd : (ops[g]?).bind (·.dst) = some t) (hv : ev N l (.tmp t) = (.bool c)) (hc : c = !b) (hG : noC C listed = true → G w)
    (h : WX P ops Q C G n (listed.setIfInBounds i true) (F N (upd l d undef)) w) : WX P ops Q C G (n + 1) listed (F N l) w := by
  subst hc
  refine ⟨⟨fun h0 => (by rw [hr] at h0; cases h0), fun j hj => ?_⟩⟩
  rw [hr] at hj
  obtain rfl : j = i := by simpa using hj
  unfold wpOp
  simp only [hi]
  rw [if_neg (by simp [Region.wanted, yielded_of (N := N) (l := l) hd hv]), F_put]
  exact ⟨fun hn => hG (noC_unset hn), h.out⟩
theorem dr_only_offu {g : Nat} {t : Tmp} {b : Bool} (hr : Region.ready .any ops listed = [i]) (hi : ops[i]? = some ⟨some d, op, ty, pos, after, some (g, b)⟩)
    (hd : (ops[g]?).bind (·.dst) = some t) (hv : ev N l (.tmp t) = undef) (hG : noC C listed = true → G w)
    (h : WX P ops Q C G n (listed.setIfInBounds i true) (F N (upd l d undef)) w) : WX P ops Q C G (n + 1) listed (F N l) w := by
  refine ⟨⟨fun h0 => (by rw [hr] at h0; cases h0), fun j hj => ?_⟩⟩
  rw [hr] at hj
  obtain rfl : j = i := by simpa using hj
  unfold wpOp
  simp only [hi]
  rw [if_neg (by simp [Region.wanted, yielded_none (N := N) (l := l) hd hv]), F_put]
  exact ⟨fun hn => hG (noC_unset hn), h.out⟩
theorem noG {b : Bool} {X : Prop} (h : b = false) : b = true → X := fun hb => by rw [h] at hb; cases hb
end drawn
section owp
variable {P : Program} {Q : Exit → Act → World → Prop} {N : Nat} {l : Nat → Value} {w w' : World} {d : Tmp} {op : Op} {ty : TypeId} {pos : String} {after : Array Edge} {v : Value}
  {next : Act → World → Prop} {α : Type} {enc : α → Value}
/-- one operation that comes up alone: its step, whatever follows -/
theorem o_val (h : Ex P op ty N l w v w') (hk : next (F N (upd l d v)) w') : (⟨some d, op, ty, pos, after, none⟩ : Oper).wp P (F N l) w next Q := by
  unfold Oper.wp; rw [F_eval, execOp_eq, h, Oper.upon_value, F_put]; exact hk
theorem o_val0 (h : Ex P op ty N l w v w') (hk : next (F N l) w') : (⟨none, op, ty, pos, after, none⟩ : Oper).wp P (F N l) w next Q := by
  unfold Oper.wp; rw [F_eval, execOp_eq, h, Oper.upon_value, F_put_none]; exact hk
theorem o_unit (h : ExU P op ty N l w w') (hk : next (F N l) w') : (⟨none, op, ty, pos, after, none⟩ : Oper).wp P (F N l) w next Q := by
  unfold Oper.wp; rw [F_eval, execOp_eq, h, Oper.upon_skip, F_put_none]; exact hk
theorem o_rn {s : Sem Value} {K : α → World → Prop} (he : ∀ {v w'}, s.run P w = .ok v w' → Ex P op ty N l w v w') (h : Rn P enc s w K)
    (hk : ∀ x w', K x w' → next (F N (upd l d (enc x))) w') : (⟨some d, op, ty, pos, after, none⟩ : Oper).wp P (F N l) w next Q := by
  obtain ⟨x, w', hr, hK⟩ := h; exact o_val (he hr) (hk x w' hK)
theorem o_rn0 {s : Sem Value} {K : α → World → Prop} (he : ∀ {v w'}, s.run P w = .ok v w' → Ex P op ty N l w v w') (h : Rn P enc s w K)
    (hk : ∀ x w', K x w' → next (F N l) w') : (⟨none, op, ty, pos, after, none⟩ : Oper).wp P (F N l) w next Q := by
  obtain ⟨x, w', hr, hK⟩ := h; exact o_val0 (he hr) (hk x w' hK)
theorem o_rnu {s : Sem Unit} {K : World → Prop} (he : ∀ {w'}, s.run P w = .ok () w' → ExU P op ty N l w w') (h : RnU P s w K)
    (hk : ∀ w', K w' → next (F N l) w') : (⟨none, op, ty, pos, after, none⟩ : Oper).wp P (F N l) w next Q := by
  obtain ⟨w', hr, hK⟩ := h; exact o_unit (he hr) (hk w' hK)
theorem o_rnp {s : Sem Value} {K : α → Prop} (he : ∀ {v w'}, s.run P w = .ok v w' → Ex P op ty N l w v w') (h : RnP P enc s K)
    (hk : ∀ x, K x → next (F N (upd l d (enc x))) w) : (⟨some d, op, ty, pos, after, none⟩ : Oper).wp P (F N l) w next Q := by
  obtain ⟨x, hr, hK⟩ := h; exact o_val (he (hr w)) (hk x hK)
theorem o_call {f : FuncId} {args : Array Value} (hc : ExC P op ty N l w f args)
    (h : Calls P f args w fun e w' => ∃ v, e = .returned v ∧ next (F N (upd l d v)) w') : (⟨some d, op, ty, pos, after, none⟩ : Oper).wp P (F N l) w next Q := by
  unfold Oper.wp; rw [F_eval, execOp_eq, hc, Oper.upon_enter]
  refine h.mono ?_
  rintro e w' ⟨v, rfl, hv⟩
  show next ((F N l).put (some d) v) w'
  rw [F_put]; exact hv
theorem o_call0 {f : FuncId} {args : Array Value} (hc : ExC P op ty N l w f args)
    (h : Calls P f args w fun e w' => ∃ v, e = .returned v ∧ next (F N l) w') : (⟨none, op, ty, pos, after, none⟩ : Oper).wp P (F N l) w next Q := by
  unfold Oper.wp; rw [F_eval, execOp_eq, hc, Oper.upon_enter]
  refine h.mono ?_
  rintro e w' ⟨v, rfl, hv⟩
  exact hv
theorem o_cal {f : FuncId} {args : Array Operand} {ts : Array TypeId} {vs : List Value} {K : α → World → Prop}
    (hf : ∀ (vs : Array Value) (w : World), (callFunc f vs).run P w = .ok (.enter f vs) w) (ha : args.toList.map (ev N l) = vs) (h : Cal P enc f vs.toArray w K)
    (hk : ∀ x w', K x w' → next (F N (upd l d (enc x))) w') :
    (⟨some d, .call { callee := .value (.func f), args := args, argTypes := ts }, ty, pos, after, none⟩ : Oper).wp P (F N l) w next Q :=
  o_call (exC_func ha hf) (h.mono fun e w' ⟨x, he, hK⟩ => ⟨_, he, hk x w' hK⟩)
theorem o_cal0 {f : FuncId} {args : Array Operand} {ts : Array TypeId} {vs : List Value} {K : α → World → Prop}
    (hf : ∀ (vs : Array Value) (w : World), (callFunc f vs).run P w = .ok (.enter f vs) w) (ha : args.toList.map (ev N l) = vs) (h : Cal P enc f vs.toArray w K)
    (hk : ∀ x w', K x w' → next (F N l) w') :
    (⟨none, .call { callee := .value (.func f), args := args, argTypes := ts }, ty, pos, after, none⟩ : Oper).wp P (F N l) w next Q :=
  o_call0 (exC_func ha hf) (h.mono fun e w' ⟨x, he, hK⟩ => ⟨_, he, hk x w' hK⟩)
theorem o_calv {x : Operand} {fv : Value} {args : Array Operand} {ts : Array TypeId} {vs : List Value} {K : α → World → Prop}
    (hx : ev N l x = fv) (ha : args.toList.map (ev N l) = vs) (h : CalV P enc fv vs.toArray w K)
    (hk : ∀ x w', K x w' → next (F N (upd l d (enc x))) w') :
    (⟨some d, .call { callee := .value x, args := args, argTypes := ts }, ty, pos, after, none⟩ : Oper).wp P (F N l) w next Q := by
  obtain ⟨f, first, cap, rfl, hf, h⟩ := h
  exact o_call (exC_value hx ha hf) (h.mono fun e w' ⟨x, he, hK⟩ => ⟨_, he, hk x w' hK⟩)
end owp
/-! worlds -/
theorem Ext.refl (w : World) : Ext w w := RowKit.Below.refl _ _
theorem Ext.trans {a b c : World} (h : Ext a b) (k : Ext b c) : Ext a c := RowKit.Below.trans h (k.mono h.size)
theorem Ext.drew (w : World) : Ext w w.drew := (RowKit.Below.refl _ _).drew
theorem Ext.alloc (w : World) (o : Obj) : Ext w (w.alloc o) := (RowKit.Below.refl _ _).alloc (Nat.le_refl _) o
/-- a step that leaves all that stood as it was, said with what follows -/
def ExtK {α : Type} (w : World) (K : α → World → Prop) (x : α) (w' : World) : Prop := Ext w w' ∧ K x w'
end Go.Eng

/- The engine, third part: more operations: strings, floats, structs built, new blocks, conversions. -/
namespace Go.Eng
open Go
set_option linter.unusedVariables false

section exs
variable {P : Program} {N : Nat} {l : Nat → Value} {w w' : World} {ty : TypeId} {x y z : Operand} {v : Value} {t : TypeId}
/-- strings -/
def sLt (x y : ByteArray) : Bool := Op.bytesLess x.data.toList y.data.toList
theorem toList_beq (a b : ByteArray) : (a.toList == b.toList) = decide (a = b) := by
  rw [ByteArray.toList_eq, ByteArray.toList_eq, Bool.eq_iff_iff]
  simp only [beq_iff_eq, decide_eq_true_eq]
  exact ⟨fun h => ByteArray.ext (Array.toList_inj.1 h), fun h => by rw [h]⟩
section strs
variable {a b : ByteArray} {t' : TypeId} (hx : ev N l x = .string a) (hy : ev N l y = .string b)
include hx hy
theorem ex_eqlS : Ex P (.binOp .eql t x y t') ty N l w (.bool (decide (a = b))) w := ex_binOp hx hy guard_string (by
  simp only [binOp, Op.stringOp, toList_beq, Sem.run_pure])
theorem ex_neqS : Ex P (.binOp .neq t x y t') ty N l w (.bool (decide (a ≠ b))) w := ex_binOp hx hy guard_string (by
  have : (!(decide (a = b))) = decide (a ≠ b) := by simp
  simp only [binOp, Op.stringOp, toList_beq, Sem.run_pure, this])
theorem ex_lssS : Ex P (.binOp .lss t x y t') ty N l w (.bool (sLt a b)) w := ex_binOp hx hy guard_string (by
  simp only [binOp, Op.stringOp, ByteArray.toList_eq, Sem.run_pure, sLt])
theorem ex_geqS : Ex P (.binOp .geq t x y t') ty N l w (.bool (!(sLt a b))) w := ex_binOp hx hy guard_string (by
  simp only [binOp, Op.stringOp, ByteArray.toList_eq, Sem.run_pure, sLt])
theorem ex_leqS : Ex P (.binOp .leq t x y t') ty N l w (.bool (sLt a b || decide (a = b))) w := ex_binOp hx hy guard_string (by
  simp only [binOp, Op.stringOp, toList_beq, Sem.run_pure, sLt]; simp only [ByteArray.toList_eq])
theorem ex_gtrS : Ex P (.binOp .gtr t x y t') ty N l w (.bool (!(sLt a b || decide (a = b)))) w := ex_binOp hx hy guard_string (by
  simp only [binOp, Op.stringOp, toList_beq, Sem.run_pure, sLt]; simp only [ByteArray.toList_eq])
theorem ex_addS (h : ((a.size + b.size : Nat) : Int) ≤ IntKind.i64.max) : Ex P (.binOp .add t x y t') ty N l w (.string (a ++ b)) w := ex_binOp hx hy guard_string (by
  simp only [binOp, Op.stringOp]
  rw [if_neg (by omega)]; rfl)
end strs
/-- floats -/
def fEq (x y : Nat) : Bool := FloatKind.f64.format.order x y == some .eq
def fNe (x y : Nat) : Bool := FloatKind.f64.format.order x y != some .eq
def fLt (x y : Nat) : Bool := FloatKind.f64.format.order x y == some .lt
def fGt (x y : Nat) : Bool := FloatKind.f64.format.order x y == some .gt
def fLe (x y : Nat) : Bool := FloatKind.f64.format.order x y == some .lt || FloatKind.f64.format.order x y == some .eq
def fGe (x y : Nat) : Bool := FloatKind.f64.format.order x y == some .gt || FloatKind.f64.format.order x y == some .eq
section floats
variable {a b : Nat} {t' : TypeId} (hx : ev N l x = .float .f64 a) (hy : ev N l y = .float .f64 b)
include hx hy
theorem ex_eqlF : Ex P (.binOp .eql t x y t') ty N l w (.bool (fEq a b)) w := ex_binOp hx hy guard_float (by simp [binOp, Op.floatCmp, fEq])
theorem ex_neqF : Ex P (.binOp .neq t x y t') ty N l w (.bool (fNe a b)) w := ex_binOp hx hy guard_float (by simp [binOp, Op.floatCmp, fNe])
theorem ex_lssF : Ex P (.binOp .lss t x y t') ty N l w (.bool (fLt a b)) w := ex_binOp hx hy guard_float (by simp [binOp, Op.floatCmp, fLt])
theorem ex_gtrF : Ex P (.binOp .gtr t x y t') ty N l w (.bool (fGt a b)) w := ex_binOp hx hy guard_float (by simp [binOp, Op.floatCmp, fGt])
theorem ex_leqF : Ex P (.binOp .leq t x y t') ty N l w (.bool (fLe a b)) w := ex_binOp hx hy guard_float (by simp [binOp, Op.floatCmp, fLe])
theorem ex_geqF : Ex P (.binOp .geq t x y t') ty N l w (.bool (fGe a b)) w := ex_binOp hx hy guard_float (by simp [binOp, Op.floatCmp, fGe])
theorem ex_addF (h : (Op.floatArith .add .f64 a b).run P w = .ok v w') : Ex P (.binOp .add t x y t') ty N l w v w' := ex_binOp hx hy guard_float (by simpa [binOp] using h)
theorem ex_subF (h : (Op.floatArith .sub .f64 a b).run P w = .ok v w') : Ex P (.binOp .sub t x y t') ty N l w v w' := ex_binOp hx hy guard_float (by simpa [binOp] using h)
theorem ex_mulF (h : (Op.floatArith .mul .f64 a b).run P w = .ok v w') : Ex P (.binOp .mul t x y t') ty N l w v w' := ex_binOp hx hy guard_float (by simpa [binOp] using h)
theorem ex_quoF (h : (Op.floatArith .quo .f64 a b).run P w = .ok v w') : Ex P (.binOp .quo t x y t') ty N l w v w' := ex_binOp hx hy guard_float (by simpa [binOp] using h)
end floats
/-- integers: the operations that may panic, or that are seldom -/
theorem ex_binI {o : BinOp} {k k' : IntKind} {a b : Int} {t' : TypeId} (hx : ev N l x = .int k a) (hy : ev N l y = .int k' b)
    (h : (binOp o t (.int k a) (.int k' b)).run P w = .ok v w') : Ex P (.binOp o t x y t') ty N l w v w' := ex_binOp hx hy guard_int h
theorem ex_convI {s : TypeId} {k k' : IntKind} {n : Int} (hs : P.underlying s = some (.int k')) (hd : P.underlying t = some (.int k)) (hx : ev N l x = .int k' n) :
    Ex P (.convert s t x) ty N l w (.int k (k.wrap n)) w := ex_convert hx (by
  simp [convert, run_underlying hs, run_underlying hd, Conv.intToInt])
theorem ex_eqlSlNil {s : Sl} {t' e : TypeId} {n c : Nat} (hu : P.underlying t = some (.slice e)) (hx : ev N l x = s.v) (hy : ev N l y = .slice none n c) :
    Ex P (.binOp .eql t x y t') ty N l w (.bool s.a.isNone) w := by
  obtain ⟨a, m, k⟩ := s
  refine ex_binOp hx hy guard_slice ?_
  have h : ∀ d, (Op.equalIn (d + 1) t (.slice a m k) (.slice none n c)).run P w = .ok a.isNone w := by
    intro d; unfold Op.equalIn
    cases a <;> simp [run_underlying hu]
  show (do pure (Value.bool (← Op.equal t (.slice a m k) (.slice none n c))) : Sem Value).run P w = _
  have h' := h 9999
  simp only [Sem.run_bind, Op.equal, Op.maxDepth, h', Result.andThen_ok, Sem.run_pure]
/-- a struct's or an array's equality -/
theorem ex_eqlA {a b : Array Value} {t' : TypeId} (hg : (P.eqGuardType P.depth t) = false) (hx : ev N l x = .agg a) (hy : ev N l y = .agg b)
    (h : (do pure (Value.bool (← Op.equal t (.agg a) (.agg b))) : Sem Value).run P w = .ok v w') : Ex P (.binOp .eql t x y t') ty N l w v w' := by
  refine ex_binOp hx hy ?_ h
  have hp : ∀ w, (program.run P w : Result Program) = .ok P w := fun _ => rfl
  simp [eqGuard, hp, hg]
theorem ex_neqA {a b : Array Value} {t' : TypeId} (hg : (P.eqGuardType P.depth t) = false) (hx : ev N l x = .agg a) (hy : ev N l y = .agg b)
    (h : (do pure (Value.bool (!(← Op.equal t (.agg a) (.agg b)))) : Sem Value).run P w = .ok v w') : Ex P (.binOp .neq t x y t') ty N l w v w' := by
  refine ex_binOp hx hy ?_ h
  have hp : ∀ w, (program.run P w : Result Program) = .ok P w := fun _ => rfl
  simp [eqGuard, hp, hg]
theorem ex_nilCheckP {p : Option Addr} {a : Addr} (hx : ev N l x = .pointer p) (hp : p = some a) : Ex P (.nilCheck x) ty N l w (Ptr a) w := by
  subst hp; exact ex_nilCheck hx
theorem ex_nilCheckV {fv : Value} {f : FuncId} {a b : Array Value} (hx : ev N l x = fv) (hf : fv = .func (.func f) a b) : Ex P (.nilCheck x) ty N l w fv w := by
  subst hf; exact ex_nilCheckF hx
/-- addresses of fields -/
theorem ex_fa {f off : Nat} {p : Addr} (h : ∀ (p : Addr) (w : World), (Instr.fieldAt t (Ptr p) f).run P w = .ok (Ptr (p.add off)) w) (hx : ev N l x = Ptr p) :
    Ex P (.fieldAddr t x f) ty N l w (Ptr (p.add off)) w := ex_fieldAddr hx (h p w)
theorem e_fa {fs : Array Field} {fld : Field} {f : Nat} {i : TypeInfo} (hu : P.underlying t = some (.struct fs)) (hf : fs[f]? = some fld) (hi : P.info? fld.type = some i) (hs : (i.size == 0) = false) {off : Nat} (ho : fld.offset = off)
    (p : Addr) (w : World) : (Instr.fieldAt t (Ptr p) f).run P w = .ok (Ptr (p.add off)) w := by
  subst ho
  have hp : ∀ w, (program.run P w : Result Program) = .ok P w := fun _ => rfl
  have hs' : ¬ i.size = 0 := by simpa using hs
  simp [Instr.fieldAt, run_underlying hu, hf, Instr.sureAddr, Ptr, fieldPlace, sizeOf, typeInfo, hp, hi, hs']
end exs
section news
variable {P : Program} {ops : Array Oper} {Q : Exit → Act → World → Prop} {rest : List Oper} {N : Nat} {l : Nat → Value} {w : World} {d : Tmp} {ty : TypeId} {pos : String} {after : Array Edge} {x : Operand} {t : TypeId}
/-- a new block of cells, and what follows (its number is a letter) -/
def New (e : TypeId) (cs : List Value) (w : World) (K : Nat → World → Prop) : Prop := ∀ b w', b = w.heap.size → w' = w.alloc (.cells cs.toArray e) → K b w'
def NewM (w : World) (K : Nat → World → Prop) : Prop := ∀ b w', b = w.heap.size → w' = w.alloc (.map #[] 0) → K b w'
def NotFn (fv : Value) (K : Prop) : Prop := ∃ f a b, fv = .func (.func f) a b ∧ K
theorem e_box {v : Value} (w : World) : (Instr.box t v).run P w = .ok (Ptr ⟨w.heap.size, 0, none⟩) (w.alloc (.cells v.cells t)) := rfl
theorem e_alloc {z : Value} (hz : (P.info? t).map (·.zero) = some (some z)) (w : World) :
    (Instr.alloc t true (.tuple #[])).run P w = .ok (Ptr ⟨w.heap.size, 0, none⟩) (w.alloc (.cells z.cells t)) := by
  have hp : ∀ w, (program.run P w : Result Program) = .ok P w := fun _ => rfl
  cases hi : P.info? t with
  | none => rw [hi] at hz; cases hz
  | some i =>
    rw [hi] at hz
    have hz' : i.zero = some z := by simpa using hz
    simp [Instr.alloc, zeroValue, typeInfo, hp, hi, hz', newVar, newRow, newObj, Ptr]
    rfl
theorem ex_boxN {v : Value} {cs : List Value} (hx : ev N l x = v) (hc : v.cells = cs.toArray) : Ex P (.box t x) ty N l w (Ptr ⟨w.heap.size, 0, none⟩) (w.alloc (.cells cs.toArray t)) :=
  ex_box hx (by rw [e_box, hc])
theorem ex_allocN {z : Value} {cs : List Value} (hz : (P.info? t).map (·.zero) = some (some z)) (hc : z.cells = cs.toArray) : Ex P (.alloc t) ty N l w (Ptr ⟨w.heap.size, 0, none⟩) (w.alloc (.cells cs.toArray t)) :=
  ex_alloc (by rw [e_alloc hz, hc])
theorem e_buildSlice {e : TypeId} {i : TypeInfo} {z : Value} {n : Nat} {parts : Array (Nat × Value)} {cs : List Value} (hu : P.underlying t = some (.slice e)) (hi : P.info? e = some i) (hz : i.zero = some z)
    (hn : ¬ (n * i.size > 2 ^ 24)) (hn0 : ¬ (n * i.size = 0))
    (hf : Instr.fill (fun k => some (k * i.size, i.size)) ((Array.range (n * i.size)).map (z.cells[· % z.cells.size]!)) parts.toList = some cs.toArray) (w : World) :
    (Instr.buildSlice t n parts).run P w = .ok (.slice (some ⟨w.heap.size, 0, none⟩) n n) (w.alloc (.cells cs.toArray e)) := by
  have hp : ∀ w, (program.run P w : Result Program) = .ok P w := fun _ => rfl
  simp only [Instr.buildSlice, Sem.run_bind, run_underlying hu, Result.andThen_ok, sizeOf, typeInfo, hp, hi, Sem.run_pure, if_neg hn, if_neg hn0, zeroValue, hz, hf]
  rfl
theorem e_buildSlice0 {e : TypeId} {i : TypeInfo} (hu : P.underlying t = some (.slice e)) (hi : P.info? e = some i) (w : World) :
    (Instr.buildSlice t 0 #[]).run P w = .ok (.slice (some ⟨w.heap.size, 0, none⟩) 0 0) (w.alloc (.cells ([] : List Value).toArray e)) := by
  have hp : ∀ w, (program.run P w : Result Program) = .ok P w := fun _ => rfl
  have h0 : ∀ f : Nat → Value, (Array.range 0).map f = #[] := fun f => by
    apply Array.eq_empty_of_size_eq_zero; simp
  simp [Instr.buildSlice, run_underlying hu, sizeOf, typeInfo, hp, hi, Instr.fill, newRow, newObj, h0]
  rfl
def fieldsOf (P : Program) (t : TypeId) : Array Field := match P.underlying t with | some (.struct fs) => fs | _ => #[]
theorem e_build {fs : Array Field} {pl : Array (Nat × Nat)} {z : Value} {zs : Array Value} {parts : Array (Nat × Value)} {cells : Array Value} (hu : P.underlying t = some (.struct fs))
    (hz : (P.info? t).map (·.zero) = some (some z)) (hzs : z.cells = zs)
    (hpl : ∀ w, ((fieldsOf P t).mapM fun f => do pure (f.offset, ← sizeOf f.type) : Sem (Array (Nat × Nat))).run P w = .ok pl w)
    (hf : Instr.fill (pl[·]?) zs parts.toList = some cells) (w : World) : (Instr.build t parts).run P w = .ok (.agg cells) w := by
  have hp : ∀ w, (program.run P w : Result Program) = .ok P w := fun _ => rfl
  subst hzs
  cases hi : P.info? t with
  | none => rw [hi] at hz; cases hz
  | some i =>
    rw [hi] at hz
    have hz' : i.zero = some z := by simpa using hz
    have h1 : (zeroValue t).run P w = .ok z w := by simp [zeroValue, typeInfo, hp, hi, hz']
    have hfs : fieldsOf P t = fs := by simp [fieldsOf, hu]
    rw [hfs] at hpl
    unfold Instr.build
    simp only [Sem.run_bind, h1, Result.andThen_ok, run_underlying hu, hpl, hf, Sem.run_pure]
theorem e_makeMap (w : World) : (Instr.makeMap t none).run P w = .ok (.map (some w.heap.size)) (w.alloc (.map #[] 0)) := rfl
theorem st_new {op : Op} {e : TypeId} {cs : List Value} {K : Nat → World → Prop} {f : Nat → Value} (he : Ex P op ty N l w (f w.heap.size) (w.alloc (.cells cs.toArray e))) (h : New e cs w K)
    (hk : ∀ b w', K b w' → WL P ops Q rest (F N (upd l d (f b))) w') : WL P ops Q (⟨some d, op, ty, pos, after, none⟩ :: rest) (F N l) w :=
  st_val he (hk _ _ (h _ _ rfl rfl))
/-- results that lie in cells -/
def RnR {α : Type} (P : Program) (enc : α → Value) (s : Sem Value) (w : World) (K : α → Prop) : Prop := ∃ x, s.run P w = .ok (enc x) w ∧ K x
theorem st_newm {op : Op} {K : Nat → World → Prop} (he : Ex P op ty N l w (.map (some w.heap.size)) (w.alloc (.map #[] 0))) (h : NewM w K)
    (hk : ∀ b w', K b w' → WL P ops Q rest (F N (upd l d (.map (some b)))) w') : WL P ops Q (⟨some d, op, ty, pos, after, none⟩ :: rest) (F N l) w :=
  st_val he (hk _ _ (h _ _ rfl rfl))
theorem o_new {next : Act → World → Prop} {op : Op} {e : TypeId} {cs : List Value} {K : Nat → World → Prop} {f : Nat → Value} (he : Ex P op ty N l w (f w.heap.size) (w.alloc (.cells cs.toArray e))) (h : New e cs w K)
    (hk : ∀ b w', Ext w w' → K b w' → next (F N (upd l d (f b))) w') : (⟨some d, op, ty, pos, after, none⟩ : Oper).wp P (F N l) w next Q :=
  o_val he (hk _ _ (Ext.alloc _ _) (h _ _ rfl rfl))
theorem o_newm {next : Act → World → Prop} {op : Op} {K : Nat → World → Prop} (he : Ex P op ty N l w (.map (some w.heap.size)) (w.alloc (.map #[] 0))) (h : NewM w K)
    (hk : ∀ b w', Ext w w' → K b w' → next (F N (upd l d (.map (some b)))) w') : (⟨some d, op, ty, pos, after, none⟩ : Oper).wp P (F N l) w next Q :=
  o_val he (hk _ _ (Ext.alloc _ _) (h _ _ rfl rfl))
/-- a call of a function without a body -/
def Rx {α : Type} (P : Program) (enc : α → Value) (f : FuncId) (vs : Array Value) (w : World) (K : α → World → Prop) : Prop := ∃ x w', (callFunc f vs).run P w = .ok (.value (enc x)) w' ∧ K x w'
theorem st_rx {α : Type} {enc : α → Value} {f : FuncId} {args : Array Operand} {ts : Array TypeId} {vs : List Value} {K : α → World → Prop} (ha : args.toList.map (ev N l) = vs) (h : Rx P enc f vs.toArray w K)
    (hk : ∀ x w', K x w' → WL P ops Q rest (F N (upd l d (enc x))) w') :
    WL P ops Q (⟨some d, .call { callee := .value (.func f), args := args, argTypes := ts }, ty, pos, after, none⟩ :: rest) (F N l) w := by
  obtain ⟨x, w', hr, hK⟩ := h; exact st_val (ex_callX ha hr) (hk x w' hK)
theorem o_rx {α : Type} {next : Act → World → Prop} {enc : α → Value} {f : FuncId} {args : Array Operand} {ts : Array TypeId} {vs : List Value} {K : α → World → Prop} (ha : args.toList.map (ev N l) = vs) (h : Rx P enc f vs.toArray w K)
    (hk : ∀ x w', K x w' → next (F N (upd l d (enc x))) w') :
    (⟨some d, .call { callee := .value (.func f), args := args, argTypes := ts }, ty, pos, after, none⟩ : Oper).wp P (F N l) w next Q := by
  obtain ⟨x, w', hr, hK⟩ := h; exact o_val (ex_callX ha hr) (hk x w' hK)
end news
section rets
variable {P : Program} {fn : Func} {R : Ending → World → Prop} {N : Nat} {l : Nat → Value} {w : World} {t u : Tmp} {T U : TypeId} {p p' : Addr} {v v' : Value}
theorem getq (hp : ev N l (.tmp t) = v) : (F N l).tmps[t]?.getD undef = v := by
  have h0 : (F N l).tmps.getD t undef = v := (getD_F t).trans hp
  simpa using h0
theorem ret_cc (hfn : fn.results = #[.cell t T, .cell u U]) (hp : ev N l (.tmp t) = Ptr p) (hr : (loadVar T p).run P w = .ok v w) (hp' : ev N l (.tmp u) = Ptr p') (hr' : (loadVar U p').run P w = .ok v' w)
    (h : R (.returned (.tuple #[v, v'])) w) : bodyPost P fn R .ret (F N l) w := by
  refine bodyPost_ret (v := .tuple #[v, v']) ?_ rfl h
  have h1 := getq hp; have h2 := getq hp'
  unfold Ptr at h1 h2
  simp [results, hfn, h1, h2, asAddr, hr, hr']
theorem ret_ct (hfn : fn.results = #[.cell t T, .tmp u]) (hp : ev N l (.tmp t) = Ptr p) (hr : (loadVar T p).run P w = .ok v w) (hp' : ev N l (.tmp u) = v')
    (h : R (.returned (.tuple #[v, v'])) w) : bodyPost P fn R .ret (F N l) w := by
  refine bodyPost_ret (v := .tuple #[v, v']) ?_ rfl h
  have h1 := getq hp; have h2 := getq hp'
  unfold Ptr at h1
  simp [results, hfn, h1, h2, asAddr, hr]
theorem ret_tc (hfn : fn.results = #[.tmp t, .cell u U]) (hp : ev N l (.tmp t) = v) (hp' : ev N l (.tmp u) = Ptr p') (hr' : (loadVar U p').run P w = .ok v' w)
    (h : R (.returned (.tuple #[v, v'])) w) : bodyPost P fn R .ret (F N l) w := by
  refine bodyPost_ret (v := .tuple #[v, v']) ?_ rfl h
  have h1 := getq hp; have h2 := getq hp'
  unfold Ptr at h2
  simp [results, hfn, h1, h2, asAddr, hr']
end rets
/-! closed facts on types -/
def aggD : TypeDesc → Bool
  | .struct _ | .array _ _ => true
  | _ => false
/-- a type of one cell; a struct of n cells -/
def One (P : Program) (t : TypeId) : Prop := ∃ d, P.underlying t = some d ∧ aggD d = false
def Many (P : Program) (t : TypeId) (n : Nat) : Prop := (∃ d, P.underlying t = some d ∧ aggD d = true) ∧ (P.info? t).map (·.size) = some n
/-- the slice type t has elements of type e, of sz cells -/
def SlT (P : Program) (t e sz : Nat) : Prop := P.underlying t = some (.slice e) ∧ (P.info? e).map (·.size) = some sz
/-- the facts on an element type that append asks -/
structure ElT (P : Program) (t T sz bytes : Nat) (z : Value) : Prop where
  und : P.underlying t = some (.slice T)
  inf : (P.info? T).map (fun i => (i.zero, i.size, i.bytes)) = some (some z, sz, bytes)
  zc : z.cells.size = sz
  pos : 0 < sz
/-! ### What may change -/
/-- Of the blocks that stood only those in S may have turned. -/
structure Chg (S : Nat → Prop) (w w' : World) : Prop where
  os : w'.os = w.os
  tape : w'.tape = w.tape
  output : w'.output = w.output
  size : w.heap.size ≤ w'.heap.size
  block : ∀ k, k < w.heap.size → ¬ S k → w'.heap[k]? = w.heap[k]?
section
variable {S T : Nat → Prop} {a b c w w' w0 : World}
theorem Chg.refl (S : Nat → Prop) (w : World) : Chg S w w := ⟨rfl, rfl, rfl, Nat.le_refl _, fun _ _ _ => rfl⟩
theorem Chg.trans (h : Chg S a b) (k : Chg S b c) : Chg S a c :=
  ⟨k.os.trans h.os, k.tape.trans h.tape, k.output.trans h.output, Nat.le_trans h.size k.size, fun i hi hs => (k.block i (Nat.lt_of_lt_of_le hi h.size) hs).trans (h.block i hi hs)⟩
theorem Chg.mono (h : Chg S a b) (hs : ∀ k, k < a.heap.size → S k → T k) : Chg T a b := ⟨h.os, h.tape, h.output, h.size, fun k hk hT => h.block k hk fun hS => hT (hs k hk hS)⟩
theorem Ext.chg (h : Ext a b) (S : Nat → Prop) : Chg S a b := ⟨h.os, h.tape, h.output, h.size, fun k hk _ => h.block k hk⟩
theorem Chg.ext (h : Chg S a b) (hs : ∀ k, k < a.heap.size → ¬ S k) : Ext a b := ⟨h.os, h.tape, h.output, h.size, fun k hk => h.block k hk (hs k hk)⟩
/-- what turns lies above where we began -/
theorem Ext.then (h : Ext w0 w) (k : Chg S w w') (hs : ∀ b, S b → w0.heap.size ≤ b) : Ext w0 w' :=
  ⟨k.os.trans h.os, k.tape.trans h.tape, k.output.trans h.output, Nat.le_trans h.size k.size, fun i hi =>
    (k.block i (Nat.lt_of_lt_of_le hi h.size) fun hS => by have := hs i hS; omega).trans (h.block i hi)⟩
theorem Chg.then (h : Chg S w0 w) (k : Chg T w w') (hs : ∀ b, b < w0.heap.size → T b → S b) : Chg S w0 w' :=
  ⟨k.os.trans h.os, k.tape.trans h.tape, k.output.trans h.output, Nat.le_trans h.size k.size, fun i hi hn =>
    (k.block i (Nat.lt_of_lt_of_le hi h.size) fun hT => hn (hs i hi hT)).trans (h.block i hi hn)⟩
theorem Chg.thenE (h : Chg S w0 w) (k : Ext w w') : Chg S w0 w' := h.then (k.chg (fun _ => False)) (fun _ _ h => h.elim)
theorem Chg.cell (h : Chg S w w') {p : Addr} {v : Value} (hc : w.cell? p = some v) (hs : ¬ S p.block) : w'.cell? p = some v :=
  (World.cell?_of_block (w := w) (h.block p.block (World.block_lt_of_cell? w p hc) hs)).trans hc
theorem Ext.cell' (h : Ext w w') {p : Addr} {v : Value} (hc : w.cell? p = some v) : w'.cell? p = some v :=
  (World.cell?_of_block (w := w) (h.block p.block (World.block_lt_of_cell? w p hc))).trans hc
end

/-! ### Regions whose order is drawn, where blocks that stood are written -/
/-- what reads so whatever is done to the blocks S -/
def RnC {α : Type} (P : Program) (S : Nat → Prop) (enc : α → Value) (s : Sem Value) (w0 : World) (K : α → Prop) : Prop := ∃ x, (∀ w, Chg S w0 w → s.run P w = .ok (enc x) w) ∧ K x
def ChgK {α : Type} (S : Nat → Prop) (w : World) (K : α → World → Prop) (x : α) (w' : World) : Prop := Chg S w w' ∧ K x w'
section
variable {P : Program} {Q : Exit → Act → World → Prop} {N : Nat} {l : Nat → Value} {w : World}
theorem dr_beginC {id : Nat} {os : List Oper} {K : World → World → Prop} (S : Nat → Prop) (hm : P.follows .mixedOrders = true) (C : List Nat) {listed : Array Bool} (hl : Array.replicate os.toArray.size false = listed)
    {n : Nat} (hn : os.toArray.size = n) (h : Dr w K) (hk : ∀ w0, K w0 w0 → WX P os.toArray Q C (Chg S w0) n listed (F N l) w0) : (Code.region id os.toArray true).wp P Q (F N l) w := by
  subst hl; subst hn
  exact wp_region_any hm (wpAny_of_x _ _ _ _ (hk _ h).out)
end
end Go.Eng

/- Made by program: the structs of the program as Lean structures, and closed facts on its types and functions. -/
namespace Go.Proofs.Ytdoeegfcmbcbkaa.Tr
open Go Go.Eng
set_option linter.unusedVariables false
set_option maxRecDepth 100000
set_option maxHeartbeats 4000000
structure TShare where
  Service : ByteArray
  Upto : Nat

def TShare.cells (x : TShare) : List Value := [(.string x.Service), (.float .f64 x.Upto)]
def TShare.v (x : TShare) : Value := .agg (Array.mk x.cells)

structure TResource where
  Kind : Int
  Name : ByteArray
  Endpoints : Sl
  Targets : Sl
  Host : ByteArray
  Rules : Sl
  Route : ByteArray
  Delete : Bool

def TResource.cells (x : TResource) : List Value := [(.int .i64 x.Kind), (.string x.Name), (Sl.v x.Endpoints), (Sl.v x.Targets), (.string x.Host), (Sl.v x.Rules), (.string x.Route), (.bool x.Delete)]
def TResource.v (x : TResource) : Value := .agg (Array.mk x.cells)

structure TTables where
  Version : Int
  Hosts : Sl
  Services : Sl

def TTables.cells (x : TTables) : List Value := [(.int .i64 x.Version), (Sl.v x.Hosts), (Sl.v x.Services)]
def TTables.v (x : TTables) : Value := .agg (Array.mk x.cells)

structure THost where
  Host : ByteArray
  Route : ByteArray
  Entries : Sl
  Permits : Sl

def THost.cells (x : THost) : List Value := [(.string x.Host), (.string x.Route), (Sl.v x.Entries), (Sl.v x.Permits)]
def THost.v (x : THost) : Value := .agg (Array.mk x.cells)

structure TEntry where
  Path : ByteArray
  Method : ByteArray
  Shares : Sl

def TEntry.cells (x : TEntry) : List Value := [(.string x.Path), (.string x.Method), (Sl.v x.Shares)]
def TEntry.v (x : TEntry) : Value := .agg (Array.mk x.cells)

structure TFault where
  Doc : Int
  Line : Int
  Err : Int

def TFault.cells (x : TFault) : List Value := [(.int .i64 x.Doc), (.int .i64 x.Line), (.int .i64 x.Err)]
def TFault.v (x : TFault) : Value := .agg (Array.mk x.cells)

structure TTarget where
  Service : ByteArray
  Split : ByteArray
  Weight : Nat

def TTarget.cells (x : TTarget) : List Value := [(.string x.Service), (.string x.Split), (.float .f64 x.Weight)]
def TTarget.v (x : TTarget) : Value := .agg (Array.mk x.cells)

structure TPermit where
  Path : ByteArray
  Method : ByteArray
  Allow : Bool

def TPermit.cells (x : TPermit) : List Value := [(.string x.Path), (.string x.Method), (.bool x.Allow)]
def TPermit.v (x : TPermit) : Value := .agg (Array.mk x.cells)

structure TRule where
  Path : ByteArray
  Method : ByteArray
  Split : ByteArray
  Allow : Bool

def TRule.cells (x : TRule) : List Value := [(.string x.Path), (.string x.Method), (.string x.Split), (.bool x.Allow)]
def TRule.v (x : TRule) : Value := .agg (Array.mk x.cells)

structure TFault14 where
  Doc : Int
  Line : Int
  Err : Int

def TFault14.cells (x : TFault14) : List Value := [(.int .i64 x.Doc), (.int .i64 x.Line), (.int .i64 x.Err)]
def TFault14.v (x : TFault14) : Value := .agg (Array.mk x.cells)

structure TKnown15 where
  Names : Sl
  Shares : Sl

def TKnown15.cells (x : TKnown15) : List Value := [(Sl.v x.Names), (Sl.v x.Shares)]
def TKnown15.v (x : TKnown15) : Value := .agg (Array.mk x.cells)

structure TKey where
  kind : Int
  name : ByteArray

def TKey.cells (x : TKey) : List Value := [(.int .i64 x.kind), (.string x.name)]
def TKey.v (x : TKey) : Value := .agg (Array.mk x.cells)

structure TDepths where
  splits : (Option Nat)
  known : (Option Nat)

def TDepths.cells (x : TDepths) : List Value := [(.map x.splits), (.map x.known)]
def TDepths.v (x : TDepths) : Value := .agg (Array.mk x.cells)

structure TWarning14 where
  Doc : Int
  Rule : Int
  By : Int

def TWarning14.cells (x : TWarning14) : List Value := [(.int .i64 x.Doc), (.int .i64 x.Rule), (.int .i64 x.By)]
def TWarning14.v (x : TWarning14) : Value := .agg (Array.mk x.cells)

structure TWarning where
  Doc : Int
  Rule : Int
  By : Int

def TWarning.cells (x : TWarning) : List Value := [(.int .i64 x.Doc), (.int .i64 x.Rule), (.int .i64 x.By)]
def TWarning.v (x : TWarning) : Value := .agg (Array.mk x.cells)

theorem mixed : Try.prog.follows .mixedOrders = true := by kernel_rfl
theorem en16 (vs : Array Value) (w : World) : (callFunc 16 vs).run Try.prog w = .ok (.enter 16 vs) w := enters Try.func16 rfl rfl vs w
theorem en17 (vs : Array Value) (w : World) : (callFunc 17 vs).run Try.prog w = .ok (.enter 17 vs) w := enters Try.func17 rfl rfl vs w
theorem en18 (vs : Array Value) (w : World) : (callFunc 18 vs).run Try.prog w = .ok (.enter 18 vs) w := enters Try.func18 rfl rfl vs w
theorem zero32 : (Try.prog.info? 32).map (·.zero) = some (some (TShare.v (⟨⟨#[]⟩, 0⟩ : TShare))) := by kernel_rfl
theorem size9 : (Try.prog.info? 9).map (·.size) = some 1 := by kernel_rfl
theorem size30 : (Try.prog.info? 30).map (·.size) = some 1 := by kernel_rfl
theorem pl32 (w : World) : ((fieldsOf Try.prog 32).mapM fun f => do pure (f.offset, ← sizeOf f.type) : Sem (Array (Nat × Nat))).run Try.prog w = .ok #[(0, 1), (1, 1)] w := by kernel_rfl
theorem info32 : Try.prog.info? 32 = some (Try.prog.types.getD 32 default) := by kernel_rfl
theorem iz32 : (Try.prog.types.getD 32 default).zero = some (TShare.v (⟨⟨#[]⟩, 0⟩ : TShare)) := by kernel_rfl
theorem en19 (vs : Array Value) (w : World) : (callFunc 19 vs).run Try.prog w = .ok (.enter 19 vs) w := enters Try.func19 rfl rfl vs w
theorem en20 (vs : Array Value) (w : World) : (callFunc 20 vs).run Try.prog w = .ok (.enter 20 vs) w := enters Try.func20 rfl rfl vs w
theorem en21 (vs : Array Value) (w : World) : (callFunc 21 vs).run Try.prog w = .ok (.enter 21 vs) w := enters Try.func21 rfl rfl vs w
theorem en22 (vs : Array Value) (w : World) : (callFunc 22 vs).run Try.prog w = .ok (.enter 22 vs) w := enters Try.func22 rfl rfl vs w
theorem info9 : Try.prog.info? 9 = some (Try.prog.types.getD 9 default) := by kernel_rfl
theorem fa32_0 : ∀ (p : Addr) (w : World), (Instr.fieldAt 32 (Ptr p) 0).run Try.prog w = .ok (Ptr (p.add 0)) w := e_fa Try.underlying32 rfl info9 (by kernel_rfl) rfl
theorem en23 (vs : Array Value) (w : World) : (callFunc 23 vs).run Try.prog w = .ok (.enter 23 vs) w := enters Try.func23 rfl rfl vs w
theorem en24 (vs : Array Value) (w : World) : (callFunc 24 vs).run Try.prog w = .ok (.enter 24 vs) w := enters Try.func24 rfl rfl vs w
theorem en25 (vs : Array Value) (w : World) : (callFunc 25 vs).run Try.prog w = .ok (.enter 25 vs) w := enters Try.func25 rfl rfl vs w
theorem en26 (vs : Array Value) (w : World) : (callFunc 26 vs).run Try.prog w = .ok (.enter 26 vs) w := enters Try.func26 rfl rfl vs w
theorem en27 (vs : Array Value) (w : World) : (callFunc 27 vs).run Try.prog w = .ok (.enter 27 vs) w := enters Try.func27 rfl rfl vs w
theorem en28 (vs : Array Value) (w : World) : (callFunc 28 vs).run Try.prog w = .ok (.enter 28 vs) w := enters Try.func28 rfl rfl vs w
theorem en29 (vs : Array Value) (w : World) : (callFunc 29 vs).run Try.prog w = .ok (.enter 29 vs) w := enters Try.func29 rfl rfl vs w
theorem en30 (vs : Array Value) (w : World) : (callFunc 30 vs).run Try.prog w = .ok (.enter 30 vs) w := enters Try.func30 rfl rfl vs w
theorem en31 (vs : Array Value) (w : World) : (callFunc 31 vs).run Try.prog w = .ok (.enter 31 vs) w := enters Try.func31 rfl rfl vs w
theorem en32 (vs : Array Value) (w : World) : (callFunc 32 vs).run Try.prog w = .ok (.enter 32 vs) w := enters Try.func32 rfl rfl vs w
theorem info30 : Try.prog.info? 30 = some (Try.prog.types.getD 30 default) := by kernel_rfl
theorem fa32_1 : ∀ (p : Addr) (w : World), (Instr.fieldAt 32 (Ptr p) 1).run Try.prog w = .ok (Ptr (p.add 1)) w := e_fa Try.underlying32 rfl info30 (by kernel_rfl) rfl
theorem en33 (vs : Array Value) (w : World) : (callFunc 33 vs).run Try.prog w = .ok (.enter 33 vs) w := enters Try.func33 rfl rfl vs w
theorem en34 (vs : Array Value) (w : World) : (callFunc 34 vs).run Try.prog w = .ok (.enter 34 vs) w := enters Try.func34 rfl rfl vs w
theorem zero53 : (Try.prog.info? 53).map (·.zero) = some (some (TTables.v (⟨0, Sl.nil, Sl.nil⟩ : TTables))) := by kernel_rfl
theorem info51 : Try.prog.info? 51 = some (Try.prog.types.getD 51 default) := by kernel_rfl
theorem fa53_1 : ∀ (p : Addr) (w : World), (Instr.fieldAt 53 (Ptr p) 1).run Try.prog w = .ok (Ptr (p.add 1)) w := e_fa Try.underlying53 rfl info51 (by kernel_rfl) rfl
theorem info44 : Try.prog.info? 44 = some (Try.prog.types.getD 44 default) := by kernel_rfl
theorem fa53_2 : ∀ (p : Addr) (w : World), (Instr.fieldAt 53 (Ptr p) 2).run Try.prog w = .ok (Ptr (p.add 2)) w := e_fa Try.underlying53 rfl info44 (by kernel_rfl) rfl
theorem info3 : Try.prog.info? 3 = some (Try.prog.types.getD 3 default) := by kernel_rfl
theorem fa53_0 : ∀ (p : Addr) (w : World), (Instr.fieldAt 53 (Ptr p) 0).run Try.prog w = .ok (Ptr (p.add 0)) w := e_fa Try.underlying53 rfl info3 (by kernel_rfl) rfl
theorem fa48_0 : ∀ (p : Addr) (w : World), (Instr.fieldAt 48 (Ptr p) 0).run Try.prog w = .ok (Ptr (p.add 0)) w := e_fa Try.underlying48 rfl info3 (by kernel_rfl) rfl
theorem info56 : Try.prog.info? 56 = some (Try.prog.types.getD 56 default) := by kernel_rfl
theorem fa59_2 : ∀ (p : Addr) (w : World), (Instr.fieldAt 59 (Ptr p) 2).run Try.prog w = .ok (Ptr (p.add 2)) w := e_fa Try.underlying59 rfl info56 (by kernel_rfl) rfl
theorem info23 : Try.prog.info? 23 = some (Try.prog.types.getD 23 default) := by kernel_rfl
theorem fa61_2 : ∀ (p : Addr) (w : World), (Instr.fieldAt 61 (Ptr p) 2).run Try.prog w = .ok (Ptr (p.add 2)) w := e_fa Try.underlying61 rfl info23 (by kernel_rfl) rfl
theorem en35 (vs : Array Value) (w : World) : (callFunc 35 vs).run Try.prog w = .ok (.enter 35 vs) w := enters Try.func35 rfl rfl vs w
theorem en36 (vs : Array Value) (w : World) : (callFunc 36 vs).run Try.prog w = .ok (.enter 36 vs) w := enters Try.func36 rfl rfl vs w
theorem en37 (vs : Array Value) (w : World) : (callFunc 37 vs).run Try.prog w = .ok (.enter 37 vs) w := enters Try.func37 rfl rfl vs w
theorem en38 (vs : Array Value) (w : World) : (callFunc 38 vs).run Try.prog w = .ok (.enter 38 vs) w := enters Try.func38 rfl rfl vs w
theorem en39 (vs : Array Value) (w : World) : (callFunc 39 vs).run Try.prog w = .ok (.enter 39 vs) w := enters Try.func39 rfl rfl vs w
theorem fa59_0 : ∀ (p : Addr) (w : World), (Instr.fieldAt 59 (Ptr p) 0).run Try.prog w = .ok (Ptr (p.add 0)) w := e_fa Try.underlying59 rfl info9 (by kernel_rfl) rfl
theorem en40 (vs : Array Value) (w : World) : (callFunc 40 vs).run Try.prog w = .ok (.enter 40 vs) w := enters Try.func40 rfl rfl vs w
theorem iz9 : (Try.prog.types.getD 9 default).zero = some (.string ⟨#[]⟩) := by kernel_rfl
theorem en41 (vs : Array Value) (w : World) : (callFunc 41 vs).run Try.prog w = .ok (.enter 41 vs) w := enters Try.func41 rfl rfl vs w
theorem en42 (vs : Array Value) (w : World) : (callFunc 42 vs).run Try.prog w = .ok (.enter 42 vs) w := enters Try.func42 rfl rfl vs w
theorem en43 (vs : Array Value) (w : World) : (callFunc 43 vs).run Try.prog w = .ok (.enter 43 vs) w := enters Try.func43 rfl rfl vs w
theorem en44 (vs : Array Value) (w : World) : (callFunc 44 vs).run Try.prog w = .ok (.enter 44 vs) w := enters Try.func44 rfl rfl vs w
theorem en45 (vs : Array Value) (w : World) : (callFunc 45 vs).run Try.prog w = .ok (.enter 45 vs) w := enters Try.func45 rfl rfl vs w
theorem fa48_1 : ∀ (p : Addr) (w : World), (Instr.fieldAt 48 (Ptr p) 1).run Try.prog w = .ok (Ptr (p.add 1)) w := e_fa Try.underlying48 rfl info9 (by kernel_rfl) rfl
theorem info4 : Try.prog.info? 4 = some (Try.prog.types.getD 4 default) := by kernel_rfl
theorem fa48_7 : ∀ (p : Addr) (w : World), (Instr.fieldAt 48 (Ptr p) 7).run Try.prog w = .ok (Ptr (p.add 7)) w := e_fa Try.underlying48 rfl info4 (by kernel_rfl) rfl
theorem en46 (vs : Array Value) (w : World) : (callFunc 46 vs).run Try.prog w = .ok (.enter 46 vs) w := enters Try.func46 rfl rfl vs w
theorem zero80 : (Try.prog.info? 80).map (·.zero) = some (some (TFault.v (⟨0, 0, 0⟩ : TFault))) := by kernel_rfl
theorem info25 : Try.prog.info? 25 = some (Try.prog.types.getD 25 default) := by kernel_rfl
theorem fa80_2 : ∀ (p : Addr) (w : World), (Instr.fieldAt 80 (Ptr p) 2).run Try.prog w = .ok (Ptr (p.add 2)) w := e_fa Try.underlying80 rfl info25 (by kernel_rfl) rfl
theorem fa80_0 : ∀ (p : Addr) (w : World), (Instr.fieldAt 80 (Ptr p) 0).run Try.prog w = .ok (Ptr (p.add 0)) w := e_fa Try.underlying80 rfl info3 (by kernel_rfl) rfl
theorem fa80_1 : ∀ (p : Addr) (w : World), (Instr.fieldAt 80 (Ptr p) 1).run Try.prog w = .ok (Ptr (p.add 1)) w := e_fa Try.underlying80 rfl info3 (by kernel_rfl) rfl
theorem info45 : Try.prog.info? 45 = some (Try.prog.types.getD 45 default) := by kernel_rfl
theorem fa48_3 : ∀ (p : Addr) (w : World), (Instr.fieldAt 48 (Ptr p) 3).run Try.prog w = .ok (Ptr (p.add 3)) w := e_fa Try.underlying48 rfl info45 (by kernel_rfl) rfl
theorem zero84 : (Try.prog.info? 84).map (·.zero) = some (some (TTarget.v (⟨⟨#[]⟩, ⟨#[]⟩, 0⟩ : TTarget))) := by kernel_rfl
theorem fa84_0 : ∀ (p : Addr) (w : World), (Instr.fieldAt 84 (Ptr p) 0).run Try.prog w = .ok (Ptr (p.add 0)) w := e_fa Try.underlying84 rfl info9 (by kernel_rfl) rfl
theorem fa84_1 : ∀ (p : Addr) (w : World), (Instr.fieldAt 84 (Ptr p) 1).run Try.prog w = .ok (Ptr (p.add 1)) w := e_fa Try.underlying84 rfl info9 (by kernel_rfl) rfl
theorem en47 (vs : Array Value) (w : World) : (callFunc 47 vs).run Try.prog w = .ok (.enter 47 vs) w := enters Try.func47 rfl rfl vs w
theorem en48 (vs : Array Value) (w : World) : (callFunc 48 vs).run Try.prog w = .ok (.enter 48 vs) w := enters Try.func48 rfl rfl vs w
theorem zero48 : (Try.prog.info? 48).map (·.zero) = some (some (TResource.v (⟨0, ⟨#[]⟩, Sl.nil, Sl.nil, ⟨#[]⟩, Sl.nil, ⟨#[]⟩, false⟩ : TResource))) := by kernel_rfl
theorem size3 : (Try.prog.info? 3).map (·.size) = some 1 := by kernel_rfl
theorem size44 : (Try.prog.info? 44).map (·.size) = some 1 := by kernel_rfl
theorem size45 : (Try.prog.info? 45).map (·.size) = some 1 := by kernel_rfl
theorem size46 : (Try.prog.info? 46).map (·.size) = some 1 := by kernel_rfl
theorem size4 : (Try.prog.info? 4).map (·.size) = some 1 := by kernel_rfl
theorem pl48 (w : World) : ((fieldsOf Try.prog 48).mapM fun f => do pure (f.offset, ← sizeOf f.type) : Sem (Array (Nat × Nat))).run Try.prog w = .ok #[(0, 1), (1, 1), (2, 1), (3, 1), (4, 1), (5, 1), (6, 1), (7, 1)] w := by kernel_rfl
theorem info48 : Try.prog.info? 48 = some (Try.prog.types.getD 48 default) := by kernel_rfl
theorem iz48 : (Try.prog.types.getD 48 default).zero = some (TResource.v (⟨0, ⟨#[]⟩, Sl.nil, Sl.nil, ⟨#[]⟩, Sl.nil, ⟨#[]⟩, false⟩ : TResource)) := by kernel_rfl
theorem en49 (vs : Array Value) (w : World) : (callFunc 49 vs).run Try.prog w = .ok (.enter 49 vs) w := enters Try.func49 rfl rfl vs w
theorem fa59_1 : ∀ (p : Addr) (w : World), (Instr.fieldAt 59 (Ptr p) 1).run Try.prog w = .ok (Ptr (p.add 1)) w := e_fa Try.underlying59 rfl info9 (by kernel_rfl) rfl
theorem info91 : Try.prog.info? 91 = some (Try.prog.types.getD 91 default) := by kernel_rfl
theorem info57 : Try.prog.info? 57 = some (Try.prog.types.getD 57 default) := by kernel_rfl
theorem fa59_3 : ∀ (p : Addr) (w : World), (Instr.fieldAt 59 (Ptr p) 3).run Try.prog w = .ok (Ptr (p.add 3)) w := e_fa Try.underlying59 rfl info57 (by kernel_rfl) rfl
theorem en50 (vs : Array Value) (w : World) : (callFunc 50 vs).run Try.prog w = .ok (.enter 50 vs) w := enters Try.func50 rfl rfl vs w
theorem zero89 : (Try.prog.info? 89).map (·.zero) = some (some (TPermit.v (⟨⟨#[]⟩, ⟨#[]⟩, false⟩ : TPermit))) := by kernel_rfl
theorem fa89_0 : ∀ (p : Addr) (w : World), (Instr.fieldAt 89 (Ptr p) 0).run Try.prog w = .ok (Ptr (p.add 0)) w := e_fa Try.underlying89 rfl info9 (by kernel_rfl) rfl
theorem fa91_0 : ∀ (p : Addr) (w : World), (Instr.fieldAt 91 (Ptr p) 0).run Try.prog w = .ok (Ptr (p.add 0)) w := e_fa Try.underlying91 rfl info9 (by kernel_rfl) rfl
theorem fa89_1 : ∀ (p : Addr) (w : World), (Instr.fieldAt 89 (Ptr p) 1).run Try.prog w = .ok (Ptr (p.add 1)) w := e_fa Try.underlying89 rfl info9 (by kernel_rfl) rfl
theorem fa91_1 : ∀ (p : Addr) (w : World), (Instr.fieldAt 91 (Ptr p) 1).run Try.prog w = .ok (Ptr (p.add 1)) w := e_fa Try.underlying91 rfl info9 (by kernel_rfl) rfl
theorem fa89_2 : ∀ (p : Addr) (w : World), (Instr.fieldAt 89 (Ptr p) 2).run Try.prog w = .ok (Ptr (p.add 2)) w := e_fa Try.underlying89 rfl info4 (by kernel_rfl) rfl
theorem fa91_3 : ∀ (p : Addr) (w : World), (Instr.fieldAt 91 (Ptr p) 3).run Try.prog w = .ok (Ptr (p.add 3)) w := e_fa Try.underlying91 rfl info4 (by kernel_rfl) rfl
theorem pl84 (w : World) : ((fieldsOf Try.prog 84).mapM fun f => do pure (f.offset, ← sizeOf f.type) : Sem (Array (Nat × Nat))).run Try.prog w = .ok #[(0, 1), (1, 1), (2, 1)] w := by kernel_rfl
theorem info84 : Try.prog.info? 84 = some (Try.prog.types.getD 84 default) := by kernel_rfl
theorem iz84 : (Try.prog.types.getD 84 default).zero = some (TTarget.v (⟨⟨#[]⟩, ⟨#[]⟩, 0⟩ : TTarget)) := by kernel_rfl
theorem en51 (vs : Array Value) (w : World) : (callFunc 51 vs).run Try.prog w = .ok (.enter 51 vs) w := enters Try.func51 rfl rfl vs w
theorem en52 (vs : Array Value) (w : World) : (callFunc 52 vs).run Try.prog w = .ok (.enter 52 vs) w := enters Try.func52 rfl rfl vs w
theorem fa48_2 : ∀ (p : Addr) (w : World), (Instr.fieldAt 48 (Ptr p) 2).run Try.prog w = .ok (Ptr (p.add 2)) w := e_fa Try.underlying48 rfl info44 (by kernel_rfl) rfl
theorem info46 : Try.prog.info? 46 = some (Try.prog.types.getD 46 default) := by kernel_rfl
theorem fa48_5 : ∀ (p : Addr) (w : World), (Instr.fieldAt 48 (Ptr p) 5).run Try.prog w = .ok (Ptr (p.add 5)) w := e_fa Try.underlying48 rfl info46 (by kernel_rfl) rfl
theorem en54 (vs : Array Value) (w : World) : (callFunc 54 vs).run Try.prog w = .ok (.enter 54 vs) w := enters Try.func54 rfl rfl vs w
theorem en53 (vs : Array Value) (w : World) : (callFunc 53 vs).run Try.prog w = .ok (.enter 53 vs) w := enters Try.func53 rfl rfl vs w
theorem en56 (vs : Array Value) (w : World) : (callFunc 56 vs).run Try.prog w = .ok (.enter 56 vs) w := enters Try.func56 rfl rfl vs w
theorem en57 (vs : Array Value) (w : World) : (callFunc 57 vs).run Try.prog w = .ok (.enter 57 vs) w := enters Try.func57 rfl rfl vs w
theorem en58 (vs : Array Value) (w : World) : (callFunc 58 vs).run Try.prog w = .ok (.enter 58 vs) w := enters Try.func58 rfl rfl vs w
theorem zero101 : (Try.prog.info? 101).map (·.zero) = some (some (TFault14.v (⟨0, 0, 0⟩ : TFault14))) := by kernel_rfl
theorem fa101_2 : ∀ (p : Addr) (w : World), (Instr.fieldAt 101 (Ptr p) 2).run Try.prog w = .ok (Ptr (p.add 2)) w := e_fa Try.underlying101 rfl info3 (by kernel_rfl) rfl
theorem en59 (vs : Array Value) (w : World) : (callFunc 59 vs).run Try.prog w = .ok (.enter 59 vs) w := enters Try.func59 rfl rfl vs w
theorem en60 (vs : Array Value) (w : World) : (callFunc 60 vs).run Try.prog w = .ok (.enter 60 vs) w := enters Try.func60 rfl rfl vs w
theorem info107 : Try.prog.info? 107 = some (Try.prog.types.getD 107 default) := by kernel_rfl
theorem fa109_1 : ∀ (p : Addr) (w : World), (Instr.fieldAt 109 (Ptr p) 1).run Try.prog w = .ok (Ptr (p.add 1)) w := e_fa Try.underlying109 rfl info107 (by kernel_rfl) rfl
theorem en61 (vs : Array Value) (w : World) : (callFunc 61 vs).run Try.prog w = .ok (.enter 61 vs) w := enters Try.func61 rfl rfl vs w
theorem en62 (vs : Array Value) (w : World) : (callFunc 62 vs).run Try.prog w = .ok (.enter 62 vs) w := enters Try.func62 rfl rfl vs w
theorem en63 (vs : Array Value) (w : World) : (callFunc 63 vs).run Try.prog w = .ok (.enter 63 vs) w := enters Try.func63 rfl rfl vs w
theorem zero113 : (Try.prog.info? 113).map (·.zero) = some (some (TKey.v (⟨0, ⟨#[]⟩⟩ : TKey))) := by kernel_rfl
theorem en64 (vs : Array Value) (w : World) : (callFunc 64 vs).run Try.prog w = .ok (.enter 64 vs) w := enters Try.func64 rfl rfl vs w
theorem en65 (vs : Array Value) (w : World) : (callFunc 65 vs).run Try.prog w = .ok (.enter 65 vs) w := enters Try.func65 rfl rfl vs w
theorem en66 (vs : Array Value) (w : World) : (callFunc 66 vs).run Try.prog w = .ok (.enter 66 vs) w := enters Try.func66 rfl rfl vs w
theorem en67 (vs : Array Value) (w : World) : (callFunc 67 vs).run Try.prog w = .ok (.enter 67 vs) w := enters Try.func67 rfl rfl vs w
theorem en68 (vs : Array Value) (w : World) : (callFunc 68 vs).run Try.prog w = .ok (.enter 68 vs) w := enters Try.func68 rfl rfl vs w
theorem zero111 : (Try.prog.info? 111).map (·.zero) = some (some (.map none)) := by kernel_rfl
theorem fa48_4 : ∀ (p : Addr) (w : World), (Instr.fieldAt 48 (Ptr p) 4).run Try.prog w = .ok (Ptr (p.add 4)) w := e_fa Try.underlying48 rfl info9 (by kernel_rfl) rfl
theorem fa48_6 : ∀ (p : Addr) (w : World), (Instr.fieldAt 48 (Ptr p) 6).run Try.prog w = .ok (Ptr (p.add 6)) w := e_fa Try.underlying48 rfl info9 (by kernel_rfl) rfl
theorem en70 (vs : Array Value) (w : World) : (callFunc 70 vs).run Try.prog w = .ok (.enter 70 vs) w := enters Try.func70 rfl rfl vs w
theorem en71 (vs : Array Value) (w : World) : (callFunc 71 vs).run Try.prog w = .ok (.enter 71 vs) w := enters Try.func71 rfl rfl vs w
theorem en72 (vs : Array Value) (w : World) : (callFunc 72 vs).run Try.prog w = .ok (.enter 72 vs) w := enters Try.func72 rfl rfl vs w
theorem en75 (vs : Array Value) (w : World) : (callFunc 75 vs).run Try.prog w = .ok (.enter 75 vs) w := enters Try.func75 rfl rfl vs w
theorem fa84_2 : ∀ (p : Addr) (w : World), (Instr.fieldAt 84 (Ptr p) 2).run Try.prog w = .ok (Ptr (p.add 2)) w := e_fa Try.underlying84 rfl info30 (by kernel_rfl) rfl
theorem eqg91 : (Try.prog.eqGuardType Try.prog.depth 91) = false := by kernel_rfl
theorem zero91 : (Try.prog.info? 91).map (·.zero) = some (some (TRule.v (⟨⟨#[]⟩, ⟨#[]⟩, ⟨#[]⟩, false⟩ : TRule))) := by kernel_rfl
theorem pl91 (w : World) : ((fieldsOf Try.prog 91).mapM fun f => do pure (f.offset, ← sizeOf f.type) : Sem (Array (Nat × Nat))).run Try.prog w = .ok #[(0, 1), (1, 1), (2, 1), (3, 1)] w := by kernel_rfl
theorem iz91 : (Try.prog.types.getD 91 default).zero = some (TRule.v (⟨⟨#[]⟩, ⟨#[]⟩, ⟨#[]⟩, false⟩ : TRule)) := by kernel_rfl
theorem eqg32 : (Try.prog.eqGuardType Try.prog.depth 32) = false := by kernel_rfl
theorem size51 : (Try.prog.info? 51).map (·.size) = some 1 := by kernel_rfl
theorem pl53 (w : World) : ((fieldsOf Try.prog 53).mapM fun f => do pure (f.offset, ← sizeOf f.type) : Sem (Array (Nat × Nat))).run Try.prog w = .ok #[(0, 1), (1, 1), (2, 1)] w := by kernel_rfl
theorem info59 : Try.prog.info? 59 = some (Try.prog.types.getD 59 default) := by kernel_rfl
theorem iz59 : (Try.prog.types.getD 59 default).zero = some (THost.v (⟨⟨#[]⟩, ⟨#[]⟩, Sl.nil, Sl.nil⟩ : THost)) := by kernel_rfl
theorem en76 (vs : Array Value) (w : World) : (callFunc 76 vs).run Try.prog w = .ok (.enter 76 vs) w := enters Try.func76 rfl rfl vs w
theorem en77 (vs : Array Value) (w : World) : (callFunc 77 vs).run Try.prog w = .ok (.enter 77 vs) w := enters Try.func77 rfl rfl vs w
theorem zero59 : (Try.prog.info? 59).map (·.zero) = some (some (THost.v (⟨⟨#[]⟩, ⟨#[]⟩, Sl.nil, Sl.nil⟩ : THost))) := by kernel_rfl
theorem size56 : (Try.prog.info? 56).map (·.size) = some 1 := by kernel_rfl
theorem size57 : (Try.prog.info? 57).map (·.size) = some 1 := by kernel_rfl
theorem pl59 (w : World) : ((fieldsOf Try.prog 59).mapM fun f => do pure (f.offset, ← sizeOf f.type) : Sem (Array (Nat × Nat))).run Try.prog w = .ok #[(0, 1), (1, 1), (2, 1), (3, 1)] w := by kernel_rfl
theorem fa91_2 : ∀ (p : Addr) (w : World), (Instr.fieldAt 91 (Ptr p) 2).run Try.prog w = .ok (Ptr (p.add 2)) w := e_fa Try.underlying91 rfl info9 (by kernel_rfl) rfl
theorem zero61 : (Try.prog.info? 61).map (·.zero) = some (some (TEntry.v (⟨⟨#[]⟩, ⟨#[]⟩, Sl.nil⟩ : TEntry))) := by kernel_rfl
theorem size23 : (Try.prog.info? 23).map (·.size) = some 1 := by kernel_rfl
theorem pl61 (w : World) : ((fieldsOf Try.prog 61).mapM fun f => do pure (f.offset, ← sizeOf f.type) : Sem (Array (Nat × Nat))).run Try.prog w = .ok #[(0, 1), (1, 1), (2, 1)] w := by kernel_rfl
theorem info61 : Try.prog.info? 61 = some (Try.prog.types.getD 61 default) := by kernel_rfl
theorem iz61 : (Try.prog.types.getD 61 default).zero = some (TEntry.v (⟨⟨#[]⟩, ⟨#[]⟩, Sl.nil⟩ : TEntry)) := by kernel_rfl
theorem pl89 (w : World) : ((fieldsOf Try.prog 89).mapM fun f => do pure (f.offset, ← sizeOf f.type) : Sem (Array (Nat × Nat))).run Try.prog w = .ok #[(0, 1), (1, 1), (2, 1)] w := by kernel_rfl
theorem info89 : Try.prog.info? 89 = some (Try.prog.types.getD 89 default) := by kernel_rfl
theorem iz89 : (Try.prog.types.getD 89 default).zero = some (TPermit.v (⟨⟨#[]⟩, ⟨#[]⟩, false⟩ : TPermit)) := by kernel_rfl
theorem en79 (vs : Array Value) (w : World) : (callFunc 79 vs).run Try.prog w = .ok (.enter 79 vs) w := enters Try.func79 rfl rfl vs w
theorem en80 (vs : Array Value) (w : World) : (callFunc 80 vs).run Try.prog w = .ok (.enter 80 vs) w := enters Try.func80 rfl rfl vs w
theorem en81 (vs : Array Value) (w : World) : (callFunc 81 vs).run Try.prog w = .ok (.enter 81 vs) w := enters Try.func81 rfl rfl vs w
theorem en82 (vs : Array Value) (w : World) : (callFunc 82 vs).run Try.prog w = .ok (.enter 82 vs) w := enters Try.func82 rfl rfl vs w
theorem en83 (vs : Array Value) (w : World) : (callFunc 83 vs).run Try.prog w = .ok (.enter 83 vs) w := enters Try.func83 rfl rfl vs w
theorem en84 (vs : Array Value) (w : World) : (callFunc 84 vs).run Try.prog w = .ok (.enter 84 vs) w := enters Try.func84 rfl rfl vs w
theorem en85 (vs : Array Value) (w : World) : (callFunc 85 vs).run Try.prog w = .ok (.enter 85 vs) w := enters Try.func85 rfl rfl vs w
theorem en86 (vs : Array Value) (w : World) : (callFunc 86 vs).run Try.prog w = .ok (.enter 86 vs) w := enters Try.func86 rfl rfl vs w
theorem en87 (vs : Array Value) (w : World) : (callFunc 87 vs).run Try.prog w = .ok (.enter 87 vs) w := enters Try.func87 rfl rfl vs w
theorem en89 (vs : Array Value) (w : World) : (callFunc 89 vs).run Try.prog w = .ok (.enter 89 vs) w := enters Try.func89 rfl rfl vs w
theorem iz3 : (Try.prog.types.getD 3 default).zero = some (.int .i64 0) := by kernel_rfl
theorem en88 (vs : Array Value) (w : World) : (callFunc 88 vs).run Try.prog w = .ok (.enter 88 vs) w := enters Try.func88 rfl rfl vs w
theorem en90 (vs : Array Value) (w : World) : (callFunc 90 vs).run Try.prog w = .ok (.enter 90 vs) w := enters Try.func90 rfl rfl vs w
theorem en92 (vs : Array Value) (w : World) : (callFunc 92 vs).run Try.prog w = .ok (.enter 92 vs) w := enters Try.func92 rfl rfl vs w
theorem fa61_0 : ∀ (p : Addr) (w : World), (Instr.fieldAt 61 (Ptr p) 0).run Try.prog w = .ok (Ptr (p.add 0)) w := e_fa Try.underlying61 rfl info9 (by kernel_rfl) rfl
theorem en93 (vs : Array Value) (w : World) : (callFunc 93 vs).run Try.prog w = .ok (.enter 93 vs) w := enters Try.func93 rfl rfl vs w
theorem size25 : (Try.prog.info? 25).map (·.size) = some 1 := by kernel_rfl
theorem pl80 (w : World) : ((fieldsOf Try.prog 80).mapM fun f => do pure (f.offset, ← sizeOf f.type) : Sem (Array (Nat × Nat))).run Try.prog w = .ok #[(0, 1), (1, 1), (2, 1)] w := by kernel_rfl
theorem zero148 : (Try.prog.info? 148).map (·.zero) = some (some (TDepths.v (⟨none, none⟩ : TDepths))) := by kernel_rfl
theorem size145 : (Try.prog.info? 145).map (·.size) = some 1 := by kernel_rfl
theorem size146 : (Try.prog.info? 146).map (·.size) = some 1 := by kernel_rfl
theorem pl148 (w : World) : ((fieldsOf Try.prog 148).mapM fun f => do pure (f.offset, ← sizeOf f.type) : Sem (Array (Nat × Nat))).run Try.prog w = .ok #[(0, 1), (1, 1)] w := by kernel_rfl
theorem info145 : Try.prog.info? 145 = some (Try.prog.types.getD 145 default) := by kernel_rfl
theorem fa148_0 : ∀ (p : Addr) (w : World), (Instr.fieldAt 148 (Ptr p) 0).run Try.prog w = .ok (Ptr (p.add 0)) w := e_fa Try.underlying148 rfl info145 (by kernel_rfl) rfl
theorem en94 (vs : Array Value) (w : World) : (callFunc 94 vs).run Try.prog w = .ok (.enter 94 vs) w := enters Try.func94 rfl rfl vs w
theorem en95 (vs : Array Value) (w : World) : (callFunc 95 vs).run Try.prog w = .ok (.enter 95 vs) w := enters Try.func95 rfl rfl vs w
theorem en96 (vs : Array Value) (w : World) : (callFunc 96 vs).run Try.prog w = .ok (.enter 96 vs) w := enters Try.func96 rfl rfl vs w
theorem en97 (vs : Array Value) (w : World) : (callFunc 97 vs).run Try.prog w = .ok (.enter 97 vs) w := enters Try.func97 rfl rfl vs w
theorem en98 (vs : Array Value) (w : World) : (callFunc 98 vs).run Try.prog w = .ok (.enter 98 vs) w := enters Try.func98 rfl rfl vs w
theorem zero153 : (Try.prog.info? 153).map (·.zero) = some (some (.map none)) := by kernel_rfl
theorem zero97 : (Try.prog.info? 97).map (·.zero) = some (some (.map none)) := by kernel_rfl
theorem zero154 : (Try.prog.info? 154).map (·.zero) = some (some Value.nilFunc) := by kernel_rfl
theorem pl101 (w : World) : ((fieldsOf Try.prog 101).mapM fun f => do pure (f.offset, ← sizeOf f.type) : Sem (Array (Nat × Nat))).run Try.prog w = .ok #[(0, 1), (1, 1), (2, 1)] w := by kernel_rfl
theorem en101 (vs : Array Value) (w : World) : (callFunc 101 vs).run Try.prog w = .ok (.enter 101 vs) w := enters Try.func101 rfl rfl vs w
theorem en102 (vs : Array Value) (w : World) : (callFunc 102 vs).run Try.prog w = .ok (.enter 102 vs) w := enters Try.func102 rfl rfl vs w
theorem en103 (vs : Array Value) (w : World) : (callFunc 103 vs).run Try.prog w = .ok (.enter 103 vs) w := enters Try.func103 rfl rfl vs w
theorem zero160 : (Try.prog.info? 160).map (·.zero) = some (some (TWarning14.v (⟨0, 0, 0⟩ : TWarning14))) := by kernel_rfl
theorem pl160 (w : World) : ((fieldsOf Try.prog 160).mapM fun f => do pure (f.offset, ← sizeOf f.type) : Sem (Array (Nat × Nat))).run Try.prog w = .ok #[(0, 1), (1, 1), (2, 1)] w := by kernel_rfl
theorem info160 : Try.prog.info? 160 = some (Try.prog.types.getD 160 default) := by kernel_rfl
theorem iz160 : (Try.prog.types.getD 160 default).zero = some (TWarning14.v (⟨0, 0, 0⟩ : TWarning14)) := by kernel_rfl
theorem zero109 : (Try.prog.info? 109).map (·.zero) = some (some (TKnown15.v (⟨Sl.nil, Sl.nil⟩ : TKnown15))) := by kernel_rfl
theorem size107 : (Try.prog.info? 107).map (·.size) = some 1 := by kernel_rfl
theorem pl109 (w : World) : ((fieldsOf Try.prog 109).mapM fun f => do pure (f.offset, ← sizeOf f.type) : Sem (Array (Nat × Nat))).run Try.prog w = .ok #[(0, 1), (1, 1)] w := by kernel_rfl
theorem en104 (vs : Array Value) (w : World) : (callFunc 104 vs).run Try.prog w = .ok (.enter 104 vs) w := enters Try.func104 rfl rfl vs w
theorem fa109_0 : ∀ (p : Addr) (w : World), (Instr.fieldAt 109 (Ptr p) 0).run Try.prog w = .ok (Ptr (p.add 0)) w := e_fa Try.underlying109 rfl info44 (by kernel_rfl) rfl
theorem iz23 : (Try.prog.types.getD 23 default).zero = some (Sl.v Sl.nil) := by kernel_rfl
theorem en106 (vs : Array Value) (w : World) : (callFunc 106 vs).run Try.prog w = .ok (.enter 106 vs) w := enters Try.func106 rfl rfl vs w
theorem en107 (vs : Array Value) (w : World) : (callFunc 107 vs).run Try.prog w = .ok (.enter 107 vs) w := enters Try.func107 rfl rfl vs w
theorem pl113 (w : World) : ((fieldsOf Try.prog 113).mapM fun f => do pure (f.offset, ← sizeOf f.type) : Sem (Array (Nat × Nat))).run Try.prog w = .ok #[(0, 1), (1, 1)] w := by kernel_rfl
theorem en108 (vs : Array Value) (w : World) : (callFunc 108 vs).run Try.prog w = .ok (.enter 108 vs) w := enters Try.func108 rfl rfl vs w
theorem en109 (vs : Array Value) (w : World) : (callFunc 109 vs).run Try.prog w = .ok (.enter 109 vs) w := enters Try.func109 rfl rfl vs w
theorem en74 (vs : Array Value) (w : World) : (callFunc 74 vs).run Try.prog w = .ok (.enter 74 vs) w := enters Try.func74 rfl rfl vs w
theorem en113 (vs : Array Value) (w : World) : (callFunc 113 vs).run Try.prog w = .ok (.enter 113 vs) w := enters Try.func113 rfl rfl vs w
theorem en114 (vs : Array Value) (w : World) : (callFunc 114 vs).run Try.prog w = .ok (.enter 114 vs) w := enters Try.func114 rfl rfl vs w
theorem en115 (vs : Array Value) (w : World) : (callFunc 115 vs).run Try.prog w = .ok (.enter 115 vs) w := enters Try.func115 rfl rfl vs w
theorem fa61_1 : ∀ (p : Addr) (w : World), (Instr.fieldAt 61 (Ptr p) 1).run Try.prog w = .ok (Ptr (p.add 1)) w := e_fa Try.underlying61 rfl info9 (by kernel_rfl) rfl
theorem eqg89 : (Try.prog.eqGuardType Try.prog.depth 89) = false := by kernel_rfl
theorem en116 (vs : Array Value) (w : World) : (callFunc 116 vs).run Try.prog w = .ok (.enter 116 vs) w := enters Try.func116 rfl rfl vs w
theorem en117 (vs : Array Value) (w : World) : (callFunc 117 vs).run Try.prog w = .ok (.enter 117 vs) w := enters Try.func117 rfl rfl vs w
theorem en118 (vs : Array Value) (w : World) : (callFunc 118 vs).run Try.prog w = .ok (.enter 118 vs) w := enters Try.func118 rfl rfl vs w
theorem en119 (vs : Array Value) (w : World) : (callFunc 119 vs).run Try.prog w = .ok (.enter 119 vs) w := enters Try.func119 rfl rfl vs w
theorem en120 (vs : Array Value) (w : World) : (callFunc 120 vs).run Try.prog w = .ok (.enter 120 vs) w := enters Try.func120 rfl rfl vs w
theorem en111 (vs : Array Value) (w : World) : (callFunc 111 vs).run Try.prog w = .ok (.enter 111 vs) w := enters Try.func111 rfl rfl vs w
theorem info146 : Try.prog.info? 146 = some (Try.prog.types.getD 146 default) := by kernel_rfl
theorem fa148_1 : ∀ (p : Addr) (w : World), (Instr.fieldAt 148 (Ptr p) 1).run Try.prog w = .ok (Ptr (p.add 1)) w := e_fa Try.underlying148 rfl info146 (by kernel_rfl) rfl
theorem en121 (vs : Array Value) (w : World) : (callFunc 121 vs).run Try.prog w = .ok (.enter 121 vs) w := enters Try.func121 rfl rfl vs w
theorem zero177 : (Try.prog.info? 177).map (·.zero) = some (some (TWarning.v (⟨0, 0, 0⟩ : TWarning))) := by kernel_rfl
theorem pl177 (w : World) : ((fieldsOf Try.prog 177).mapM fun f => do pure (f.offset, ← sizeOf f.type) : Sem (Array (Nat × Nat))).run Try.prog w = .ok #[(0, 1), (1, 1), (2, 1)] w := by kernel_rfl
theorem info177 : Try.prog.info? 177 = some (Try.prog.types.getD 177 default) := by kernel_rfl
theorem iz177 : (Try.prog.types.getD 177 default).zero = some (TWarning.v (⟨0, 0, 0⟩ : TWarning)) := by kernel_rfl
theorem en100 (vs : Array Value) (w : World) : (callFunc 100 vs).run Try.prog w = .ok (.enter 100 vs) w := enters Try.func100 rfl rfl vs w
theorem en124 (vs : Array Value) (w : World) : (callFunc 124 vs).run Try.prog w = .ok (.enter 124 vs) w := enters Try.func124 rfl rfl vs w
theorem en126 (vs : Array Value) (w : World) : (callFunc 126 vs).run Try.prog w = .ok (.enter 126 vs) w := enters Try.func126 rfl rfl vs w
theorem en127 (vs : Array Value) (w : World) : (callFunc 127 vs).run Try.prog w = .ok (.enter 127 vs) w := enters Try.func127 rfl rfl vs w
theorem en128 (vs : Array Value) (w : World) : (callFunc 128 vs).run Try.prog w = .ok (.enter 128 vs) w := enters Try.func128 rfl rfl vs w
theorem en129 (vs : Array Value) (w : World) : (callFunc 129 vs).run Try.prog w = .ok (.enter 129 vs) w := enters Try.func129 rfl rfl vs w
theorem en131 (vs : Array Value) (w : World) : (callFunc 131 vs).run Try.prog w = .ok (.enter 131 vs) w := enters Try.func131 rfl rfl vs w
theorem en130 (vs : Array Value) (w : World) : (callFunc 130 vs).run Try.prog w = .ok (.enter 130 vs) w := enters Try.func130 rfl rfl vs w
theorem en133 (vs : Array Value) (w : World) : (callFunc 133 vs).run Try.prog w = .ok (.enter 133 vs) w := enters Try.func133 rfl rfl vs w
theorem en132 (vs : Array Value) (w : World) : (callFunc 132 vs).run Try.prog w = .ok (.enter 132 vs) w := enters Try.func132 rfl rfl vs w
theorem fa113_0 : ∀ (p : Addr) (w : World), (Instr.fieldAt 113 (Ptr p) 0).run Try.prog w = .ok (Ptr (p.add 0)) w := e_fa Try.underlying113 rfl info3 (by kernel_rfl) rfl
theorem fa113_1 : ∀ (p : Addr) (w : World), (Instr.fieldAt 113 (Ptr p) 1).run Try.prog w = .ok (Ptr (p.add 1)) w := e_fa Try.underlying113 rfl info9 (by kernel_rfl) rfl
theorem en134 (vs : Array Value) (w : World) : (callFunc 134 vs).run Try.prog w = .ok (.enter 134 vs) w := enters Try.func134 rfl rfl vs w
theorem en135 (vs : Array Value) (w : World) : (callFunc 135 vs).run Try.prog w = .ok (.enter 135 vs) w := enters Try.func135 rfl rfl vs w
theorem en136 (vs : Array Value) (w : World) : (callFunc 136 vs).run Try.prog w = .ok (.enter 136 vs) w := enters Try.func136 rfl rfl vs w
theorem en137 (vs : Array Value) (w : World) : (callFunc 137 vs).run Try.prog w = .ok (.enter 137 vs) w := enters Try.func137 rfl rfl vs w
theorem en138 (vs : Array Value) (w : World) : (callFunc 138 vs).run Try.prog w = .ok (.enter 138 vs) w := enters Try.func138 rfl rfl vs w
theorem en139 (vs : Array Value) (w : World) : (callFunc 139 vs).run Try.prog w = .ok (.enter 139 vs) w := enters Try.func139 rfl rfl vs w
theorem en123 (vs : Array Value) (w : World) : (callFunc 123 vs).run Try.prog w = .ok (.enter 123 vs) w := enters Try.func123 rfl rfl vs w
theorem en140 (vs : Array Value) (w : World) : (callFunc 140 vs).run Try.prog w = .ok (.enter 140 vs) w := enters Try.func140 rfl rfl vs w
theorem en141 (vs : Array Value) (w : World) : (callFunc 141 vs).run Try.prog w = .ok (.enter 141 vs) w := enters Try.func141 rfl rfl vs w
theorem en142 (vs : Array Value) (w : World) : (callFunc 142 vs).run Try.prog w = .ok (.enter 142 vs) w := enters Try.func142 rfl rfl vs w
theorem en143 (vs : Array Value) (w : World) : (callFunc 143 vs).run Try.prog w = .ok (.enter 143 vs) w := enters Try.func143 rfl rfl vs w
theorem en144 (vs : Array Value) (w : World) : (callFunc 144 vs).run Try.prog w = .ok (.enter 144 vs) w := enters Try.func144 rfl rfl vs w
theorem en145 (vs : Array Value) (w : World) : (callFunc 145 vs).run Try.prog w = .ok (.enter 145 vs) w := enters Try.func145 rfl rfl vs w
theorem en146 (vs : Array Value) (w : World) : (callFunc 146 vs).run Try.prog w = .ok (.enter 146 vs) w := enters Try.func146 rfl rfl vs w
theorem en147 (vs : Array Value) (w : World) : (callFunc 147 vs).run Try.prog w = .ok (.enter 147 vs) w := enters Try.func147 rfl rfl vs w
theorem en148 (vs : Array Value) (w : World) : (callFunc 148 vs).run Try.prog w = .ok (.enter 148 vs) w := enters Try.func148 rfl rfl vs w
theorem en149 (vs : Array Value) (w : World) : (callFunc 149 vs).run Try.prog w = .ok (.enter 149 vs) w := enters Try.func149 rfl rfl vs w
theorem en150 (vs : Array Value) (w : World) : (callFunc 150 vs).run Try.prog w = .ok (.enter 150 vs) w := enters Try.func150 rfl rfl vs w
theorem en151 (vs : Array Value) (w : World) : (callFunc 151 vs).run Try.prog w = .ok (.enter 151 vs) w := enters Try.func151 rfl rfl vs w
theorem en153 (vs : Array Value) (w : World) : (callFunc 153 vs).run Try.prog w = .ok (.enter 153 vs) w := enters Try.func153 rfl rfl vs w
theorem en154 (vs : Array Value) (w : World) : (callFunc 154 vs).run Try.prog w = .ok (.enter 154 vs) w := enters Try.func154 rfl rfl vs w
theorem en155 (vs : Array Value) (w : World) : (callFunc 155 vs).run Try.prog w = .ok (.enter 155 vs) w := enters Try.func155 rfl rfl vs w
theorem info5 : Try.prog.info? 5 = some (Try.prog.types.getD 5 default) := by kernel_rfl
theorem iz5 : (Try.prog.types.getD 5 default).zero = some (.int .u8 0) := by kernel_rfl
theorem en156 (vs : Array Value) (w : World) : (callFunc 156 vs).run Try.prog w = .ok (.enter 156 vs) w := enters Try.func156 rfl rfl vs w
theorem en157 (vs : Array Value) (w : World) : (callFunc 157 vs).run Try.prog w = .ok (.enter 157 vs) w := enters Try.func157 rfl rfl vs w
theorem en158 (vs : Array Value) (w : World) : (callFunc 158 vs).run Try.prog w = .ok (.enter 158 vs) w := enters Try.func158 rfl rfl vs w
theorem zero199 : (Try.prog.info? 199).map (·.zero) = some (some (.int .u64 0)) := by kernel_rfl
theorem en159 (vs : Array Value) (w : World) : (callFunc 159 vs).run Try.prog w = .ok (.enter 159 vs) w := enters Try.func159 rfl rfl vs w
theorem en160 (vs : Array Value) (w : World) : (callFunc 160 vs).run Try.prog w = .ok (.enter 160 vs) w := enters Try.func160 rfl rfl vs w
theorem zero3 : (Try.prog.info? 3).map (·.zero) = some (some (.int .i64 0)) := by kernel_rfl
theorem en161 (vs : Array Value) (w : World) : (callFunc 161 vs).run Try.prog w = .ok (.enter 161 vs) w := enters Try.func161 rfl rfl vs w
theorem en162 (vs : Array Value) (w : World) : (callFunc 162 vs).run Try.prog w = .ok (.enter 162 vs) w := enters Try.func162 rfl rfl vs w
theorem en164 (vs : Array Value) (w : World) : (callFunc 164 vs).run Try.prog w = .ok (.enter 164 vs) w := enters Try.func164 rfl rfl vs w
theorem en165 (vs : Array Value) (w : World) : (callFunc 165 vs).run Try.prog w = .ok (.enter 165 vs) w := enters Try.func165 rfl rfl vs w
theorem en166 (vs : Array Value) (w : World) : (callFunc 166 vs).run Try.prog w = .ok (.enter 166 vs) w := enters Try.func166 rfl rfl vs w
theorem one1 : One Try.prog 1 := ⟨_, Try.underlying1, rfl⟩
theorem sz1 : (Try.prog.info? 1).map (·.size) = some 1 := by kernel_rfl
theorem one2 : One Try.prog 2 := ⟨_, Try.underlying2, rfl⟩
theorem sz2 : (Try.prog.info? 2).map (·.size) = some 1 := by kernel_rfl
theorem one3 : One Try.prog 3 := ⟨_, Try.underlying3, rfl⟩
theorem sz3 : (Try.prog.info? 3).map (·.size) = some 1 := by kernel_rfl
theorem one4 : One Try.prog 4 := ⟨_, Try.underlying4, rfl⟩
theorem sz4 : (Try.prog.info? 4).map (·.size) = some 1 := by kernel_rfl
theorem one5 : One Try.prog 5 := ⟨_, Try.underlying5, rfl⟩
theorem sz5 : (Try.prog.info? 5).map (·.size) = some 1 := by kernel_rfl
theorem one6 : One Try.prog 6 := ⟨_, Try.underlying6, rfl⟩
theorem sz6 : (Try.prog.info? 6).map (·.size) = some 1 := by kernel_rfl
theorem one9 : One Try.prog 9 := ⟨_, Try.underlying9, rfl⟩
theorem sz9 : (Try.prog.info? 9).map (·.size) = some 1 := by kernel_rfl
theorem one10 : One Try.prog 10 := ⟨_, Try.underlying10, rfl⟩
theorem sz10 : (Try.prog.info? 10).map (·.size) = some 1 := by kernel_rfl
theorem one11 : One Try.prog 11 := ⟨_, Try.underlying11, rfl⟩
theorem sz11 : (Try.prog.info? 11).map (·.size) = some 1 := by kernel_rfl
theorem one12 : One Try.prog 12 := ⟨_, Try.underlying12, rfl⟩
theorem sz12 : (Try.prog.info? 12).map (·.size) = some 1 := by kernel_rfl
theorem one15 : One Try.prog 15 := ⟨_, Try.underlying15, rfl⟩
theorem sz15 : (Try.prog.info? 15).map (·.size) = some 1 := by kernel_rfl
theorem one16 : One Try.prog 16 := ⟨_, Try.underlying16, rfl⟩
theorem sz16 : (Try.prog.info? 16).map (·.size) = some 1 := by kernel_rfl
theorem one17 : One Try.prog 17 := ⟨_, Try.underlying17, rfl⟩
theorem sz17 : (Try.prog.info? 17).map (·.size) = some 1 := by kernel_rfl
theorem one20 : One Try.prog 20 := ⟨_, Try.underlying20, rfl⟩
theorem sz20 : (Try.prog.info? 20).map (·.size) = some 1 := by kernel_rfl
theorem one21 : One Try.prog 21 := ⟨_, Try.underlying21, rfl⟩
theorem sz21 : (Try.prog.info? 21).map (·.size) = some 1 := by kernel_rfl
theorem one22 : One Try.prog 22 := ⟨_, Try.underlying22, rfl⟩
theorem sz22 : (Try.prog.info? 22).map (·.size) = some 1 := by kernel_rfl
theorem sl22 : SlT Try.prog 22 48 8 := ⟨Try.underlying22, by kernel_rfl⟩
theorem el22 : ElT Try.prog 22 48 8 136 (TResource.v (⟨0, ⟨#[]⟩, Sl.nil, Sl.nil, ⟨#[]⟩, Sl.nil, ⟨#[]⟩, false⟩ : TResource)) := ⟨Try.underlying22, by kernel_rfl, rfl, by decide⟩
theorem one23 : One Try.prog 23 := ⟨_, Try.underlying23, rfl⟩
theorem sz23 : (Try.prog.info? 23).map (·.size) = some 1 := by kernel_rfl
theorem sl23 : SlT Try.prog 23 32 2 := ⟨Try.underlying23, by kernel_rfl⟩
theorem el23 : ElT Try.prog 23 32 2 24 (TShare.v (⟨⟨#[]⟩, 0⟩ : TShare)) := ⟨Try.underlying23, by kernel_rfl, rfl, by decide⟩
theorem one24 : One Try.prog 24 := ⟨_, Try.underlying24, rfl⟩
theorem sz24 : (Try.prog.info? 24).map (·.size) = some 1 := by kernel_rfl
theorem one25 : One Try.prog 25 := ⟨_, Try.underlying25, rfl⟩
theorem sz25 : (Try.prog.info? 25).map (·.size) = some 1 := by kernel_rfl
theorem one27 : One Try.prog 27 := ⟨_, Try.underlying27, rfl⟩
theorem sz27 : (Try.prog.info? 27).map (·.size) = some 1 := by kernel_rfl
theorem one29 : One Try.prog 29 := ⟨_, Try.underlying29, rfl⟩
theorem sz29 : (Try.prog.info? 29).map (·.size) = some 1 := by kernel_rfl
theorem one30 : One Try.prog 30 := ⟨_, Try.underlying30, rfl⟩
theorem sz30 : (Try.prog.info? 30).map (·.size) = some 1 := by kernel_rfl
theorem many32 : Many Try.prog 32 2 := ⟨⟨_, Try.underlying32, rfl⟩, by kernel_rfl⟩
theorem sz32 : (Try.prog.info? 32).map (·.size) = some 2 := by kernel_rfl
theorem one33 : One Try.prog 33 := ⟨_, Try.underlying33, rfl⟩
theorem sz33 : (Try.prog.info? 33).map (·.size) = some 1 := by kernel_rfl
theorem one34 : One Try.prog 34 := ⟨_, Try.underlying34, rfl⟩
theorem sz34 : (Try.prog.info? 34).map (·.size) = some 1 := by kernel_rfl
theorem one35 : One Try.prog 35 := ⟨_, Try.underlying35, rfl⟩
theorem sz35 : (Try.prog.info? 35).map (·.size) = some 1 := by kernel_rfl
theorem one36 : One Try.prog 36 := ⟨_, Try.underlying36, rfl⟩
theorem sz36 : (Try.prog.info? 36).map (·.size) = some 1 := by kernel_rfl
theorem one38 : One Try.prog 38 := ⟨_, Try.underlying38, rfl⟩
theorem sz38 : (Try.prog.info? 38).map (·.size) = some 1 := by kernel_rfl
theorem one40 : One Try.prog 40 := ⟨_, Try.underlying40, rfl⟩
theorem sz40 : (Try.prog.info? 40).map (·.size) = some 1 := by kernel_rfl
theorem one41 : One Try.prog 41 := ⟨_, Try.underlying41, rfl⟩
theorem sz41 : (Try.prog.info? 41).map (·.size) = some 1 := by kernel_rfl
theorem one42 : One Try.prog 42 := ⟨_, Try.underlying42, rfl⟩
theorem sz42 : (Try.prog.info? 42).map (·.size) = some 1 := by kernel_rfl
theorem one43 : One Try.prog 43 := ⟨_, Try.underlying43, rfl⟩
theorem sz43 : (Try.prog.info? 43).map (·.size) = some 1 := by kernel_rfl
theorem one44 : One Try.prog 44 := ⟨_, Try.underlying44, rfl⟩
theorem sz44 : (Try.prog.info? 44).map (·.size) = some 1 := by kernel_rfl
theorem sl44 : SlT Try.prog 44 9 1 := ⟨Try.underlying44, by kernel_rfl⟩
theorem el44 : ElT Try.prog 44 9 1 16 (.string ⟨#[]⟩) := ⟨Try.underlying44, by kernel_rfl, rfl, by decide⟩
theorem one45 : One Try.prog 45 := ⟨_, Try.underlying45, rfl⟩
theorem sz45 : (Try.prog.info? 45).map (·.size) = some 1 := by kernel_rfl
theorem sl45 : SlT Try.prog 45 84 3 := ⟨Try.underlying45, by kernel_rfl⟩
theorem el45 : ElT Try.prog 45 84 3 40 (TTarget.v (⟨⟨#[]⟩, ⟨#[]⟩, 0⟩ : TTarget)) := ⟨Try.underlying45, by kernel_rfl, rfl, by decide⟩
theorem one46 : One Try.prog 46 := ⟨_, Try.underlying46, rfl⟩
theorem sz46 : (Try.prog.info? 46).map (·.size) = some 1 := by kernel_rfl
theorem sl46 : SlT Try.prog 46 91 4 := ⟨Try.underlying46, by kernel_rfl⟩
theorem el46 : ElT Try.prog 46 91 4 56 (TRule.v (⟨⟨#[]⟩, ⟨#[]⟩, ⟨#[]⟩, false⟩ : TRule)) := ⟨Try.underlying46, by kernel_rfl, rfl, by decide⟩
theorem many48 : Many Try.prog 48 8 := ⟨⟨_, Try.underlying48, rfl⟩, by kernel_rfl⟩
theorem sz48 : (Try.prog.info? 48).map (·.size) = some 8 := by kernel_rfl
theorem one49 : One Try.prog 49 := ⟨_, Try.underlying49, rfl⟩
theorem sz49 : (Try.prog.info? 49).map (·.size) = some 1 := by kernel_rfl
theorem one50 : One Try.prog 50 := ⟨_, Try.underlying50, rfl⟩
theorem sz50 : (Try.prog.info? 50).map (·.size) = some 1 := by kernel_rfl
theorem one51 : One Try.prog 51 := ⟨_, Try.underlying51, rfl⟩
theorem sz51 : (Try.prog.info? 51).map (·.size) = some 1 := by kernel_rfl
theorem sl51 : SlT Try.prog 51 59 4 := ⟨Try.underlying51, by kernel_rfl⟩
theorem el51 : ElT Try.prog 51 59 4 80 (THost.v (⟨⟨#[]⟩, ⟨#[]⟩, Sl.nil, Sl.nil⟩ : THost)) := ⟨Try.underlying51, by kernel_rfl, rfl, by decide⟩
theorem many53 : Many Try.prog 53 3 := ⟨⟨_, Try.underlying53, rfl⟩, by kernel_rfl⟩
theorem sz53 : (Try.prog.info? 53).map (·.size) = some 3 := by kernel_rfl
theorem one55 : One Try.prog 55 := ⟨_, Try.underlying55, rfl⟩
theorem sz55 : (Try.prog.info? 55).map (·.size) = some 1 := by kernel_rfl
theorem one56 : One Try.prog 56 := ⟨_, Try.underlying56, rfl⟩
theorem sz56 : (Try.prog.info? 56).map (·.size) = some 1 := by kernel_rfl
theorem sl56 : SlT Try.prog 56 61 3 := ⟨Try.underlying56, by kernel_rfl⟩
theorem el56 : ElT Try.prog 56 61 3 56 (TEntry.v (⟨⟨#[]⟩, ⟨#[]⟩, Sl.nil⟩ : TEntry)) := ⟨Try.underlying56, by kernel_rfl, rfl, by decide⟩
theorem one57 : One Try.prog 57 := ⟨_, Try.underlying57, rfl⟩
theorem sz57 : (Try.prog.info? 57).map (·.size) = some 1 := by kernel_rfl
theorem sl57 : SlT Try.prog 57 89 3 := ⟨Try.underlying57, by kernel_rfl⟩
theorem el57 : ElT Try.prog 57 89 3 40 (TPermit.v (⟨⟨#[]⟩, ⟨#[]⟩, false⟩ : TPermit)) := ⟨Try.underlying57, by kernel_rfl, rfl, by decide⟩
theorem many59 : Many Try.prog 59 4 := ⟨⟨_, Try.underlying59, rfl⟩, by kernel_rfl⟩
theorem sz59 : (Try.prog.info? 59).map (·.size) = some 4 := by kernel_rfl
theorem many61 : Many Try.prog 61 3 := ⟨⟨_, Try.underlying61, rfl⟩, by kernel_rfl⟩
theorem sz61 : (Try.prog.info? 61).map (·.size) = some 3 := by kernel_rfl
theorem one62 : One Try.prog 62 := ⟨_, Try.underlying62, rfl⟩
theorem sz62 : (Try.prog.info? 62).map (·.size) = some 1 := by kernel_rfl
theorem one63 : One Try.prog 63 := ⟨_, Try.underlying63, rfl⟩
theorem sz63 : (Try.prog.info? 63).map (·.size) = some 1 := by kernel_rfl
theorem one65 : One Try.prog 65 := ⟨_, Try.underlying65, rfl⟩
theorem sz65 : (Try.prog.info? 65).map (·.size) = some 1 := by kernel_rfl
theorem one66 : One Try.prog 66 := ⟨_, Try.underlying66, rfl⟩
theorem sz66 : (Try.prog.info? 66).map (·.size) = some 1 := by kernel_rfl
theorem one67 : One Try.prog 67 := ⟨_, Try.underlying67, rfl⟩
theorem sz67 : (Try.prog.info? 67).map (·.size) = some 1 := by kernel_rfl
theorem one68 : One Try.prog 68 := ⟨_, Try.underlying68, rfl⟩
theorem sz68 : (Try.prog.info? 68).map (·.size) = some 1 := by kernel_rfl
theorem one69 : One Try.prog 69 := ⟨_, Try.underlying69, rfl⟩
theorem sz69 : (Try.prog.info? 69).map (·.size) = some 1 := by kernel_rfl
theorem one70 : One Try.prog 70 := ⟨_, Try.underlying70, rfl⟩
theorem sz70 : (Try.prog.info? 70).map (·.size) = some 1 := by kernel_rfl
theorem one72 : One Try.prog 72 := ⟨_, Try.underlying72, rfl⟩
theorem sz72 : (Try.prog.info? 72).map (·.size) = some 1 := by kernel_rfl
theorem one73 : One Try.prog 73 := ⟨_, Try.underlying73, rfl⟩
theorem sz73 : (Try.prog.info? 73).map (·.size) = some 1 := by kernel_rfl
theorem one74 : One Try.prog 74 := ⟨_, Try.underlying74, rfl⟩
theorem sz74 : (Try.prog.info? 74).map (·.size) = some 1 := by kernel_rfl
theorem one75 : One Try.prog 75 := ⟨_, Try.underlying75, rfl⟩
theorem sz75 : (Try.prog.info? 75).map (·.size) = some 1 := by kernel_rfl
theorem one76 : One Try.prog 76 := ⟨_, Try.underlying76, rfl⟩
theorem sz76 : (Try.prog.info? 76).map (·.size) = some 1 := by kernel_rfl
theorem one77 : One Try.prog 77 := ⟨_, Try.underlying77, rfl⟩
theorem sz77 : (Try.prog.info? 77).map (·.size) = some 1 := by kernel_rfl
theorem sl77 : SlT Try.prog 77 3 1 := ⟨Try.underlying77, by kernel_rfl⟩
theorem el77 : ElT Try.prog 77 3 1 8 (.int .i64 0) := ⟨Try.underlying77, by kernel_rfl, rfl, by decide⟩
theorem one78 : One Try.prog 78 := ⟨_, Try.underlying78, rfl⟩
theorem sz78 : (Try.prog.info? 78).map (·.size) = some 1 := by kernel_rfl
theorem sl78 : SlT Try.prog 78 177 3 := ⟨Try.underlying78, by kernel_rfl⟩
theorem el78 : ElT Try.prog 78 177 3 24 (TWarning.v (⟨0, 0, 0⟩ : TWarning)) := ⟨Try.underlying78, by kernel_rfl, rfl, by decide⟩
theorem many80 : Many Try.prog 80 3 := ⟨⟨_, Try.underlying80, rfl⟩, by kernel_rfl⟩
theorem sz80 : (Try.prog.info? 80).map (·.size) = some 3 := by kernel_rfl
theorem one82 : One Try.prog 82 := ⟨_, Try.underlying82, rfl⟩
theorem sz82 : (Try.prog.info? 82).map (·.size) = some 1 := by kernel_rfl
theorem many84 : Many Try.prog 84 3 := ⟨⟨_, Try.underlying84, rfl⟩, by kernel_rfl⟩
theorem sz84 : (Try.prog.info? 84).map (·.size) = some 3 := by kernel_rfl
theorem one85 : One Try.prog 85 := ⟨_, Try.underlying85, rfl⟩
theorem sz85 : (Try.prog.info? 85).map (·.size) = some 1 := by kernel_rfl
theorem one87 : One Try.prog 87 := ⟨_, Try.underlying87, rfl⟩
theorem sz87 : (Try.prog.info? 87).map (·.size) = some 1 := by kernel_rfl
theorem many89 : Many Try.prog 89 3 := ⟨⟨_, Try.underlying89, rfl⟩, by kernel_rfl⟩
theorem sz89 : (Try.prog.info? 89).map (·.size) = some 3 := by kernel_rfl
theorem many91 : Many Try.prog 91 4 := ⟨⟨_, Try.underlying91, rfl⟩, by kernel_rfl⟩
theorem sz91 : (Try.prog.info? 91).map (·.size) = some 4 := by kernel_rfl
theorem one92 : One Try.prog 92 := ⟨_, Try.underlying92, rfl⟩
theorem sz92 : (Try.prog.info? 92).map (·.size) = some 1 := by kernel_rfl
theorem one93 : One Try.prog 93 := ⟨_, Try.underlying93, rfl⟩
theorem sz93 : (Try.prog.info? 93).map (·.size) = some 1 := by kernel_rfl
theorem one94 : One Try.prog 94 := ⟨_, Try.underlying94, rfl⟩
theorem sz94 : (Try.prog.info? 94).map (·.size) = some 1 := by kernel_rfl
theorem one95 : One Try.prog 95 := ⟨_, Try.underlying95, rfl⟩
theorem sz95 : (Try.prog.info? 95).map (·.size) = some 1 := by kernel_rfl
theorem one96 : One Try.prog 96 := ⟨_, Try.underlying96, rfl⟩
theorem sz96 : (Try.prog.info? 96).map (·.size) = some 1 := by kernel_rfl
theorem one97 : One Try.prog 97 := ⟨_, Try.underlying97, rfl⟩
theorem sz97 : (Try.prog.info? 97).map (·.size) = some 1 := by kernel_rfl
theorem one98 : One Try.prog 98 := ⟨_, Try.underlying98, rfl⟩
theorem sz98 : (Try.prog.info? 98).map (·.size) = some 1 := by kernel_rfl
theorem one99 : One Try.prog 99 := ⟨_, Try.underlying99, rfl⟩
theorem sz99 : (Try.prog.info? 99).map (·.size) = some 1 := by kernel_rfl
theorem sl99 : SlT Try.prog 99 160 3 := ⟨Try.underlying99, by kernel_rfl⟩
theorem el99 : ElT Try.prog 99 160 3 24 (TWarning14.v (⟨0, 0, 0⟩ : TWarning14)) := ⟨Try.underlying99, by kernel_rfl, rfl, by decide⟩
theorem many101 : Many Try.prog 101 3 := ⟨⟨_, Try.underlying101, rfl⟩, by kernel_rfl⟩
theorem sz101 : (Try.prog.info? 101).map (·.size) = some 3 := by kernel_rfl
theorem one103 : One Try.prog 103 := ⟨_, Try.underlying103, rfl⟩
theorem sz103 : (Try.prog.info? 103).map (·.size) = some 1 := by kernel_rfl
theorem one104 : One Try.prog 104 := ⟨_, Try.underlying104, rfl⟩
theorem sz104 : (Try.prog.info? 104).map (·.size) = some 1 := by kernel_rfl
theorem one105 : One Try.prog 105 := ⟨_, Try.underlying105, rfl⟩
theorem sz105 : (Try.prog.info? 105).map (·.size) = some 1 := by kernel_rfl
theorem one106 : One Try.prog 106 := ⟨_, Try.underlying106, rfl⟩
theorem sz106 : (Try.prog.info? 106).map (·.size) = some 1 := by kernel_rfl
theorem one107 : One Try.prog 107 := ⟨_, Try.underlying107, rfl⟩
theorem sz107 : (Try.prog.info? 107).map (·.size) = some 1 := by kernel_rfl
theorem sl107 : SlT Try.prog 107 23 1 := ⟨Try.underlying107, by kernel_rfl⟩
theorem el107 : ElT Try.prog 107 23 1 24 (Sl.v Sl.nil) := ⟨Try.underlying107, by kernel_rfl, rfl, by decide⟩
theorem many109 : Many Try.prog 109 2 := ⟨⟨_, Try.underlying109, rfl⟩, by kernel_rfl⟩
theorem sz109 : (Try.prog.info? 109).map (·.size) = some 2 := by kernel_rfl
theorem one110 : One Try.prog 110 := ⟨_, Try.underlying110, rfl⟩
theorem sz110 : (Try.prog.info? 110).map (·.size) = some 1 := by kernel_rfl
theorem one111 : One Try.prog 111 := ⟨_, Try.underlying111, rfl⟩
theorem sz111 : (Try.prog.info? 111).map (·.size) = some 1 := by kernel_rfl
theorem many113 : Many Try.prog 113 2 := ⟨⟨_, Try.underlying113, rfl⟩, by kernel_rfl⟩
theorem sz113 : (Try.prog.info? 113).map (·.size) = some 2 := by kernel_rfl
theorem one114 : One Try.prog 114 := ⟨_, Try.underlying114, rfl⟩
theorem sz114 : (Try.prog.info? 114).map (·.size) = some 1 := by kernel_rfl
theorem one115 : One Try.prog 115 := ⟨_, Try.underlying115, rfl⟩
theorem sz115 : (Try.prog.info? 115).map (·.size) = some 1 := by kernel_rfl
theorem one117 : One Try.prog 117 := ⟨_, Try.underlying117, rfl⟩
theorem sz117 : (Try.prog.info? 117).map (·.size) = some 1 := by kernel_rfl
theorem one118 : One Try.prog 118 := ⟨_, Try.underlying118, rfl⟩
theorem sz118 : (Try.prog.info? 118).map (·.size) = some 1 := by kernel_rfl
theorem one119 : One Try.prog 119 := ⟨_, Try.underlying119, rfl⟩
theorem sz119 : (Try.prog.info? 119).map (·.size) = some 1 := by kernel_rfl
theorem one120 : One Try.prog 120 := ⟨_, Try.underlying120, rfl⟩
theorem sz120 : (Try.prog.info? 120).map (·.size) = some 1 := by kernel_rfl
theorem one121 : One Try.prog 121 := ⟨_, Try.underlying121, rfl⟩
theorem sz121 : (Try.prog.info? 121).map (·.size) = some 1 := by kernel_rfl
theorem one122 : One Try.prog 122 := ⟨_, Try.underlying122, rfl⟩
theorem sz122 : (Try.prog.info? 122).map (·.size) = some 1 := by kernel_rfl
theorem one123 : One Try.prog 123 := ⟨_, Try.underlying123, rfl⟩
theorem sz123 : (Try.prog.info? 123).map (·.size) = some 1 := by kernel_rfl
theorem one124 : One Try.prog 124 := ⟨_, Try.underlying124, rfl⟩
theorem sz124 : (Try.prog.info? 124).map (·.size) = some 1 := by kernel_rfl
theorem one125 : One Try.prog 125 := ⟨_, Try.underlying125, rfl⟩
theorem sz125 : (Try.prog.info? 125).map (·.size) = some 1 := by kernel_rfl
theorem one126 : One Try.prog 126 := ⟨_, Try.underlying126, rfl⟩
theorem sz126 : (Try.prog.info? 126).map (·.size) = some 1 := by kernel_rfl
theorem one127 : One Try.prog 127 := ⟨_, Try.underlying127, rfl⟩
theorem sz127 : (Try.prog.info? 127).map (·.size) = some 1 := by kernel_rfl
theorem one128 : One Try.prog 128 := ⟨_, Try.underlying128, rfl⟩
theorem sz128 : (Try.prog.info? 128).map (·.size) = some 1 := by kernel_rfl
theorem one129 : One Try.prog 129 := ⟨_, Try.underlying129, rfl⟩
theorem sz129 : (Try.prog.info? 129).map (·.size) = some 1 := by kernel_rfl
theorem one130 : One Try.prog 130 := ⟨_, Try.underlying130, rfl⟩
theorem sz130 : (Try.prog.info? 130).map (·.size) = some 1 := by kernel_rfl
theorem one131 : One Try.prog 131 := ⟨_, Try.underlying131, rfl⟩
theorem sz131 : (Try.prog.info? 131).map (·.size) = some 1 := by kernel_rfl
theorem one132 : One Try.prog 132 := ⟨_, Try.underlying132, rfl⟩
theorem sz132 : (Try.prog.info? 132).map (·.size) = some 1 := by kernel_rfl
theorem one133 : One Try.prog 133 := ⟨_, Try.underlying133, rfl⟩
theorem sz133 : (Try.prog.info? 133).map (·.size) = some 1 := by kernel_rfl
theorem one134 : One Try.prog 134 := ⟨_, Try.underlying134, rfl⟩
theorem sz134 : (Try.prog.info? 134).map (·.size) = some 1 := by kernel_rfl
theorem one135 : One Try.prog 135 := ⟨_, Try.underlying135, rfl⟩
theorem sz135 : (Try.prog.info? 135).map (·.size) = some 1 := by kernel_rfl
theorem one136 : One Try.prog 136 := ⟨_, Try.underlying136, rfl⟩
theorem sz136 : (Try.prog.info? 136).map (·.size) = some 1 := by kernel_rfl
theorem one138 : One Try.prog 138 := ⟨_, Try.underlying138, rfl⟩
theorem sz138 : (Try.prog.info? 138).map (·.size) = some 1 := by kernel_rfl
theorem one139 : One Try.prog 139 := ⟨_, Try.underlying139, rfl⟩
theorem sz139 : (Try.prog.info? 139).map (·.size) = some 1 := by kernel_rfl
theorem one140 : One Try.prog 140 := ⟨_, Try.underlying140, rfl⟩
theorem sz140 : (Try.prog.info? 140).map (·.size) = some 1 := by kernel_rfl
theorem one141 : One Try.prog 141 := ⟨_, Try.underlying141, rfl⟩
theorem sz141 : (Try.prog.info? 141).map (·.size) = some 1 := by kernel_rfl
theorem one142 : One Try.prog 142 := ⟨_, Try.underlying142, rfl⟩
theorem sz142 : (Try.prog.info? 142).map (·.size) = some 1 := by kernel_rfl
theorem one143 : One Try.prog 143 := ⟨_, Try.underlying143, rfl⟩
theorem sz143 : (Try.prog.info? 143).map (·.size) = some 1 := by kernel_rfl
theorem one144 : One Try.prog 144 := ⟨_, Try.underlying144, rfl⟩
theorem sz144 : (Try.prog.info? 144).map (·.size) = some 1 := by kernel_rfl
theorem one145 : One Try.prog 145 := ⟨_, Try.underlying145, rfl⟩
theorem sz145 : (Try.prog.info? 145).map (·.size) = some 1 := by kernel_rfl
theorem one146 : One Try.prog 146 := ⟨_, Try.underlying146, rfl⟩
theorem sz146 : (Try.prog.info? 146).map (·.size) = some 1 := by kernel_rfl
theorem many148 : Many Try.prog 148 2 := ⟨⟨_, Try.underlying148, rfl⟩, by kernel_rfl⟩
theorem sz148 : (Try.prog.info? 148).map (·.size) = some 2 := by kernel_rfl
theorem one149 : One Try.prog 149 := ⟨_, Try.underlying149, rfl⟩
theorem sz149 : (Try.prog.info? 149).map (·.size) = some 1 := by kernel_rfl
theorem one150 : One Try.prog 150 := ⟨_, Try.underlying150, rfl⟩
theorem sz150 : (Try.prog.info? 150).map (·.size) = some 1 := by kernel_rfl
theorem one151 : One Try.prog 151 := ⟨_, Try.underlying151, rfl⟩
theorem sz151 : (Try.prog.info? 151).map (·.size) = some 1 := by kernel_rfl
theorem one152 : One Try.prog 152 := ⟨_, Try.underlying152, rfl⟩
theorem sz152 : (Try.prog.info? 152).map (·.size) = some 1 := by kernel_rfl
theorem one153 : One Try.prog 153 := ⟨_, Try.underlying153, rfl⟩
theorem sz153 : (Try.prog.info? 153).map (·.size) = some 1 := by kernel_rfl
theorem one154 : One Try.prog 154 := ⟨_, Try.underlying154, rfl⟩
theorem sz154 : (Try.prog.info? 154).map (·.size) = some 1 := by kernel_rfl
theorem one156 : One Try.prog 156 := ⟨_, Try.underlying156, rfl⟩
theorem sz156 : (Try.prog.info? 156).map (·.size) = some 1 := by kernel_rfl
theorem one157 : One Try.prog 157 := ⟨_, Try.underlying157, rfl⟩
theorem sz157 : (Try.prog.info? 157).map (·.size) = some 1 := by kernel_rfl
theorem one158 : One Try.prog 158 := ⟨_, Try.underlying158, rfl⟩
theorem sz158 : (Try.prog.info? 158).map (·.size) = some 1 := by kernel_rfl
theorem many160 : Many Try.prog 160 3 := ⟨⟨_, Try.underlying160, rfl⟩, by kernel_rfl⟩
theorem sz160 : (Try.prog.info? 160).map (·.size) = some 3 := by kernel_rfl
theorem one161 : One Try.prog 161 := ⟨_, Try.underlying161, rfl⟩
theorem sz161 : (Try.prog.info? 161).map (·.size) = some 1 := by kernel_rfl
theorem one162 : One Try.prog 162 := ⟨_, Try.underlying162, rfl⟩
theorem sz162 : (Try.prog.info? 162).map (·.size) = some 1 := by kernel_rfl
theorem one163 : One Try.prog 163 := ⟨_, Try.underlying163, rfl⟩
theorem sz163 : (Try.prog.info? 163).map (·.size) = some 1 := by kernel_rfl
theorem one164 : One Try.prog 164 := ⟨_, Try.underlying164, rfl⟩
theorem sz164 : (Try.prog.info? 164).map (·.size) = some 1 := by kernel_rfl
theorem one165 : One Try.prog 165 := ⟨_, Try.underlying165, rfl⟩
theorem sz165 : (Try.prog.info? 165).map (·.size) = some 1 := by kernel_rfl
theorem one166 : One Try.prog 166 := ⟨_, Try.underlying166, rfl⟩
theorem sz166 : (Try.prog.info? 166).map (·.size) = some 1 := by kernel_rfl
theorem one167 : One Try.prog 167 := ⟨_, Try.underlying167, rfl⟩
theorem sz167 : (Try.prog.info? 167).map (·.size) = some 1 := by kernel_rfl
theorem one168 : One Try.prog 168 := ⟨_, Try.underlying168, rfl⟩
theorem sz168 : (Try.prog.info? 168).map (·.size) = some 1 := by kernel_rfl
theorem one169 : One Try.prog 169 := ⟨_, Try.underlying169, rfl⟩
theorem sz169 : (Try.prog.info? 169).map (·.size) = some 1 := by kernel_rfl
theorem one170 : One Try.prog 170 := ⟨_, Try.underlying170, rfl⟩
theorem sz170 : (Try.prog.info? 170).map (·.size) = some 1 := by kernel_rfl
theorem one172 : One Try.prog 172 := ⟨_, Try.underlying172, rfl⟩
theorem sz172 : (Try.prog.info? 172).map (·.size) = some 1 := by kernel_rfl
theorem one173 : One Try.prog 173 := ⟨_, Try.underlying173, rfl⟩
theorem sz173 : (Try.prog.info? 173).map (·.size) = some 1 := by kernel_rfl
theorem one174 : One Try.prog 174 := ⟨_, Try.underlying174, rfl⟩
theorem sz174 : (Try.prog.info? 174).map (·.size) = some 1 := by kernel_rfl
theorem one175 : One Try.prog 175 := ⟨_, Try.underlying175, rfl⟩
theorem sz175 : (Try.prog.info? 175).map (·.size) = some 1 := by kernel_rfl
theorem one176 : One Try.prog 176 := ⟨_, Try.underlying176, rfl⟩
theorem sz176 : (Try.prog.info? 176).map (·.size) = some 1 := by kernel_rfl
theorem many177 : Many Try.prog 177 3 := ⟨⟨_, Try.underlying177, rfl⟩, by kernel_rfl⟩
theorem sz177 : (Try.prog.info? 177).map (·.size) = some 3 := by kernel_rfl
theorem one178 : One Try.prog 178 := ⟨_, Try.underlying178, rfl⟩
theorem sz178 : (Try.prog.info? 178).map (·.size) = some 1 := by kernel_rfl
theorem one179 : One Try.prog 179 := ⟨_, Try.underlying179, rfl⟩
theorem sz179 : (Try.prog.info? 179).map (·.size) = some 1 := by kernel_rfl
theorem one180 : One Try.prog 180 := ⟨_, Try.underlying180, rfl⟩
theorem sz180 : (Try.prog.info? 180).map (·.size) = some 1 := by kernel_rfl
theorem one181 : One Try.prog 181 := ⟨_, Try.underlying181, rfl⟩
theorem sz181 : (Try.prog.info? 181).map (·.size) = some 1 := by kernel_rfl
theorem one182 : One Try.prog 182 := ⟨_, Try.underlying182, rfl⟩
theorem sz182 : (Try.prog.info? 182).map (·.size) = some 1 := by kernel_rfl
theorem one183 : One Try.prog 183 := ⟨_, Try.underlying183, rfl⟩
theorem sz183 : (Try.prog.info? 183).map (·.size) = some 1 := by kernel_rfl
theorem one184 : One Try.prog 184 := ⟨_, Try.underlying184, rfl⟩
theorem sz184 : (Try.prog.info? 184).map (·.size) = some 1 := by kernel_rfl
theorem one185 : One Try.prog 185 := ⟨_, Try.underlying185, rfl⟩
theorem sz185 : (Try.prog.info? 185).map (·.size) = some 1 := by kernel_rfl
theorem one186 : One Try.prog 186 := ⟨_, Try.underlying186, rfl⟩
theorem sz186 : (Try.prog.info? 186).map (·.size) = some 1 := by kernel_rfl
theorem one187 : One Try.prog 187 := ⟨_, Try.underlying187, rfl⟩
theorem sz187 : (Try.prog.info? 187).map (·.size) = some 1 := by kernel_rfl
theorem sl187 : SlT Try.prog 187 5 1 := ⟨Try.underlying187, by kernel_rfl⟩
theorem el187 : ElT Try.prog 187 5 1 1 (.int .u8 0) := ⟨Try.underlying187, by kernel_rfl, rfl, by decide⟩
theorem one188 : One Try.prog 188 := ⟨_, Try.underlying188, rfl⟩
theorem sz188 : (Try.prog.info? 188).map (·.size) = some 1 := by kernel_rfl
theorem one189 : One Try.prog 189 := ⟨_, Try.underlying189, rfl⟩
theorem sz189 : (Try.prog.info? 189).map (·.size) = some 1 := by kernel_rfl
theorem one191 : One Try.prog 191 := ⟨_, Try.underlying191, rfl⟩
theorem sz191 : (Try.prog.info? 191).map (·.size) = some 1 := by kernel_rfl
theorem one192 : One Try.prog 192 := ⟨_, Try.underlying192, rfl⟩
theorem sz192 : (Try.prog.info? 192).map (·.size) = some 1 := by kernel_rfl
theorem one193 : One Try.prog 193 := ⟨_, Try.underlying193, rfl⟩
theorem sz193 : (Try.prog.info? 193).map (·.size) = some 1 := by kernel_rfl
theorem one194 : One Try.prog 194 := ⟨_, Try.underlying194, rfl⟩
theorem sz194 : (Try.prog.info? 194).map (·.size) = some 1 := by kernel_rfl
theorem one195 : One Try.prog 195 := ⟨_, Try.underlying195, rfl⟩
theorem sz195 : (Try.prog.info? 195).map (·.size) = some 1 := by kernel_rfl
theorem one196 : One Try.prog 196 := ⟨_, Try.underlying196, rfl⟩
theorem sz196 : (Try.prog.info? 196).map (·.size) = some 1 := by kernel_rfl
theorem one197 : One Try.prog 197 := ⟨_, Try.underlying197, rfl⟩
theorem sz197 : (Try.prog.info? 197).map (·.size) = some 1 := by kernel_rfl
theorem one198 : One Try.prog 198 := ⟨_, Try.underlying198, rfl⟩
theorem sz198 : (Try.prog.info? 198).map (·.size) = some 1 := by kernel_rfl
theorem one199 : One Try.prog 199 := ⟨_, Try.underlying199, rfl⟩
theorem sz199 : (Try.prog.info? 199).map (·.size) = some 1 := by kernel_rfl
theorem one200 : One Try.prog 200 := ⟨_, Try.underlying200, rfl⟩
theorem sz200 : (Try.prog.info? 200).map (·.size) = some 1 := by kernel_rfl
theorem one201 : One Try.prog 201 := ⟨_, Try.underlying201, rfl⟩
theorem sz201 : (Try.prog.info? 201).map (·.size) = some 1 := by kernel_rfl
theorem one202 : One Try.prog 202 := ⟨_, Try.underlying202, rfl⟩
theorem sz202 : (Try.prog.info? 202).map (·.size) = some 1 := by kernel_rfl
theorem one203 : One Try.prog 203 := ⟨_, Try.underlying203, rfl⟩
theorem sz203 : (Try.prog.info? 203).map (·.size) = some 1 := by kernel_rfl
theorem one204 : One Try.prog 204 := ⟨_, Try.underlying204, rfl⟩
theorem sz204 : (Try.prog.info? 204).map (·.size) = some 1 := by kernel_rfl
theorem one205 : One Try.prog 205 := ⟨_, Try.underlying205, rfl⟩
theorem sz205 : (Try.prog.info? 205).map (·.size) = some 1 := by kernel_rfl
theorem one207 : One Try.prog 207 := ⟨_, Try.underlying207, rfl⟩
theorem sz207 : (Try.prog.info? 207).map (·.size) = some 1 := by kernel_rfl
theorem one208 : One Try.prog 208 := ⟨_, Try.underlying208, rfl⟩
theorem sz208 : (Try.prog.info? 208).map (·.size) = some 1 := by kernel_rfl
theorem one214 : One Try.prog 214 := ⟨_, Try.underlying214, rfl⟩
theorem sz214 : (Try.prog.info? 214).map (·.size) = some 1 := by kernel_rfl
theorem one215 : One Try.prog 215 := ⟨_, Try.underlying215, rfl⟩
theorem sz215 : (Try.prog.info? 215).map (·.size) = some 1 := by kernel_rfl
theorem one216 : One Try.prog 216 := ⟨_, Try.underlying216, rfl⟩
theorem sz216 : (Try.prog.info? 216).map (·.size) = some 1 := by kernel_rfl
theorem one217 : One Try.prog 217 := ⟨_, Try.underlying217, rfl⟩
theorem sz217 : (Try.prog.info? 217).map (·.size) = some 1 := by kernel_rfl
theorem one218 : One Try.prog 218 := ⟨_, Try.underlying218, rfl⟩
theorem sz218 : (Try.prog.info? 218).map (·.size) = some 1 := by kernel_rfl
theorem one219 : One Try.prog 219 := ⟨_, Try.underlying219, rfl⟩
theorem sz219 : (Try.prog.info? 219).map (·.size) = some 1 := by kernel_rfl
theorem one220 : One Try.prog 220 := ⟨_, Try.underlying220, rfl⟩
theorem sz220 : (Try.prog.info? 220).map (·.size) = some 1 := by kernel_rfl
end Go.Proofs.Ytdoeegfcmbcbkaa.Tr

/- Made by program: typed transformers of the functions, each met by its code. -/
namespace Go.Proofs.Ytdoeegfcmbcbkaa.Tr
open Go Go.Eng
set_option linter.unusedVariables false
set_option maxRecDepth 100000
set_option maxHeartbeats 4000000
/-- turnpike/turnpikelaw15.TablesShares; slots 0:conf, 1:split, 2:l, 3:conf, 4:split, 5:l, 7:given, 8:a, 9:e, 10:b, 11:f, 12:list, 13:s, 14:i -/
def f3 (t0 : Sl) (t1 : ByteArray) (t2 : Sl) (R : (Bool) → World → Prop) (w : World) : Prop :=
  Cal Try.prog Sl.v 16 #[(Sl.v t0)] w fun t16 w =>
  Cal Try.prog (fun x : Sl × Int => Value.tuple #[(Sl.v x.1), (.int .i64 x.2)]) 17 #[(Sl.v t16), (.string t1)] w fun t20 w =>
  Cal Try.prog (fun x : Sl × Int => Value.tuple #[(Sl.v x.1), (.int .i64 x.2)]) 18 #[(Sl.v t0), (.string t1)] w fun t26 w =>
  Rn Try.prog Sl.v (Builtin.append_ #[23, 23] 23 #[(Sl.v Sl.nil), (Sl.v t2)]) w fun t31 w =>
  New 32 ((TShare.cells (⟨(⟨#[109, 97, 114, 107]⟩ : ByteArray), 0⟩ : TShare))) w fun b33 w =>
  Rn Try.prog Sl.v (Builtin.append_ #[23, 23] 23 #[(Sl.v t31), (Sl.v (⟨some ⟨b33, 0, none⟩, 1, 1⟩ : Sl))]) w fun t34 w =>
  RnP Try.prog Sl.v (Instr.sliceAt 23 (Sl.v t34) none (some (.int .i64 (t2.n : Int))) none) fun t38 =>
  Cal Try.prog Sl.v 19 #[(Sl.v t38)] w fun t39 w =>
  Jn (σ := Bool) (fun k1 =>
    Cal Try.prog Value.bool 20 #[(Sl.v t20.1), (Sl.v t26.1)] w fun t42 w =>
    if (!t42) = true then
      k1 true w
    else
      if t20.2 ≠ t26.2 then
        k1 true w
      else
        Cal Try.prog Value.bool 21 #[(Sl.v t16), (Sl.v t0)] w fun t52 w =>
        if (!t52) = true then
          k1 true w
        else
          Cal Try.prog Sl.v 22 #[(Sl.v t2)] w fun t58 w =>
          Cal Try.prog Value.bool 20 #[(Sl.v t39), (Sl.v t58)] w fun t59 w =>
          if (!t59) = true then
            k1 true w
          else
            RnP Try.prog Sl.v (Instr.sliceAt 23 (Sl.v t34) none (some (.int .i64 (t2.n : Int))) none) fun t66 =>
            Cal Try.prog Value.bool 20 #[(Sl.v t66), (Sl.v t2)] w fun t68 w =>
            if (!t68) = true then
              k1 true w
            else
              RnP Try.prog Ptr (Instr.indexAt 23 (Sl.v t34) (.int .i64 (t2.n : Int))) fun t75 =>
              Rn Try.prog Value.string (Instr.loadAt 9 (Ptr (t75.add 0))) w fun t77 w =>
              k1 (decide (t77 ≠ (⟨#[109, 97, 114, 107]⟩ : ByteArray))) w
  ) fun s1 w =>
    if s1 = true then
      R false w
    else
      Lp (σ := Int) (fun s8 w n8 =>
        if s8 < (t39.n : Int) then
          RnP Try.prog Ptr (Instr.indexAt 23 (Sl.v t39) (.int .i64 s8)) fun t89 =>
          RnU Try.prog (Instr.storeAt 32 (Ptr t89) (TShare.v (⟨(⟨#[103, 111, 110, 101]⟩ : ByteArray), 0⟩ : TShare))) w fun w =>
          n8 (IntKind.i64.wrap (s8 + 1)) w
        else
          Jn (σ := Bool) (fun k10 =>
            RnP Try.prog Sl.v (Instr.sliceAt 23 (Sl.v t34) none (some (.int .i64 (t2.n : Int))) none) fun t93 =>
            Cal Try.prog Value.bool 20 #[(Sl.v t93), (Sl.v t2)] w fun t95 w =>
            if t95 = true then
              Cal Try.prog Sl.v 19 #[(Sl.v t20.1)] w fun t98 w =>
              Cal Try.prog Sl.v 22 #[(Sl.v t26.1)] w fun t100 w =>
              Cal Try.prog Value.bool 20 #[(Sl.v t98), (Sl.v t100)] w fun t101 w =>
              k10 t101 w
            else
              k10 false w
          ) fun s10 w =>
            R s10 w
      ) 0 w
theorem c3 {t0 : Sl} {t1 : ByteArray} {t2 : Sl} {R : (Bool) → World → Prop} {w : World} (h : f3 t0 t1 t2 R w) :
    Cal Try.prog Value.bool 3 #[(Sl.v t0), (.string t1), (Sl.v t2)] w R := by
  unfold f3 at h
  refine calls_ Try.func3 Try.ntmps3 rfl rfl ?_
  refine seq_ ?_
  refine region_ ?_
  refine st_val (ex_assign (v := (.bool false)) rfl) ?_
  refine wl_nil ?_
  refine then_n ?_
  refine seq_ ?_
  refine region_ ?_
  refine st_val (ex_move (v := (Sl.v t0)) rfl) ?_
  refine st_cal en16 rfl h ?_; clear h; intro t16 w h
  refine st_val (ex_assign (v := (Sl.v t16)) rfl) ?_
  refine wl_nil ?_
  refine then_n ?_
  refine seq_ ?_
  refine region_ ?_
  refine st_val (ex_move (v := (Sl.v t16)) rfl) ?_
  refine st_val (ex_move (v := (.string t1)) rfl) ?_
  refine st_cal en17 rfl h ?_; clear h; intro t20 w h
  refine st_val (ex_move (v := (.tuple #[(Sl.v t20.1), (.int .i64 t20.2)])) rfl) ?_
  refine st_val (ex_extract (u := (.tuple #[(Sl.v t20.1), (.int .i64 t20.2)])) rfl (v := (Sl.v t20.1)) rfl) ?_
  refine st_val (ex_extract (u := (.tuple #[(Sl.v t20.1), (.int .i64 t20.2)])) rfl (v := (.int .i64 t20.2)) rfl) ?_
  refine st_val (ex_assign (v := (Sl.v t20.1)) rfl) ?_
  refine st_val (ex_assign (v := (.int .i64 t20.2)) rfl) ?_
  refine wl_nil ?_
  refine then_n ?_
  refine seq_ ?_
  refine region_ ?_
  refine st_val (ex_move (v := (Sl.v t0)) rfl) ?_
  refine st_val (ex_move (v := (.string t1)) rfl) ?_
  refine st_cal en18 rfl h ?_; clear h; intro t26 w h
  refine st_val (ex_move (v := (.tuple #[(Sl.v t26.1), (.int .i64 t26.2)])) rfl) ?_
  refine st_val (ex_extract (u := (.tuple #[(Sl.v t26.1), (.int .i64 t26.2)])) rfl (v := (Sl.v t26.1)) rfl) ?_
  refine st_val (ex_extract (u := (.tuple #[(Sl.v t26.1), (.int .i64 t26.2)])) rfl (v := (.int .i64 t26.2)) rfl) ?_
  refine st_val (ex_assign (v := (Sl.v t26.1)) rfl) ?_
  refine st_val (ex_assign (v := (.int .i64 t26.2)) rfl) ?_
  refine wl_nil ?_
  refine then_n ?_
  refine seq_ ?_
  refine region_ ?_
  refine st_val (ex_assign (v := (Sl.v Sl.nil)) rfl) ?_
  refine wl_nil ?_
  refine then_n ?_
  refine seq_ ?_
  refine region_ ?_
  refine st_val (ex_move (v := (Sl.v Sl.nil)) rfl) ?_
  refine st_val (ex_move (v := (Sl.v t2)) rfl) ?_
  refine st_rn (fun r => ex_builtin rfl (fun _ => rfl) r) h ?_; clear h; intro t31 w h
  refine st_val (ex_build (a' := [(0, (.string (⟨#[109, 97, 114, 107]⟩ : ByteArray)))]) (v := TShare.v (⟨(⟨#[109, 97, 114, 107]⟩ : ByteArray), 0⟩ : TShare)) rfl (e_build Try.underlying32 zero32 rfl pl32 rfl _)) ?_
  refine st_new (f := (fun b => Sl.v ⟨some ⟨b, 0, none⟩, 1, 1⟩)) (ex_buildSlice (a' := [(0, (TShare.v (⟨(⟨#[109, 97, 114, 107]⟩ : ByteArray), 0⟩ : TShare)))]) rfl (e_buildSlice (cs := ((TShare.cells (⟨(⟨#[109, 97, 114, 107]⟩ : ByteArray), 0⟩ : TShare)))) Try.underlying23 info32 iz32 (by decide +kernel) (by decide +kernel) (by kernel_rfl) _)) h ?_; clear h; intro b33 w h
  refine st_rn (fun r => ex_builtin rfl (fun _ => rfl) r) h ?_; clear h; intro t34 w h
  refine st_val (ex_assign (v := (Sl.v t34)) rfl) ?_
  refine wl_nil ?_
  refine then_n ?_
  refine seq_ ?_
  refine region_ ?_
  refine st_val (ex_move (v := (Sl.v t34)) rfl) ?_
  refine st_val (ex_move (v := (Sl.v t2)) rfl) ?_
  refine st_val (ex_len (s := t2) Try.underlying23 rfl) ?_
  refine st_rnp (fun r => ex_slice rfl rfl rfl rfl r) h ?_; clear h; intro t38 h
  refine st_cal en19 rfl h ?_; clear h; intro t39 w h
  refine st_val (ex_assign (v := (Sl.v t39)) rfl) ?_
  refine wl_nil ?_
  refine then_n ?_
  refine seq_ ?_
  refine wp_jn (σ := Bool) (fun s1 l => ∃ j, l = upds j [(2, (Sl.v t2)), (8, (Sl.v t20.1)), (10, (Sl.v t26.1)), (12, (Sl.v t34)), (13, (Sl.v t39)), (79, (.bool s1))]) h ?_ ?_
  · clear h; rintro s1 _ w ⟨j, rfl⟩ h
    by_cases hc7 : s1 = true
    · rw [if_pos hc7] at h; refine cond_1 (b := s1) rfl hc7 ?_
      refine seq_ ?_
      refine region_ ?_
      refine st_val (ex_assign (v := (.bool false)) rfl) ?_
      refine wl_nil ?_
      refine then_n ?_
      refine wp_ret ?_
      refine then_r ?_
      refine ret_1 rfl rfl ⟨false, rfl, h⟩
    · rw [if_neg hc7] at h; refine cond_0 (b := s1) rfl (Bool.eq_false_iff.2 hc7) ?_
      refine wp_skip ?_
      refine then_n ?_
      refine seq_ ?_
      refine seq_ ?_
      refine region_ ?_
      refine st_val (ex_assign (v := (.int .i64 0)) rfl) ?_
      refine wl_nil ?_
      refine then_n ?_
      refine wp_block ?_
      refine wp_lp (σ := Int) (fun s8 a => ∃ j, a = F 103 (upds j [(2, (Sl.v t2)), (8, (Sl.v t20.1)), (10, (Sl.v t26.1)), (12, (Sl.v t34)), (13, (Sl.v t39)), (14, (.int .i64 s8))])) h (mk_upds (ae rfl (ae rfl (ae rfl (ae rfl (ae rfl (ae rfl ae0))))))) ?_
      clear h; rintro s8 _ w n8 ⟨j, rfl⟩ h
      refine seq_ ?_
      refine seq_ ?_
      refine region_ ?_
      refine st_val (ex_move (v := (.int .i64 s8)) rfl) ?_
      refine st_val (ex_move (v := (Sl.v t39)) rfl) ?_
      refine st_val (ex_len (s := t39) Try.underlying23 rfl) ?_
      refine st_val (ex_lss (a := s8) (b := (t39.n : Int)) rfl rfl) ?_
      refine wl_nil ?_
      refine then_n ?_
      by_cases hc9 : s8 < (t39.n : Int)
      · rw [if_pos hc9] at h; refine cond_1 (b := (decide (s8 < (t39.n : Int)))) rfl (decide_eq_true hc9) ?_
        refine wp_skip ?_
        refine then_n ?_
        refine seq_ ?_
        refine wp_block ?_
        refine region_ ?_
        refine st_val (ex_move (v := (Sl.v t39)) rfl) ?_
        refine st_val (ex_move (v := (.int .i64 s8)) rfl) ?_
        refine st_val (ex_build (a' := [(0, (.string (⟨#[103, 111, 110, 101]⟩ : ByteArray)))]) (v := TShare.v (⟨(⟨#[103, 111, 110, 101]⟩ : ByteArray), 0⟩ : TShare)) rfl (e_build Try.underlying32 zero32 rfl pl32 rfl _)) ?_
        refine st_rnp (fun r => ex_indexAddr rfl rfl r) h ?_; clear h; intro t89 h
        refine st_rnu (fun r => ex_store rfl rfl r) h ?_; clear h; intro w h
        refine wl_nil ?_
        refine inb_n ?_
        refine then_n ?_
        refine region_ ?_
        refine st_val (ex_move (v := (.int .i64 s8)) rfl) ?_
        refine st_val (ex_add (a := s8) (b := 1) rfl rfl) ?_
        refine st_val (ex_assign (v := (.int .i64 (IntKind.i64.wrap (s8 + 1)))) rfl) ?_
        refine wl_nil ?_
        exact then_n ⟨(IntKind.i64.wrap (s8 + 1)), mk_upds (ae rfl (ae rfl (ae rfl (ae rfl (ae rfl (ae rfl ae0)))))), h⟩
      · rw [if_neg hc9] at h; refine cond_0 (b := (decide (s8 < (t39.n : Int)))) rfl (decide_eq_false hc9) ?_
        refine wp_exit ?_
        refine then_e ?_
        refine then_e ?_
        refine inb_e ?_
        refine then_n ?_
        refine wp_jn (σ := Bool) (fun s10 l => ∃ j, l = upds j [(6, (.bool s10))]) h ?_ ?_
        · clear h; rintro s10 _ w ⟨j, rfl⟩ h
          refine wp_ret ?_
          refine ret_1 rfl rfl ⟨s10, rfl, h⟩
        · clear h; intro k10 h
          refine region_ ?_
          refine st_val (ex_move (v := (Sl.v t34)) rfl) ?_
          refine st_val (ex_move (v := (Sl.v t2)) rfl) ?_
          refine st_val (ex_len (s := t2) Try.underlying23 rfl) ?_
          refine st_rnp (fun r => ex_slice rfl rfl rfl rfl r) h ?_; clear h; intro t93 h
          refine st_val (ex_move (v := (Sl.v t2)) rfl) ?_
          refine st_cal en20 rfl h ?_; clear h; intro t95 w h
          refine st_val (ex_move (v := (.bool t95)) rfl) ?_
          by_cases hc11 : t95 = true
          · rw [if_pos hc11] at h
            refine st_on (t := 96) (c := t95) rfl rfl hc11 ?_
            refine st_val (ex_move (v := (Sl.v t20.1)) rfl) ?_
            refine st_on (t := 96) (c := t95) rfl rfl hc11 ?_
            refine st_cal en19 rfl h ?_; clear h; intro t98 w h
            refine st_on (t := 96) (c := t95) rfl rfl hc11 ?_
            refine st_val (ex_move (v := (Sl.v t26.1)) rfl) ?_
            refine st_on (t := 96) (c := t95) rfl rfl hc11 ?_
            refine st_cal en22 rfl h ?_; clear h; intro t100 w h
            refine st_on (t := 96) (c := t95) rfl rfl hc11 ?_
            refine st_cal en20 rfl h ?_; clear h; intro t101 w h
            refine st_val (ex_pick1 (b := t95) rfl hc11 (v := (.bool t101)) rfl) ?_
            refine st_val (ex_assign (v := (.bool t101)) rfl) ?_
            refine wl_nil ?_
            exact then_n ⟨t101, _, rfl, mk_upds' (ae rfl ae0), h⟩
          · rw [if_neg hc11] at h
            refine st_off (t := 96) (c := t95) rfl rfl (Bool.eq_false_iff.2 hc11) ?_
            refine st_off (t := 96) (c := t95) rfl rfl (Bool.eq_false_iff.2 hc11) ?_
            refine st_off (t := 96) (c := t95) rfl rfl (Bool.eq_false_iff.2 hc11) ?_
            refine st_off (t := 96) (c := t95) rfl rfl (Bool.eq_false_iff.2 hc11) ?_
            refine st_off (t := 96) (c := t95) rfl rfl (Bool.eq_false_iff.2 hc11) ?_
            refine st_val (ex_pick0 (b := t95) rfl (Bool.eq_false_iff.2 hc11) (v := (.bool false)) rfl) ?_
            refine st_val (ex_assign (v := (.bool false)) rfl) ?_
            refine wl_nil ?_
            exact then_n ⟨false, _, rfl, mk_upds' (ae rfl ae0), h⟩
  · clear h; intro k1 h
    refine region_ ?_
    refine st_val (ex_move (v := (Sl.v t20.1)) rfl) ?_
    refine st_val (ex_move (v := (Sl.v t26.1)) rfl) ?_
    refine st_cal en20 rfl h ?_; clear h; intro t42 w h
    refine st_val (ex_not (b := t42) rfl) ?_
    refine st_val (ex_move (v := (.bool (!t42))) rfl) ?_
    by_cases hc2 : (!t42) = true
    · rw [if_pos hc2] at h
      refine st_off (t := 44) (c := (!t42)) rfl rfl hc2 ?_
      refine st_off (t := 44) (c := (!t42)) rfl rfl hc2 ?_
      refine st_off (t := 44) (c := (!t42)) rfl rfl hc2 ?_
      refine st_val (ex_pick1 (b := (!t42)) rfl hc2 (v := (.bool true)) rfl) ?_
      refine st_val (ex_move (v := (.bool true)) rfl) ?_
      refine st_off (t := 49) (c := true) rfl rfl (rfl : true = !false) ?_
      refine st_off (t := 49) (c := true) rfl rfl (rfl : true = !false) ?_
      refine st_off (t := 49) (c := true) rfl rfl (rfl : true = !false) ?_
      refine st_off (t := 49) (c := true) rfl rfl (rfl : true = !false) ?_
      refine st_val (ex_pick1 (b := true) rfl (rfl : true = true) (v := (.bool true)) rfl) ?_
      refine st_val (ex_move (v := (.bool true)) rfl) ?_
      refine st_off (t := 55) (c := true) rfl rfl (rfl : true = !false) ?_
      refine st_off (t := 55) (c := true) rfl rfl (rfl : true = !false) ?_
      refine st_off (t := 55) (c := true) rfl rfl (rfl : true = !false) ?_
      refine st_off (t := 55) (c := true) rfl rfl (rfl : true = !false) ?_
      refine st_off (t := 55) (c := true) rfl rfl (rfl : true = !false) ?_
      refine st_val (ex_pick1 (b := true) rfl (rfl : true = true) (v := (.bool true)) rfl) ?_
      refine st_val (ex_move (v := (.bool true)) rfl) ?_
      refine st_off (t := 62) (c := true) rfl rfl (rfl : true = !false) ?_
      refine st_off (t := 62) (c := true) rfl rfl (rfl : true = !false) ?_
      refine st_off (t := 62) (c := true) rfl rfl (rfl : true = !false) ?_
      refine st_off (t := 62) (c := true) rfl rfl (rfl : true = !false) ?_
      refine st_off (t := 62) (c := true) rfl rfl (rfl : true = !false) ?_
      refine st_off (t := 62) (c := true) rfl rfl (rfl : true = !false) ?_
      refine st_off (t := 62) (c := true) rfl rfl (rfl : true = !false) ?_
      refine st_val (ex_pick1 (b := true) rfl (rfl : true = true) (v := (.bool true)) rfl) ?_
      refine st_val (ex_move (v := (.bool true)) rfl) ?_
      refine st_off (t := 71) (c := true) rfl rfl (rfl : true = !false) ?_
      refine st_off (t := 71) (c := true) rfl rfl (rfl : true = !false) ?_
      refine st_off (t := 71) (c := true) rfl rfl (rfl : true = !false) ?_
      refine st_off (t := 71) (c := true) rfl rfl (rfl : true = !false) ?_
      refine st_off (t := 71) (c := true) rfl rfl (rfl : true = !false) ?_
      refine st_off (t := 71) (c := true) rfl rfl (rfl : true = !false) ?_
      refine st_off (t := 71) (c := true) rfl rfl (rfl : true = !false) ?_
      refine st_val (ex_pick1 (b := true) rfl (rfl : true = true) (v := (.bool true)) rfl) ?_
      refine wl_nil ?_
      exact then_n ⟨true, _, rfl, mk_upds' (ae rfl (ae rfl (ae rfl (ae rfl (ae rfl (ae rfl ae0)))))), h⟩
    · rw [if_neg hc2] at h
      refine st_on (t := 44) (c := (!t42)) rfl rfl (Bool.eq_false_iff.2 hc2) ?_
      refine st_val (ex_move (v := (.int .i64 t20.2)) rfl) ?_
      refine st_on (t := 44) (c := (!t42)) rfl rfl (Bool.eq_false_iff.2 hc2) ?_
      refine st_val (ex_move (v := (.int .i64 t26.2)) rfl) ?_
      refine st_on (t := 44) (c := (!t42)) rfl rfl (Bool.eq_false_iff.2 hc2) ?_
      refine st_val (ex_neq (a := t20.2) (b := t26.2) rfl rfl) ?_
      refine st_val (ex_pick0 (b := (!t42)) rfl (Bool.eq_false_iff.2 hc2) (v := (.bool (decide (t20.2 ≠ t26.2)))) rfl) ?_
      refine st_val (ex_move (v := (.bool (decide (t20.2 ≠ t26.2)))) rfl) ?_
      by_cases hc3 : t20.2 ≠ t26.2
      · rw [if_pos hc3] at h
        refine st_off (t := 49) (c := (decide (t20.2 ≠ t26.2))) rfl rfl (decide_eq_true hc3) ?_
        refine st_off (t := 49) (c := (decide (t20.2 ≠ t26.2))) rfl rfl (decide_eq_true hc3) ?_
        refine st_off (t := 49) (c := (decide (t20.2 ≠ t26.2))) rfl rfl (decide_eq_true hc3) ?_
        refine st_off (t := 49) (c := (decide (t20.2 ≠ t26.2))) rfl rfl (decide_eq_true hc3) ?_
        refine st_val (ex_pick1 (b := (decide (t20.2 ≠ t26.2))) rfl (decide_eq_true hc3) (v := (.bool true)) rfl) ?_
        refine st_val (ex_move (v := (.bool true)) rfl) ?_
        refine st_off (t := 55) (c := true) rfl rfl (rfl : true = !false) ?_
        refine st_off (t := 55) (c := true) rfl rfl (rfl : true = !false) ?_
        refine st_off (t := 55) (c := true) rfl rfl (rfl : true = !false) ?_
        refine st_off (t := 55) (c := true) rfl rfl (rfl : true = !false) ?_
        refine st_off (t := 55) (c := true) rfl rfl (rfl : true = !false) ?_
        refine st_val (ex_pick1 (b := true) rfl (rfl : true = true) (v := (.bool true)) rfl) ?_
        refine st_val (ex_move (v := (.bool true)) rfl) ?_
        refine st_off (t := 62) (c := true) rfl rfl (rfl : true = !false) ?_
        refine st_off (t := 62) (c := true) rfl rfl (rfl : true = !false) ?_
        refine st_off (t := 62) (c := true) rfl rfl (rfl : true = !false) ?_
        refine st_off (t := 62) (c := true) rfl rfl (rfl : true = !false) ?_
        refine st_off (t := 62) (c := true) rfl rfl (rfl : true = !false) ?_
        refine st_off (t := 62) (c := true) rfl rfl (rfl : true = !false) ?_
        refine st_off (t := 62) (c := true) rfl rfl (rfl : true = !false) ?_
        refine st_val (ex_pick1 (b := true) rfl (rfl : true = true) (v := (.bool true)) rfl) ?_
        refine st_val (ex_move (v := (.bool true)) rfl) ?_
        refine st_off (t := 71) (c := true) rfl rfl (rfl : true = !false) ?_
        refine st_off (t := 71) (c := true) rfl rfl (rfl : true = !false) ?_
        refine st_off (t := 71) (c := true) rfl rfl (rfl : true = !false) ?_
        refine st_off (t := 71) (c := true) rfl rfl (rfl : true = !false) ?_
        refine st_off (t := 71) (c := true) rfl rfl (rfl : true = !false) ?_
        refine st_off (t := 71) (c := true) rfl rfl (rfl : true = !false) ?_
        refine st_off (t := 71) (c := true) rfl rfl (rfl : true = !false) ?_
        refine st_val (ex_pick1 (b := true) rfl (rfl : true = true) (v := (.bool true)) rfl) ?_
        refine wl_nil ?_
        exact then_n ⟨true, _, rfl, mk_upds' (ae rfl (ae rfl (ae rfl (ae rfl (ae rfl (ae rfl ae0)))))), h⟩
      · rw [if_neg hc3] at h
        refine st_on (t := 49) (c := (decide (t20.2 ≠ t26.2))) rfl rfl (decide_eq_false hc3) ?_
        refine st_val (ex_move (v := (Sl.v t16)) rfl) ?_
        refine st_on (t := 49) (c := (decide (t20.2 ≠ t26.2))) rfl rfl (decide_eq_false hc3) ?_
        refine st_val (ex_move (v := (Sl.v t0)) rfl) ?_
        refine st_on (t := 49) (c := (decide (t20.2 ≠ t26.2))) rfl rfl (decide_eq_false hc3) ?_
        refine st_cal en21 rfl h ?_; clear h; intro t52 w h
        refine st_on (t := 49) (c := (decide (t20.2 ≠ t26.2))) rfl rfl (decide_eq_false hc3) ?_
        refine st_val (ex_not (b := t52) rfl) ?_
        refine st_val (ex_pick0 (b := (decide (t20.2 ≠ t26.2))) rfl (decide_eq_false hc3) (v := (.bool (!t52))) rfl) ?_
        refine st_val (ex_move (v := (.bool (!t52))) rfl) ?_
        by_cases hc4 : (!t52) = true
        · rw [if_pos hc4] at h
          refine st_off (t := 55) (c := (!t52)) rfl rfl hc4 ?_
          refine st_off (t := 55) (c := (!t52)) rfl rfl hc4 ?_
          refine st_off (t := 55) (c := (!t52)) rfl rfl hc4 ?_
          refine st_off (t := 55) (c := (!t52)) rfl rfl hc4 ?_
          refine st_off (t := 55) (c := (!t52)) rfl rfl hc4 ?_
          refine st_val (ex_pick1 (b := (!t52)) rfl hc4 (v := (.bool true)) rfl) ?_
          refine st_val (ex_move (v := (.bool true)) rfl) ?_
          refine st_off (t := 62) (c := true) rfl rfl (rfl : true = !false) ?_
          refine st_off (t := 62) (c := true) rfl rfl (rfl : true = !false) ?_
          refine st_off (t := 62) (c := true) rfl rfl (rfl : true = !false) ?_
          refine st_off (t := 62) (c := true) rfl rfl (rfl : true = !false) ?_
          refine st_off (t := 62) (c := true) rfl rfl (rfl : true = !false) ?_
          refine st_off (t := 62) (c := true) rfl rfl (rfl : true = !false) ?_
          refine st_off (t := 62) (c := true) rfl rfl (rfl : true = !false) ?_
          refine st_val (ex_pick1 (b := true) rfl (rfl : true = true) (v := (.bool true)) rfl) ?_
          refine st_val (ex_move (v := (.bool true)) rfl) ?_
          refine st_off (t := 71) (c := true) rfl rfl (rfl : true = !false) ?_
          refine st_off (t := 71) (c := true) rfl rfl (rfl : true = !false) ?_
          refine st_off (t := 71) (c := true) rfl rfl (rfl : true = !false) ?_
          refine st_off (t := 71) (c := true) rfl rfl (rfl : true = !false) ?_
          refine st_off (t := 71) (c := true) rfl rfl (rfl : true = !false) ?_
          refine st_off (t := 71) (c := true) rfl rfl (rfl : true = !false) ?_
          refine st_off (t := 71) (c := true) rfl rfl (rfl : true = !false) ?_
          refine st_val (ex_pick1 (b := true) rfl (rfl : true = true) (v := (.bool true)) rfl) ?_
          refine wl_nil ?_
          exact then_n ⟨true, _, rfl, mk_upds' (ae rfl (ae rfl (ae rfl (ae rfl (ae rfl (ae rfl ae0)))))), h⟩
        · rw [if_neg hc4] at h
          refine st_on (t := 55) (c := (!t52)) rfl rfl (Bool.eq_false_iff.2 hc4) ?_
          refine st_val (ex_move (v := (Sl.v t39)) rfl) ?_
          refine st_on (t := 55) (c := (!t52)) rfl rfl (Bool.eq_false_iff.2 hc4) ?_
          refine st_val (ex_move (v := (Sl.v t2)) rfl) ?_
          refine st_on (t := 55) (c := (!t52)) rfl rfl (Bool.eq_false_iff.2 hc4) ?_
          refine st_cal en22 rfl h ?_; clear h; intro t58 w h
          refine st_on (t := 55) (c := (!t52)) rfl rfl (Bool.eq_false_iff.2 hc4) ?_
          refine st_cal en20 rfl h ?_; clear h; intro t59 w h
          refine st_on (t := 55) (c := (!t52)) rfl rfl (Bool.eq_false_iff.2 hc4) ?_
          refine st_val (ex_not (b := t59) rfl) ?_
          refine st_val (ex_pick0 (b := (!t52)) rfl (Bool.eq_false_iff.2 hc4) (v := (.bool (!t59))) rfl) ?_
          refine st_val (ex_move (v := (.bool (!t59))) rfl) ?_
          by_cases hc5 : (!t59) = true
          · rw [if_pos hc5] at h
            refine st_off (t := 62) (c := (!t59)) rfl rfl hc5 ?_
            refine st_off (t := 62) (c := (!t59)) rfl rfl hc5 ?_
            refine st_off (t := 62) (c := (!t59)) rfl rfl hc5 ?_
            refine st_off (t := 62) (c := (!t59)) rfl rfl hc5 ?_
            refine st_off (t := 62) (c := (!t59)) rfl rfl hc5 ?_
            refine st_off (t := 62) (c := (!t59)) rfl rfl hc5 ?_
            refine st_off (t := 62) (c := (!t59)) rfl rfl hc5 ?_
            refine st_val (ex_pick1 (b := (!t59)) rfl hc5 (v := (.bool true)) rfl) ?_
            refine st_val (ex_move (v := (.bool true)) rfl) ?_
            refine st_off (t := 71) (c := true) rfl rfl (rfl : true = !false) ?_
            refine st_off (t := 71) (c := true) rfl rfl (rfl : true = !false) ?_
            refine st_off (t := 71) (c := true) rfl rfl (rfl : true = !false) ?_
            refine st_off (t := 71) (c := true) rfl rfl (rfl : true = !false) ?_
            refine st_off (t := 71) (c := true) rfl rfl (rfl : true = !false) ?_
            refine st_off (t := 71) (c := true) rfl rfl (rfl : true = !false) ?_
            refine st_off (t := 71) (c := true) rfl rfl (rfl : true = !false) ?_
            refine st_val (ex_pick1 (b := true) rfl (rfl : true = true) (v := (.bool true)) rfl) ?_
            refine wl_nil ?_
            exact then_n ⟨true, _, rfl, mk_upds' (ae rfl (ae rfl (ae rfl (ae rfl (ae rfl (ae rfl ae0)))))), h⟩
          · rw [if_neg hc5] at h
            refine st_on (t := 62) (c := (!t59)) rfl rfl (Bool.eq_false_iff.2 hc5) ?_
            refine st_val (ex_move (v := (Sl.v t34)) rfl) ?_
            refine st_on (t := 62) (c := (!t59)) rfl rfl (Bool.eq_false_iff.2 hc5) ?_
            refine st_val (ex_move (v := (Sl.v t2)) rfl) ?_
            refine st_on (t := 62) (c := (!t59)) rfl rfl (Bool.eq_false_iff.2 hc5) ?_
            refine st_val (ex_len (s := t2) Try.underlying23 rfl) ?_
            refine st_on (t := 62) (c := (!t59)) rfl rfl (Bool.eq_false_iff.2 hc5) ?_
            refine st_rnp (fun r => ex_slice rfl rfl rfl rfl r) h ?_; clear h; intro t66 h
            refine st_on (t := 62) (c := (!t59)) rfl rfl (Bool.eq_false_iff.2 hc5) ?_
            refine st_val (ex_move (v := (Sl.v t2)) rfl) ?_
            refine st_on (t := 62) (c := (!t59)) rfl rfl (Bool.eq_false_iff.2 hc5) ?_
            refine st_cal en20 rfl h ?_; clear h; intro t68 w h
            refine st_on (t := 62) (c := (!t59)) rfl rfl (Bool.eq_false_iff.2 hc5) ?_
            refine st_val (ex_not (b := t68) rfl) ?_
            refine st_val (ex_pick0 (b := (!t59)) rfl (Bool.eq_false_iff.2 hc5) (v := (.bool (!t68))) rfl) ?_
            refine st_val (ex_move (v := (.bool (!t68))) rfl) ?_
            by_cases hc6 : (!t68) = true
            · rw [if_pos hc6] at h
              refine st_off (t := 71) (c := (!t68)) rfl rfl hc6 ?_
              refine st_off (t := 71) (c := (!t68)) rfl rfl hc6 ?_
              refine st_off (t := 71) (c := (!t68)) rfl rfl hc6 ?_
              refine st_off (t := 71) (c := (!t68)) rfl rfl hc6 ?_
              refine st_off (t := 71) (c := (!t68)) rfl rfl hc6 ?_
              refine st_off (t := 71) (c := (!t68)) rfl rfl hc6 ?_
              refine st_off (t := 71) (c := (!t68)) rfl rfl hc6 ?_
              refine st_val (ex_pick1 (b := (!t68)) rfl hc6 (v := (.bool true)) rfl) ?_
              refine wl_nil ?_
              exact then_n ⟨true, _, rfl, mk_upds' (ae rfl (ae rfl (ae rfl (ae rfl (ae rfl (ae rfl ae0)))))), h⟩
            · rw [if_neg hc6] at h
              refine st_on (t := 71) (c := (!t68)) rfl rfl (Bool.eq_false_iff.2 hc6) ?_
              refine st_val (ex_move (v := (Sl.v t34)) rfl) ?_
              refine st_on (t := 71) (c := (!t68)) rfl rfl (Bool.eq_false_iff.2 hc6) ?_
              refine st_val (ex_move (v := (Sl.v t2)) rfl) ?_
              refine st_on (t := 71) (c := (!t68)) rfl rfl (Bool.eq_false_iff.2 hc6) ?_
              refine st_val (ex_len (s := t2) Try.underlying23 rfl) ?_
              refine st_on (t := 71) (c := (!t68)) rfl rfl (Bool.eq_false_iff.2 hc6) ?_
              refine st_rnp (fun r => ex_indexAddr rfl rfl r) h ?_; clear h; intro t75 h
              refine st_on (t := 71) (c := (!t68)) rfl rfl (Bool.eq_false_iff.2 hc6) ?_
              refine st_val (ex_fa fa32_0 (p := t75) rfl) ?_
              refine st_on (t := 71) (c := (!t68)) rfl rfl (Bool.eq_false_iff.2 hc6) ?_
              refine st_rn (fun r => ex_load rfl r) h ?_; clear h; intro t77 w h
              refine st_on (t := 71) (c := (!t68)) rfl rfl (Bool.eq_false_iff.2 hc6) ?_
              refine st_val (ex_neqS (a := t77) (b := (⟨#[109, 97, 114, 107]⟩ : ByteArray)) rfl rfl) ?_
              refine st_val (ex_pick0 (b := (!t68)) rfl (Bool.eq_false_iff.2 hc6) (v := (.bool (decide (t77 ≠ (⟨#[109, 97, 114, 107]⟩ : ByteArray))))) rfl) ?_
              refine wl_nil ?_
              exact then_n ⟨(decide (t77 ≠ (⟨#[109, 97, 114, 107]⟩ : ByteArray))), _, rfl, mk_upds' (ae rfl (ae rfl (ae rfl (ae rfl (ae rfl (ae rfl ae0)))))), h⟩

/-- turnpike/turnpikelaw15.twin; slots 0:l, 1:l, 3:out, 4:i, 5:r -/
def f16 (t0 : Sl) (R : (Sl) → World → Prop) (w : World) : Prop :=
  Lp (σ := Sl × Int) (fun s1 w n1 =>
    if s1.2 < (t0.n : Int) then
      RnP Try.prog Ptr (Instr.indexAt 22 (Sl.v t0) (.int .i64 s1.2)) fun t14 =>
      Rn Try.prog TResource.v (Instr.loadAt 48 (Ptr t14)) w fun t15 w =>
      New 48 (TResource.cells (⟨0, ⟨#[]⟩, Sl.nil, Sl.nil, ⟨#[]⟩, Sl.nil, ⟨#[]⟩, false⟩ : TResource)) w fun b5 w =>
      RnU Try.prog (Instr.storeAt 48 (Ptr (⟨b5, 0, none⟩ : Addr)) (TResource.v t15)) w fun w =>
      New 9 [] w fun b16 w =>
      Rn Try.prog Sl.v (Instr.loadAt 44 (Ptr ((⟨b5, 0, none⟩ : Addr).add 2))) w fun t18 w =>
      Rn Try.prog Sl.v (Builtin.append_ #[44, 44] 44 #[(Sl.v (⟨some ⟨b16, 0, none⟩, 0, 0⟩ : Sl)), (Sl.v t18)]) w fun t19 w =>
      RnU Try.prog (Instr.storeAt 44 (Ptr ((⟨b5, 0, none⟩ : Addr).add 2)) (Sl.v t19)) w fun w =>
      New 84 [] w fun b21 w =>
      Rn Try.prog Sl.v (Instr.loadAt 45 (Ptr ((⟨b5, 0, none⟩ : Addr).add 3))) w fun t23 w =>
      Rn Try.prog Sl.v (Builtin.append_ #[45, 45] 45 #[(Sl.v (⟨some ⟨b21, 0, none⟩, 0, 0⟩ : Sl)), (Sl.v t23)]) w fun t24 w =>
      RnU Try.prog (Instr.storeAt 45 (Ptr ((⟨b5, 0, none⟩ : Addr).add 3)) (Sl.v t24)) w fun w =>
      New 91 [] w fun b26 w =>
      Rn Try.prog Sl.v (Instr.loadAt 46 (Ptr ((⟨b5, 0, none⟩ : Addr).add 5))) w fun t28 w =>
      Rn Try.prog Sl.v (Builtin.append_ #[46, 46] 46 #[(Sl.v (⟨some ⟨b26, 0, none⟩, 0, 0⟩ : Sl)), (Sl.v t28)]) w fun t29 w =>
      RnU Try.prog (Instr.storeAt 46 (Ptr ((⟨b5, 0, none⟩ : Addr).add 5)) (Sl.v t29)) w fun w =>
      Rn Try.prog TResource.v (Instr.loadAt 48 (Ptr (⟨b5, 0, none⟩ : Addr))) w fun t32 w =>
      New 48 ((TResource.cells t32)) w fun b33 w =>
      Rn Try.prog Sl.v (Builtin.append_ #[22, 22] 22 #[(Sl.v s1.1), (Sl.v (⟨some ⟨b33, 0, none⟩, 1, 1⟩ : Sl))]) w fun t34 w =>
      n1 (t34, (IntKind.i64.wrap (s1.2 + 1))) w
    else
      New 48 ((TResource.cells (⟨(-77), ⟨#[]⟩, Sl.nil, Sl.nil, ⟨#[]⟩, Sl.nil, ⟨#[]⟩, false⟩ : TResource))) w fun b37 w =>
      Rn Try.prog Sl.v (Builtin.append_ #[22, 22] 22 #[(Sl.v s1.1), (Sl.v (⟨some ⟨b37, 0, none⟩, 1, 1⟩ : Sl))]) w fun t38 w =>
      RnP Try.prog Sl.v (Instr.sliceAt 22 (Sl.v t38) none (some (.int .i64 (t0.n : Int))) none) fun t42 =>
      R t42 w
  ) (Sl.nil, 0) w
theorem c16 {t0 : Sl} {R : (Sl) → World → Prop} {w : World} (h : f16 t0 R w) :
    Cal Try.prog Sl.v 16 #[(Sl.v t0)] w R := by
  unfold f16 at h
  refine calls_ Try.func16 Try.ntmps16 rfl rfl ?_
  refine seq_ ?_
  refine region_ ?_
  refine st_val (ex_assign (v := (Sl.v Sl.nil)) rfl) ?_
  refine wl_nil ?_
  refine then_n ?_
  refine seq_ ?_
  refine region_ ?_
  refine st_val (ex_assign (v := (Sl.v Sl.nil)) rfl) ?_
  refine wl_nil ?_
  refine then_n ?_
  refine seq_ ?_
  refine seq_ ?_
  refine region_ ?_
  refine st_val (ex_assign (v := (.int .i64 0)) rfl) ?_
  refine wl_nil ?_
  refine then_n ?_
  refine wp_block ?_
  refine wp_lp (σ := Sl × Int) (fun s1 a => ∃ j, a = F 43 (upds j [(0, (Sl.v t0)), (3, (Sl.v s1.1)), (4, (.int .i64 s1.2))])) h (mk_upds (ae rfl (ae rfl (ae rfl ae0)))) ?_
  clear h; rintro s1 _ w n1 ⟨j, rfl⟩ h
  refine seq_ ?_
  refine seq_ ?_
  refine region_ ?_
  refine st_val (ex_move (v := (.int .i64 s1.2)) rfl) ?_
  refine st_val (ex_move (v := (Sl.v t0)) rfl) ?_
  refine st_val (ex_len (s := t0) Try.underlying22 rfl) ?_
  refine st_val (ex_lss (a := s1.2) (b := (t0.n : Int)) rfl rfl) ?_
  refine wl_nil ?_
  refine then_n ?_
  by_cases hc2 : s1.2 < (t0.n : Int)
  · rw [if_pos hc2] at h; refine cond_1 (b := (decide (s1.2 < (t0.n : Int)))) rfl (decide_eq_true hc2) ?_
    refine wp_skip ?_
    refine then_n ?_
    refine seq_ ?_
    refine wp_block ?_
    refine seq_ ?_
    refine region_ ?_
    refine st_val (ex_move (v := (Sl.v t0)) rfl) ?_
    refine st_val (ex_move (v := (.int .i64 s1.2)) rfl) ?_
    refine st_rnp (fun r => ex_indexAddr rfl rfl r) h ?_; clear h; intro t14 h
    refine st_rn (fun r => ex_load rfl r) h ?_; clear h; intro t15 w h
    refine st_new (f := (fun b => Ptr ⟨b, 0, none⟩)) (ex_allocN zero48 rfl) h ?_; clear h; intro b5 w h
    refine st_rnu (fun r => ex_store rfl rfl r) h ?_; clear h; intro w h
    refine wl_nil ?_
    refine then_n ?_
    refine seq_ ?_
    refine region_ ?_
    refine st_new (f := (fun b => Sl.v ⟨some ⟨b, 0, none⟩, 0, 0⟩)) (ex_buildSlice (a' := []) rfl (e_buildSlice0 Try.underlying44 info9 _)) h ?_; clear h; intro b16 w h
    refine st_val (ex_fa fa48_2 (p := (⟨b5, 0, none⟩ : Addr)) rfl) ?_
    refine st_rn (fun r => ex_load rfl r) h ?_; clear h; intro t18 w h
    refine st_rn (fun r => ex_builtin rfl (fun _ => rfl) r) h ?_; clear h; intro t19 w h
    refine st_val (ex_fa fa48_2 (p := (⟨b5, 0, none⟩ : Addr)) rfl) ?_
    refine st_rnu (fun r => ex_store rfl rfl r) h ?_; clear h; intro w h
    refine wl_nil ?_
    refine then_n ?_
    refine seq_ ?_
    refine region_ ?_
    refine st_new (f := (fun b => Sl.v ⟨some ⟨b, 0, none⟩, 0, 0⟩)) (ex_buildSlice (a' := []) rfl (e_buildSlice0 Try.underlying45 info84 _)) h ?_; clear h; intro b21 w h
    refine st_val (ex_fa fa48_3 (p := (⟨b5, 0, none⟩ : Addr)) rfl) ?_
    refine st_rn (fun r => ex_load rfl r) h ?_; clear h; intro t23 w h
    refine st_rn (fun r => ex_builtin rfl (fun _ => rfl) r) h ?_; clear h; intro t24 w h
    refine st_val (ex_fa fa48_3 (p := (⟨b5, 0, none⟩ : Addr)) rfl) ?_
    refine st_rnu (fun r => ex_store rfl rfl r) h ?_; clear h; intro w h
    refine wl_nil ?_
    refine then_n ?_
    refine seq_ ?_
    refine region_ ?_
    refine st_new (f := (fun b => Sl.v ⟨some ⟨b, 0, none⟩, 0, 0⟩)) (ex_buildSlice (a' := []) rfl (e_buildSlice0 Try.underlying46 info91 _)) h ?_; clear h; intro b26 w h
    refine st_val (ex_fa fa48_5 (p := (⟨b5, 0, none⟩ : Addr)) rfl) ?_
    refine st_rn (fun r => ex_load rfl r) h ?_; clear h; intro t28 w h
    refine st_rn (fun r => ex_builtin rfl (fun _ => rfl) r) h ?_; clear h; intro t29 w h
    refine st_val (ex_fa fa48_5 (p := (⟨b5, 0, none⟩ : Addr)) rfl) ?_
    refine st_rnu (fun r => ex_store rfl rfl r) h ?_; clear h; intro w h
    refine wl_nil ?_
    refine then_n ?_
    refine region_ ?_
    refine st_val (ex_move (v := (Sl.v s1.1)) rfl) ?_
    refine st_rn (fun r => ex_load rfl r) h ?_; clear h; intro t32 w h
    refine st_new (f := (fun b => Sl.v ⟨some ⟨b, 0, none⟩, 1, 1⟩)) (ex_buildSlice (a' := [(0, (TResource.v t32))]) rfl (e_buildSlice (cs := ((TResource.cells t32))) Try.underlying22 info48 iz48 (by decide +kernel) (by decide +kernel) (by kernel_rfl) _)) h ?_; clear h; intro b33 w h
    refine st_rn (fun r => ex_builtin rfl (fun _ => rfl) r) h ?_; clear h; intro t34 w h
    refine st_val (ex_assign (v := (Sl.v t34)) rfl) ?_
    refine wl_nil ?_
    refine inb_n ?_
    refine then_n ?_
    refine region_ ?_
    refine st_val (ex_move (v := (.int .i64 s1.2)) rfl) ?_
    refine st_val (ex_add (a := s1.2) (b := 1) rfl rfl) ?_
    refine st_val (ex_assign (v := (.int .i64 (IntKind.i64.wrap (s1.2 + 1)))) rfl) ?_
    refine wl_nil ?_
    exact then_n ⟨(t34, (IntKind.i64.wrap (s1.2 + 1))), mk_upds (ae rfl (ae rfl (ae rfl ae0))), h⟩
  · rw [if_neg hc2] at h; refine cond_0 (b := (decide (s1.2 < (t0.n : Int)))) rfl (decide_eq_false hc2) ?_
    refine wp_exit ?_
    refine then_e ?_
    refine then_e ?_
    refine inb_e ?_
    refine then_n ?_
    refine seq_ ?_
    refine region_ ?_
    refine st_val (ex_move (v := (Sl.v s1.1)) rfl) ?_
    refine st_val (ex_build (a' := [(0, (.int .i64 (-77)))]) (v := TResource.v (⟨(-77), ⟨#[]⟩, Sl.nil, Sl.nil, ⟨#[]⟩, Sl.nil, ⟨#[]⟩, false⟩ : TResource)) rfl (e_build Try.underlying48 zero48 rfl pl48 rfl _)) ?_
    refine st_new (f := (fun b => Sl.v ⟨some ⟨b, 0, none⟩, 1, 1⟩)) (ex_buildSlice (a' := [(0, (TResource.v (⟨(-77), ⟨#[]⟩, Sl.nil, Sl.nil, ⟨#[]⟩, Sl.nil, ⟨#[]⟩, false⟩ : TResource)))]) rfl (e_buildSlice (cs := ((TResource.cells (⟨(-77), ⟨#[]⟩, Sl.nil, Sl.nil, ⟨#[]⟩, Sl.nil, ⟨#[]⟩, false⟩ : TResource)))) Try.underlying22 info48 iz48 (by decide +kernel) (by decide +kernel) (by kernel_rfl) _)) h ?_; clear h; intro b37 w h
    refine st_rn (fun r => ex_builtin rfl (fun _ => rfl) r) h ?_; clear h; intro t38 w h
    refine st_val (ex_assign (v := (Sl.v t38)) rfl) ?_
    refine wl_nil ?_
    refine then_n ?_
    refine seq_ ?_
    refine region_ ?_
    refine st_val (ex_move (v := (Sl.v t38)) rfl) ?_
    refine st_val (ex_move (v := (Sl.v t0)) rfl) ?_
    refine st_val (ex_len (s := t0) Try.underlying22 rfl) ?_
    refine st_rnp (fun r => ex_slice rfl rfl rfl rfl r) h ?_; clear h; intro t42 h
    refine st_val (ex_assign (v := (Sl.v t42)) rfl) ?_
    refine wl_nil ?_
    refine then_n ?_
    refine wp_ret ?_
    refine ret_1 rfl rfl ⟨t42, rfl, h⟩

/-- turnpike/tables.Shares; slots 0:conf, 1:split, 2:conf, 3:split, 6:_, 7:f -/
def f17 (t0 : Sl) (t1 : ByteArray) (R : (Sl × Int) → World → Prop) (w : World) : Prop :=
  New 9 [(.string t1)] w fun b3 w =>
  Cal Try.prog (fun x : Sl × TFault => Value.tuple #[(Sl.v x.1), (TFault.v x.2)]) 46 #[(Sl.v t0)] w fun t10 w =>
  New 80 (TFault.cells (⟨0, 0, 0⟩ : TFault)) w fun b7 w =>
  RnU Try.prog (Instr.storeAt 80 (Ptr (⟨b7, 0, none⟩ : Addr)) (TFault.v t10.2)) w fun w =>
  Rn Try.prog (Value.int .i64) (Instr.loadAt 25 (Ptr ((⟨b7, 0, none⟩ : Addr).add 2))) w fun t14 w =>
  if t14 ≠ 0 then
    Dr w fun w2 w =>
      RnL Try.prog (Value.int .i64) (Instr.loadAt 25 (Ptr ((⟨b7, 0, none⟩ : Addr).add 2))) w2 fun t17 =>
      R (Sl.nil, t17) w
  else
    Cal Try.prog Sl.v 54 #[(Sl.v t0), (.int .i64 2)] w fun t19 w =>
    Cal Try.prog Value.bool 53 #[(Sl.v t19), (Value.func (.func 55) #[] #[(Ptr (⟨b3, 0, none⟩ : Addr))])] w fun t21 w =>
    if (!t21) = true then
      R (Sl.nil, 2) w
    else
      Dr w fun w4 w =>
        RnL Try.prog Value.string (Instr.loadAt 9 (Ptr (⟨b3, 0, none⟩ : Addr))) w4 fun t25 =>
        Cal Try.prog Value.map 57 #[(Sl.v t0)] w (ExtK w fun t24 w =>
          Rn Try.prog Sl.v (Instr.lookup 97 (.map t24) (.string t25) false) w fun t26 w =>
          Cal Try.prog Sl.v 56 #[(Sl.v t26)] w fun t27 w =>
          R (t27, 0) w
        )
theorem c17 {t0 : Sl} {t1 : ByteArray} {R : (Sl × Int) → World → Prop} {w : World} (h : f17 t0 t1 R w) :
    Cal Try.prog (fun x : Sl × Int => Value.tuple #[(Sl.v x.1), (.int .i64 x.2)]) 17 #[(Sl.v t0), (.string t1)] w R := by
  unfold f17 at h
  refine calls_ Try.func17 Try.ntmps17 rfl rfl ?_
  refine seq_ ?_
  refine region_ ?_
  refine st_new (f := (fun b => Ptr ⟨b, 0, none⟩)) (ex_boxN rfl rfl) h ?_; clear h; intro b3 w h
  refine st_val (ex_assign (v := (Sl.v Sl.nil)) rfl) ?_
  refine st_val (ex_assign (v := (.int .i64 0)) rfl) ?_
  refine wl_nil ?_
  refine then_n ?_
  refine seq_ ?_
  refine seq_ ?_
  refine region_ ?_
  refine st_val (ex_move (v := (Sl.v t0)) rfl) ?_
  refine st_cal en46 rfl h ?_; clear h; intro t10 w h
  refine st_val (ex_move (v := (.tuple #[(Sl.v t10.1), (TFault.v t10.2)])) rfl) ?_
  refine st_val (ex_extract (u := (.tuple #[(Sl.v t10.1), (TFault.v t10.2)])) rfl (v := (Sl.v t10.1)) rfl) ?_
  refine st_val (ex_extract (u := (.tuple #[(Sl.v t10.1), (TFault.v t10.2)])) rfl (v := (TFault.v t10.2)) rfl) ?_
  refine st_new (f := (fun b => Ptr ⟨b, 0, none⟩)) (ex_allocN zero80 rfl) h ?_; clear h; intro b7 w h
  refine st_val (ex_assign (v := (Sl.v t10.1)) rfl) ?_
  refine st_rnu (fun r => ex_store rfl rfl r) h ?_; clear h; intro w h
  refine wl_nil ?_
  refine then_n ?_
  refine seq_ ?_
  refine region_ ?_
  refine st_val (ex_fa fa80_2 (p := (⟨b7, 0, none⟩ : Addr)) rfl) ?_
  refine st_rn (fun r => ex_load rfl r) h ?_; clear h; intro t14 w h
  refine st_val (ex_neq (a := t14) (b := 0) rfl rfl) ?_
  refine wl_nil ?_
  refine then_n ?_
  by_cases hc1 : t14 ≠ 0
  · rw [if_pos hc1] at h; refine cond_1 (b := (decide (t14 ≠ 0))) rfl (decide_eq_true hc1) ?_
    refine seq_ ?_
    refine dr_begin mixed [] (listed := #[false, false, false, false]) rfl (n := 4) rfl h ?_; clear h; intro w2 h
    have hE : Ext w2 w2 := Ext.refl _
    refine dr_takeP (i := 0) (by kernel_rfl) rfl (fun _ _ _ h => h) (fun _ => hE) (fun _ => ex_fa fa80_2 (p := (⟨b7, 0, none⟩ : Addr)) rfl) ?_
    obtain ⟨t17, ht17, h⟩ := h
    refine dr_take (i := 1) (by kernel_rfl) rfl (fun _ _ _ h => h) hE (fun _ hw => (fun r => ex_load rfl r) (ht17 _ hw)) ?_
    refine dr_takeP (i := 2) (by kernel_rfl) rfl (fun _ _ _ h => h) (fun _ => hE) (fun _ => ex_assign (v := (Sl.v Sl.nil)) rfl) ?_
    refine dr_takeP (i := 3) (by kernel_rfl) rfl (fun _ _ _ h => h) (fun _ => hE) (fun _ => ex_assign (v := (.int .i64 t17)) rfl) ?_
    refine dr_end (by kernel_rfl) ?_
    refine then_n ?_
    refine wp_ret ?_
    refine then_r ?_
    refine ret_2 rfl rfl rfl ⟨(Sl.nil, t17), rfl, h⟩
  · rw [if_neg hc1] at h; refine cond_0 (b := (decide (t14 ≠ 0))) rfl (decide_eq_false hc1) ?_
    refine wp_skip ?_
    refine then_n ?_
    refine seq_ ?_
    refine seq_ ?_
    refine region_ ?_
    refine st_val (ex_move (v := (Sl.v t0)) rfl) ?_
    refine st_cal en54 rfl h ?_; clear h; intro t19 w h
    refine st_val (ex_makeFunc rfl rfl) ?_
    refine st_cal en53 rfl h ?_; clear h; intro t21 w h
    refine st_val (ex_not (b := t21) rfl) ?_
    refine wl_nil ?_
    refine then_n ?_
    by_cases hc3 : (!t21) = true
    · rw [if_pos hc3] at h; refine cond_1 (b := (!t21)) rfl hc3 ?_
      refine seq_ ?_
      refine region_ ?_
      refine st_val (ex_assign (v := (Sl.v Sl.nil)) rfl) ?_
      refine st_val (ex_assign (v := (.int .i64 2)) rfl) ?_
      refine wl_nil ?_
      refine then_n ?_
      refine wp_ret ?_
      refine then_r ?_
      refine ret_2 rfl rfl rfl ⟨(Sl.nil, 2), rfl, h⟩
    · rw [if_neg hc3] at h; refine cond_0 (b := (!t21)) rfl (Bool.eq_false_iff.2 hc3) ?_
      refine wp_skip ?_
      refine then_n ?_
      refine seq_ ?_
      refine dr_begin mixed [3, 4] (listed := #[false, false, false, false, false, false, false]) rfl (n := 7) rfl h ?_; clear h; intro w4 h
      have hE : Ext w4 w4 := Ext.refl _
      refine dr_takeP (i := 0) (by kernel_rfl) rfl (fun _ _ _ h => h) (fun _ => hE) (fun _ => ex_move (v := (Sl.v t0)) rfl) ?_
      obtain ⟨t25, ht25, h⟩ := h
      refine dr_take (i := 2) (by kernel_rfl) rfl (fun _ _ _ h => h) hE (fun _ hw => (fun r => ex_load rfl r) (ht25 _ hw)) ?_
      refine dr_only (i := 1) (by kernel_rfl) rfl rfl ?_
      refine o_cal en57 rfl h ?_; clear h; intro t24 w h; obtain ⟨hx, h⟩ := h; replace hE := hE.trans hx; clear hx; refine ⟨fun _ => hE, ?_⟩
      refine dr_only (i := 3) (by kernel_rfl) rfl rfl ?_
      refine o_rn (fun r => ex_lookup rfl rfl r) h ?_; clear h; intro t26 w h; refine ⟨noG (by kernel_rfl), ?_⟩
      refine dr_only (i := 4) (by kernel_rfl) rfl rfl ?_
      refine o_cal en56 rfl h ?_; clear h; intro t27 w h; refine ⟨noG (by kernel_rfl), ?_⟩
      refine dr_takeP (i := 5) (by kernel_rfl) rfl (fun _ _ _ h => h) (noG (by kernel_rfl)) (fun _ => ex_assign (v := (Sl.v t27)) rfl) ?_
      refine dr_takeP (i := 6) (by kernel_rfl) rfl (fun _ _ _ h => h) (noG (by kernel_rfl)) (fun _ => ex_assign (v := (.int .i64 0)) rfl) ?_
      refine dr_end (by kernel_rfl) ?_
      refine then_n ?_
      refine wp_ret ?_
      refine ret_2 rfl rfl rfl ⟨(t27, 0), rfl, h⟩

/-- turnpike/turnpikeref15.Shares; slots 0:conf, 1:split, 2:conf, 3:split, 6:_, 7:f, 8:k, 9:at -/
def f18 (t0 : Sl) (t1 : ByteArray) (R : (Sl × Int) → World → Prop) (w : World) : Prop :=
  Cal Try.prog (fun x : Sl × TFault14 => Value.tuple #[(Sl.v x.1), (TFault14.v x.2)]) 58 #[(Sl.v t0)] w fun t12 w =>
  New 101 (TFault14.cells (⟨0, 0, 0⟩ : TFault14)) w fun b7 w =>
  RnU Try.prog (Instr.storeAt 101 (Ptr (⟨b7, 0, none⟩ : Addr)) (TFault14.v t12.2)) w fun w =>
  Rn Try.prog (Value.int .i64) (Instr.loadAt 3 (Ptr ((⟨b7, 0, none⟩ : Addr).add 2))) w fun t16 w =>
  if t16 ≠ 0 then
    Dr w fun w2 w =>
      RnL Try.prog (Value.int .i64) (Instr.loadAt 3 (Ptr ((⟨b7, 0, none⟩ : Addr).add 2))) w2 fun t19 =>
      R (Sl.nil, t19) w
  else
    Cal Try.prog Value.pointer 59 #[(Sl.v t0)] w fun t21 w =>
    Cal Try.prog (Value.int .i64) 60 #[(.pointer t21), (.string t1)] w fun t24 w =>
    if t24 < 0 then
      R (Sl.nil, 2) w
    else
      NotNil t21 fun t28 =>
      Rn Try.prog Sl.v (Instr.loadAt 107 (Ptr (t28.add 1))) w fun t30 w =>
      RnP Try.prog Ptr (Instr.indexAt 107 (Sl.v t30) (.int .i64 t24)) fun t32 =>
      Rn Try.prog Sl.v (Instr.loadAt 23 (Ptr t32)) w fun t33 w =>
      R (t33, 0) w
theorem c18 {t0 : Sl} {t1 : ByteArray} {R : (Sl × Int) → World → Prop} {w : World} (h : f18 t0 t1 R w) :
    Cal Try.prog (fun x : Sl × Int => Value.tuple #[(Sl.v x.1), (.int .i64 x.2)]) 18 #[(Sl.v t0), (.string t1)] w R := by
  unfold f18 at h
  refine calls_ Try.func18 Try.ntmps18 rfl rfl ?_
  refine seq_ ?_
  refine region_ ?_
  refine st_val (ex_assign (v := (Sl.v Sl.nil)) rfl) ?_
  refine st_val (ex_assign (v := (.int .i64 0)) rfl) ?_
  refine wl_nil ?_
  refine then_n ?_
  refine seq_ ?_
  refine region_ ?_
  refine st_val (ex_move (v := (Sl.v t0)) rfl) ?_
  refine st_cal en58 rfl h ?_; clear h; intro t12 w h
  refine st_val (ex_move (v := (.tuple #[(Sl.v t12.1), (TFault14.v t12.2)])) rfl) ?_
  refine st_val (ex_extract (u := (.tuple #[(Sl.v t12.1), (TFault14.v t12.2)])) rfl (v := (Sl.v t12.1)) rfl) ?_
  refine st_val (ex_extract (u := (.tuple #[(Sl.v t12.1), (TFault14.v t12.2)])) rfl (v := (TFault14.v t12.2)) rfl) ?_
  refine st_new (f := (fun b => Ptr ⟨b, 0, none⟩)) (ex_allocN zero101 rfl) h ?_; clear h; intro b7 w h
  refine st_val (ex_assign (v := (Sl.v t12.1)) rfl) ?_
  refine st_rnu (fun r => ex_store rfl rfl r) h ?_; clear h; intro w h
  refine wl_nil ?_
  refine then_n ?_
  refine seq_ ?_
  refine seq_ ?_
  refine region_ ?_
  refine st_val (ex_fa fa101_2 (p := (⟨b7, 0, none⟩ : Addr)) rfl) ?_
  refine st_rn (fun r => ex_load rfl r) h ?_; clear h; intro t16 w h
  refine st_val (ex_neq (a := t16) (b := 0) rfl rfl) ?_
  refine wl_nil ?_
  refine then_n ?_
  by_cases hc1 : t16 ≠ 0
  · rw [if_pos hc1] at h; refine cond_1 (b := (decide (t16 ≠ 0))) rfl (decide_eq_true hc1) ?_
    refine seq_ ?_
    refine dr_begin mixed [] (listed := #[false, false, false, false]) rfl (n := 4) rfl h ?_; clear h; intro w2 h
    have hE : Ext w2 w2 := Ext.refl _
    refine dr_takeP (i := 0) (by kernel_rfl) rfl (fun _ _ _ h => h) (fun _ => hE) (fun _ => ex_fa fa101_2 (p := (⟨b7, 0, none⟩ : Addr)) rfl) ?_
    obtain ⟨t19, ht19, h⟩ := h
    refine dr_take (i := 1) (by kernel_rfl) rfl (fun _ _ _ h => h) hE (fun _ hw => (fun r => ex_load rfl r) (ht19 _ hw)) ?_
    refine dr_takeP (i := 2) (by kernel_rfl) rfl (fun _ _ _ h => h) (fun _ => hE) (fun _ => ex_assign (v := (Sl.v Sl.nil)) rfl) ?_
    refine dr_takeP (i := 3) (by kernel_rfl) rfl (fun _ _ _ h => h) (fun _ => hE) (fun _ => ex_assign (v := (.int .i64 t19)) rfl) ?_
    refine dr_end (by kernel_rfl) ?_
    refine then_n ?_
    refine wp_ret ?_
    refine then_r ?_
    refine ret_2 rfl rfl rfl ⟨(Sl.nil, t19), rfl, h⟩
  · rw [if_neg hc1] at h; refine cond_0 (b := (decide (t16 ≠ 0))) rfl (decide_eq_false hc1) ?_
    refine wp_skip ?_
    refine then_n ?_
    refine seq_ ?_
    refine region_ ?_
    refine st_val (ex_move (v := (Sl.v t0)) rfl) ?_
    refine st_cal en59 rfl h ?_; clear h; intro t21 w h
    refine st_val (ex_assign (v := (.pointer t21)) rfl) ?_
    refine wl_nil ?_
    refine then_n ?_
    refine seq_ ?_
    refine region_ ?_
    refine st_val (ex_move (v := (.pointer t21)) rfl) ?_
    refine st_val (ex_move (v := (.string t1)) rfl) ?_
    refine st_cal en60 rfl h ?_; clear h; intro t24 w h
    refine st_val (ex_assign (v := (.int .i64 t24)) rfl) ?_
    refine wl_nil ?_
    refine then_n ?_
    refine seq_ ?_
    refine seq_ ?_
    refine region_ ?_
    refine st_val (ex_move (v := (.int .i64 t24)) rfl) ?_
    refine st_val (ex_lss (a := t24) (b := 0) rfl rfl) ?_
    refine wl_nil ?_
    refine then_n ?_
    by_cases hc3 : t24 < 0
    · rw [if_pos hc3] at h; refine cond_1 (b := (decide (t24 < 0))) rfl (decide_eq_true hc3) ?_
      refine seq_ ?_
      refine region_ ?_
      refine st_val (ex_assign (v := (Sl.v Sl.nil)) rfl) ?_
      refine st_val (ex_assign (v := (.int .i64 2)) rfl) ?_
      refine wl_nil ?_
      refine then_n ?_
      refine wp_ret ?_
      refine then_r ?_
      refine ret_2 rfl rfl rfl ⟨(Sl.nil, 2), rfl, h⟩
    · rw [if_neg hc3] at h; refine cond_0 (b := (decide (t24 < 0))) rfl (decide_eq_false hc3) ?_
      refine wp_skip ?_
      refine then_n ?_
      refine seq_ ?_
      refine region_ ?_
      refine st_val (ex_move (v := (.pointer t21)) rfl) ?_
      obtain ⟨t28, ht28, h⟩ := h
      refine st_val (ex_nilCheckP (p := t21) rfl ht28) ?_
      refine st_val (ex_fa fa109_1 (p := t28) rfl) ?_
      refine st_rn (fun r => ex_load rfl r) h ?_; clear h; intro t30 w h
      refine st_val (ex_move (v := (.int .i64 t24)) rfl) ?_
      refine st_rnp (fun r => ex_indexAddr rfl rfl r) h ?_; clear h; intro t32 h
      refine st_rn (fun r => ex_load rfl r) h ?_; clear h; intro t33 w h
      refine st_val (ex_assign (v := (Sl.v t33)) rfl) ?_
      refine st_val (ex_assign (v := (.int .i64 0)) rfl) ?_
      refine wl_nil ?_
      refine then_n ?_
      refine wp_ret ?_
      refine ret_2 rfl rfl rfl ⟨(t33, 0), rfl, h⟩

/-- turnpike/tables.Steps; slots 0:l, 1:l, 3:out, 4:sum, 5:_, 6:s -/
def f19 (t0 : Sl) (R : (Sl) → World → Prop) (w : World) : Prop :=
  Lp (σ := Sl × Nat × Int) (fun s1 w n1 =>
    if s1.2.2 < (t0.n : Int) then
      Jn (σ := Sl × Nat) (fun k3 =>
        RnP Try.prog Ptr (Instr.indexAt 23 (Sl.v t0) (.int .i64 s1.2.2)) fun t11 =>
        Rn Try.prog TShare.v (Instr.loadAt 32 (Ptr t11)) w fun t12 w =>
        New 32 (TShare.cells (⟨⟨#[]⟩, 0⟩ : TShare)) w fun b6 w =>
        RnU Try.prog (Instr.storeAt 32 (Ptr (⟨b6, 0, none⟩ : Addr)) (TShare.v t12)) w fun w =>
        Rn Try.prog (Value.float .f64) (Instr.loadAt 30 (Ptr ((⟨b6, 0, none⟩ : Addr).add 1))) w fun t14 w =>
        if (fGt t14 0) = true then
          Rn Try.prog (Value.float .f64) (Instr.loadAt 30 (Ptr ((⟨b6, 0, none⟩ : Addr).add 1))) w fun t18 w =>
          Rn Try.prog (Value.float .f64) (Op.floatArith .add .f64 s1.2.1 t18) w fun t19 w =>
          Rn Try.prog Value.string (Instr.loadAt 9 (Ptr ((⟨b6, 0, none⟩ : Addr).add 0))) w fun t22 w =>
          New 32 ((TShare.cells (⟨t22, t19⟩ : TShare))) w fun b25 w =>
          Rn Try.prog Sl.v (Builtin.append_ #[23, 23] 23 #[(Sl.v s1.1), (Sl.v (⟨some ⟨b25, 0, none⟩, 1, 1⟩ : Sl))]) w fun t26 w =>
          k3 (t26, t19) w
        else
          k3 (s1.1, s1.2.1) w
      ) fun s3 w =>
        n1 (s3.1, s3.2, (IntKind.i64.wrap (s1.2.2 + 1))) w
    else
      Jn (σ := Unit) (fun k5 =>
        if 0 < (s1.1.n : Int) then
          RnP Try.prog Ptr (Instr.indexAt 23 (Sl.v s1.1) (.int .i64 (IntKind.i64.wrap ((s1.1.n : Int) - 1)))) fun t35 =>
          RnU Try.prog (Instr.storeAt 30 (Ptr (t35.add 1)) (.float .f64 4607182418800017408)) w fun w =>
          k5 () w
        else
          k5 () w
      ) fun s5 w =>
        R s1.1 w
  ) (Sl.nil, 0, 0) w
theorem c19 {t0 : Sl} {R : (Sl) → World → Prop} {w : World} (h : f19 t0 R w) :
    Cal Try.prog Sl.v 19 #[(Sl.v t0)] w R := by
  unfold f19 at h
  refine calls_ Try.func19 Try.ntmps19 rfl rfl ?_
  refine seq_ ?_
  refine region_ ?_
  refine st_val (ex_assign (v := (Sl.v Sl.nil)) rfl) ?_
  refine wl_nil ?_
  refine then_n ?_
  refine seq_ ?_
  refine region_ ?_
  refine st_val (ex_assign (v := (Sl.v Sl.nil)) rfl) ?_
  refine wl_nil ?_
  refine then_n ?_
  refine seq_ ?_
  refine region_ ?_
  refine st_val (ex_assign (v := (.float .f64 0)) rfl) ?_
  refine wl_nil ?_
  refine then_n ?_
  refine seq_ ?_
  refine seq_ ?_
  refine region_ ?_
  refine st_val (ex_move (v := (Sl.v t0)) rfl) ?_
  refine st_val (ex_len (s := t0) Try.underlying23 rfl) ?_
  refine st_val (ex_move (v := (.int .i64 0)) rfl) ?_
  refine wl_nil ?_
  refine then_n ?_
  refine wp_block ?_
  refine wp_lp (σ := Sl × Nat × Int) (fun s1 a => ∃ j, a = F 38 (upds j [(3, (Sl.v s1.1)), (4, (.float .f64 s1.2.1)), (7, (Sl.v t0)), (8, (.int .i64 (t0.n : Int))), (9, (.int .i64 s1.2.2))])) h (mk_upds (ae rfl (ae rfl (ae rfl (ae rfl (ae rfl ae0)))))) ?_
  clear h; rintro s1 _ w n1 ⟨j, rfl⟩ h
  refine seq_ ?_
  refine region_ ?_
  refine st_val (ex_lss (a := s1.2.2) (b := (t0.n : Int)) rfl rfl) ?_
  refine wl_nil ?_
  refine then_n ?_
  refine seq_ ?_
  by_cases hc2 : s1.2.2 < (t0.n : Int)
  · rw [if_pos hc2] at h; refine cond_1 (b := (decide (s1.2.2 < (t0.n : Int)))) rfl (decide_eq_true hc2) ?_
    refine wp_skip ?_
    refine then_n ?_
    refine wp_jn (σ := Sl × Nat) (fun s3 l => ∃ j, l = upds j [(3, (Sl.v s3.1)), (4, (.float .f64 s3.2)), (7, (Sl.v t0)), (8, (.int .i64 (t0.n : Int))), (9, (.int .i64 s1.2.2))]) h ?_ ?_
    · clear h; rintro s3 _ w ⟨j, rfl⟩ h
      refine region_ ?_
      refine st_val (ex_add (a := s1.2.2) (b := 1) rfl rfl) ?_
      refine st_val (ex_move (v := (.int .i64 (IntKind.i64.wrap (s1.2.2 + 1)))) rfl) ?_
      refine wl_nil ?_
      exact then_n ⟨(s3.1, s3.2, (IntKind.i64.wrap (s1.2.2 + 1))), mk_upds (ae rfl (ae rfl (ae rfl (ae rfl (ae rfl ae0))))), h⟩
    · clear h; intro k3 h
      refine wp_block ?_
      refine seq_ ?_
      refine region_ ?_
      refine st_rnp (fun r => ex_indexAddr rfl rfl r) h ?_; clear h; intro t11 h
      refine st_rn (fun r => ex_load rfl r) h ?_; clear h; intro t12 w h
      refine st_new (f := (fun b => Ptr ⟨b, 0, none⟩)) (ex_allocN zero32 rfl) h ?_; clear h; intro b6 w h
      refine st_rnu (fun r => ex_store rfl rfl r) h ?_; clear h; intro w h
      refine wl_nil ?_
      refine then_n ?_
      refine seq_ ?_
      refine region_ ?_
      refine st_val (ex_fa fa32_1 (p := (⟨b6, 0, none⟩ : Addr)) rfl) ?_
      refine st_rn (fun r => ex_load rfl r) h ?_; clear h; intro t14 w h
      refine st_val (ex_gtrF (a := t14) (b := 0) rfl rfl) ?_
      refine wl_nil ?_
      refine then_n ?_
      by_cases hc4 : (fGt t14 0) = true
      · rw [if_pos hc4] at h; refine cond_1 (b := (fGt t14 0)) rfl hc4 ?_
        refine seq_ ?_
        refine region_ ?_
        refine st_val (ex_move (v := (.float .f64 s1.2.1)) rfl) ?_
        refine st_val (ex_fa fa32_1 (p := (⟨b6, 0, none⟩ : Addr)) rfl) ?_
        refine st_rn (fun r => ex_load rfl r) h ?_; clear h; intro t18 w h
        refine st_rn (fun r => ex_addF (a := s1.2.1) (b := t18) rfl rfl r) h ?_; clear h; intro t19 w h
        refine st_val (ex_assign (v := (.float .f64 t19)) rfl) ?_
        refine wl_nil ?_
        refine then_n ?_
        refine region_ ?_
        refine st_val (ex_move (v := (Sl.v s1.1)) rfl) ?_
        refine st_val (ex_fa fa32_0 (p := (⟨b6, 0, none⟩ : Addr)) rfl) ?_
        refine st_rn (fun r => ex_load rfl r) h ?_; clear h; intro t22 w h
        refine st_val (ex_move (v := (.float .f64 t19)) rfl) ?_
        refine st_val (ex_build (a' := [(0, (.string t22)), (1, (.float .f64 t19))]) (v := TShare.v (⟨t22, t19⟩ : TShare)) rfl (e_build Try.underlying32 zero32 rfl pl32 rfl _)) ?_
        refine st_new (f := (fun b => Sl.v ⟨some ⟨b, 0, none⟩, 1, 1⟩)) (ex_buildSlice (a' := [(0, (TShare.v (⟨t22, t19⟩ : TShare)))]) rfl (e_buildSlice (cs := ((TShare.cells (⟨t22, t19⟩ : TShare)))) Try.underlying23 info32 iz32 (by decide +kernel) (by decide +kernel) (by kernel_rfl) _)) h ?_; clear h; intro b25 w h
        refine st_rn (fun r => ex_builtin rfl (fun _ => rfl) r) h ?_; clear h; intro t26 w h
        refine st_val (ex_assign (v := (Sl.v t26)) rfl) ?_
        refine wl_nil ?_
        refine inb_n ?_
        exact then_n ⟨(t26, t19), _, rfl, mk_upds' (ae rfl (ae rfl (ae rfl (ae rfl (ae rfl ae0))))), h⟩
      · rw [if_neg hc4] at h; refine cond_0 (b := (fGt t14 0)) rfl (Bool.eq_false_iff.2 hc4) ?_
        refine wp_skip ?_
        refine inb_n ?_
        exact then_n ⟨(s1.1, s1.2.1), _, rfl, mk_upds' (ae rfl (ae rfl (ae rfl (ae rfl (ae rfl ae0))))), h⟩
  · rw [if_neg hc2] at h; refine cond_0 (b := (decide (s1.2.2 < (t0.n : Int)))) rfl (decide_eq_false hc2) ?_
    refine wp_exit ?_
    refine then_e ?_
    refine then_e ?_
    refine inb_e ?_
    refine then_n ?_
    refine wp_jn (σ := Unit) (fun s5 l => ∃ j, l = upds j [(3, (Sl.v s1.1))]) h ?_ ?_
    · clear h; rintro s5 _ w ⟨j, rfl⟩ h
      refine seq_ ?_
      refine region_ ?_
      refine st_val (ex_move (v := (Sl.v s1.1)) rfl) ?_
      refine st_val (ex_assign (v := (Sl.v s1.1)) rfl) ?_
      refine wl_nil ?_
      refine then_n ?_
      refine wp_ret ?_
      refine ret_1 rfl rfl ⟨s1.1, rfl, h⟩
    · clear h; intro k5 h
      refine seq_ ?_
      refine region_ ?_
      refine st_val (ex_move (v := (Sl.v s1.1)) rfl) ?_
      refine st_val (ex_len (s := s1.1) Try.underlying23 rfl) ?_
      refine st_val (ex_gtr (a := (s1.1.n : Int)) (b := 0) rfl rfl) ?_
      refine wl_nil ?_
      refine then_n ?_
      by_cases hc6 : 0 < (s1.1.n : Int)
      · rw [if_pos hc6] at h; refine cond_1 (b := (decide (0 < (s1.1.n : Int)))) rfl (decide_eq_true hc6) ?_
        refine region_ ?_
        refine st_val (ex_move (v := (Sl.v s1.1)) rfl) ?_
        refine st_val (ex_move (v := (Sl.v s1.1)) rfl) ?_
        refine st_val (ex_len (s := s1.1) Try.underlying23 rfl) ?_
        refine st_val (ex_sub (a := (s1.1.n : Int)) (b := 1) rfl rfl) ?_
        refine st_rnp (fun r => ex_indexAddr rfl rfl r) h ?_; clear h; intro t35 h
        refine st_val (ex_fa fa32_1 (p := t35) rfl) ?_
        refine st_rnu (fun r => ex_store rfl rfl r) h ?_; clear h; intro w h
        refine wl_nil ?_
        exact then_n ⟨(), _, rfl, mk_upds' (ae rfl ae0), h⟩
      · rw [if_neg hc6] at h; refine cond_0 (b := (decide (0 < (s1.1.n : Int)))) rfl (decide_eq_false hc6) ?_
        refine wp_skip ?_
        exact then_n ⟨(), _, rfl, mk_upds' (ae rfl ae0), h⟩

/-- turnpike/turnpikelaw15.shares; slots 0:a, 1:b, 2:a, 3:b, 5:i -/
def f20 (t0 : Sl) (t1 : Sl) (R : (Bool) → World → Prop) (w : World) : Prop :=
  if (t0.n : Int) ≠ (t1.n : Int) then
    R false w
  else
    Lp (σ := Int) (fun s2 w n2 =>
      if s2 < (t0.n : Int) then
        Jn (σ := Bool) (fun k4 =>
          Dr w fun w5 w =>
            RnP Try.prog Ptr (Instr.indexAt 23 (Sl.v t0) (.int .i64 s2)) fun t19 =>
            RnL Try.prog Value.string (Instr.loadAt 9 (Ptr (t19.add 0))) w5 fun t21 =>
            RnP Try.prog Ptr (Instr.indexAt 23 (Sl.v t1) (.int .i64 s2)) fun t24 =>
            RnL Try.prog Value.string (Instr.loadAt 9 (Ptr (t24.add 0))) w5 fun t26 =>
            if t21 ≠ t26 then
              k4 true w
            else
              RnP Try.prog Ptr (Instr.indexAt 23 (Sl.v t0) (.int .i64 s2)) fun t31 =>
              RnL Try.prog (Value.float .f64) (Instr.loadAt 30 (Ptr (t31.add 1))) w5 fun t33 =>
              RnP Try.prog Ptr (Instr.indexAt 23 (Sl.v t1) (.int .i64 s2)) fun t36 =>
              RnL Try.prog (Value.float .f64) (Instr.loadAt 30 (Ptr (t36.add 1))) w5 fun t38 =>
              Cal Try.prog Value.bool 61 #[(.float .f64 t33), (.float .f64 t38)] w fun t39 w =>
              k4 (!t39) w
        ) fun s4 w =>
          if s4 = true then
            R false w
          else
            n2 (IntKind.i64.wrap (s2 + 1)) w
      else
        R true w
    ) 0 w
theorem c20 {t0 : Sl} {t1 : Sl} {R : (Bool) → World → Prop} {w : World} (h : f20 t0 t1 R w) :
    Cal Try.prog Value.bool 20 #[(Sl.v t0), (Sl.v t1)] w R := by
  unfold f20 at h
  refine calls_ Try.func20 Try.ntmps20 rfl rfl ?_
  refine seq_ ?_
  refine region_ ?_
  refine st_val (ex_assign (v := (.bool false)) rfl) ?_
  refine wl_nil ?_
  refine then_n ?_
  refine seq_ ?_
  refine seq_ ?_
  refine region_ ?_
  refine st_val (ex_move (v := (Sl.v t0)) rfl) ?_
  refine st_val (ex_len (s := t0) Try.underlying23 rfl) ?_
  refine st_val (ex_move (v := (Sl.v t1)) rfl) ?_
  refine st_val (ex_len (s := t1) Try.underlying23 rfl) ?_
  refine st_val (ex_neq (a := (t0.n : Int)) (b := (t1.n : Int)) rfl rfl) ?_
  refine wl_nil ?_
  refine then_n ?_
  by_cases hc1 : (t0.n : Int) ≠ (t1.n : Int)
  · rw [if_pos hc1] at h; refine cond_1 (b := (decide ((t0.n : Int) ≠ (t1.n : Int)))) rfl (decide_eq_true hc1) ?_
    refine seq_ ?_
    refine region_ ?_
    refine st_val (ex_assign (v := (.bool false)) rfl) ?_
    refine wl_nil ?_
    refine then_n ?_
    refine wp_ret ?_
    refine then_r ?_
    refine ret_1 rfl rfl ⟨false, rfl, h⟩
  · rw [if_neg hc1] at h; refine cond_0 (b := (decide ((t0.n : Int) ≠ (t1.n : Int)))) rfl (decide_eq_false hc1) ?_
    refine wp_skip ?_
    refine then_n ?_
    refine seq_ ?_
    refine seq_ ?_
    refine region_ ?_
    refine st_val (ex_assign (v := (.int .i64 0)) rfl) ?_
    refine wl_nil ?_
    refine then_n ?_
    refine wp_block ?_
    refine wp_lp (σ := Int) (fun s2 a => ∃ j, a = F 42 (upds j [(0, (Sl.v t0)), (1, (Sl.v t1)), (5, (.int .i64 s2))])) h (mk_upds (ae rfl (ae rfl (ae rfl ae0)))) ?_
    clear h; rintro s2 _ w n2 ⟨j, rfl⟩ h
    refine seq_ ?_
    refine seq_ ?_
    refine region_ ?_
    refine st_val (ex_move (v := (.int .i64 s2)) rfl) ?_
    refine st_val (ex_move (v := (Sl.v t0)) rfl) ?_
    refine st_val (ex_len (s := t0) Try.underlying23 rfl) ?_
    refine st_val (ex_lss (a := s2) (b := (t0.n : Int)) rfl rfl) ?_
    refine wl_nil ?_
    refine then_n ?_
    by_cases hc3 : s2 < (t0.n : Int)
    · rw [if_pos hc3] at h; refine cond_1 (b := (decide (s2 < (t0.n : Int)))) rfl (decide_eq_true hc3) ?_
      refine wp_skip ?_
      refine then_n ?_
      refine seq_ ?_
      refine wp_block ?_
      refine wp_jn (σ := Bool) (fun s4 l => ∃ j, l = upds j [(0, (Sl.v t0)), (1, (Sl.v t1)), (5, (.int .i64 s2)), (41, (.bool s4))]) h ?_ ?_
      · clear h; rintro s4 _ w ⟨j, rfl⟩ h
        by_cases hc7 : s4 = true
        · rw [if_pos hc7] at h; refine cond_1 (b := s4) rfl hc7 ?_
          refine seq_ ?_
          refine region_ ?_
          refine st_val (ex_assign (v := (.bool false)) rfl) ?_
          refine wl_nil ?_
          refine then_n ?_
          refine wp_ret ?_
          refine inb_r ?_
          refine then_r ?_
          refine then_r ?_
          refine inb_r ?_
          refine then_r ?_
          refine ret_1 rfl rfl ⟨false, rfl, h⟩
        · rw [if_neg hc7] at h; refine cond_0 (b := s4) rfl (Bool.eq_false_iff.2 hc7) ?_
          refine wp_skip ?_
          refine inb_n ?_
          refine then_n ?_
          refine region_ ?_
          refine st_val (ex_move (v := (.int .i64 s2)) rfl) ?_
          refine st_val (ex_add (a := s2) (b := 1) rfl rfl) ?_
          refine st_val (ex_assign (v := (.int .i64 (IntKind.i64.wrap (s2 + 1)))) rfl) ?_
          refine wl_nil ?_
          exact then_n ⟨(IntKind.i64.wrap (s2 + 1)), mk_upds (ae rfl (ae rfl (ae rfl ae0))), h⟩
      · clear h; intro k4 h
        refine dr_begin mixed [22] (listed := #[false, false, false, false, false, false, false, false, false, false, false, false, false, false, false, false, false, false, false, false, false, false, false, false, false]) rfl (n := 25) rfl h ?_; clear h; intro w5 h
        have hE : Ext w5 w5 := Ext.refl _
        refine dr_takeP (i := 0) (by kernel_rfl) rfl (fun _ _ _ h => h) (fun _ => hE) (fun _ => ex_move (v := (Sl.v t0)) rfl) ?_
        refine dr_takeP (i := 1) (by kernel_rfl) rfl (fun _ _ _ h => h) (fun _ => hE) (fun _ => ex_move (v := (.int .i64 s2)) rfl) ?_
        obtain ⟨t19, ht19, h⟩ := h
        refine dr_takeP (i := 2) (by kernel_rfl) rfl (fun _ _ _ h => h) (fun _ => hE) (fun _ => (fun r => ex_indexAddr rfl rfl r) (ht19 _)) ?_
        refine dr_takeP (i := 3) (by kernel_rfl) rfl (fun _ _ _ h => h) (fun _ => hE) (fun _ => ex_fa fa32_0 (p := t19) rfl) ?_
        obtain ⟨t21, ht21, h⟩ := h
        refine dr_take (i := 4) (by kernel_rfl) rfl (fun _ _ _ h => h) hE (fun _ hw => (fun r => ex_load rfl r) (ht21 _ hw)) ?_
        refine dr_takeP (i := 5) (by kernel_rfl) rfl (fun _ _ _ h => h) (fun _ => hE) (fun _ => ex_move (v := (Sl.v t1)) rfl) ?_
        refine dr_takeP (i := 6) (by kernel_rfl) rfl (fun _ _ _ h => h) (fun _ => hE) (fun _ => ex_move (v := (.int .i64 s2)) rfl) ?_
        obtain ⟨t24, ht24, h⟩ := h
        refine dr_takeP (i := 7) (by kernel_rfl) rfl (fun _ _ _ h => h) (fun _ => hE) (fun _ => (fun r => ex_indexAddr rfl rfl r) (ht24 _)) ?_
        refine dr_takeP (i := 8) (by kernel_rfl) rfl (fun _ _ _ h => h) (fun _ => hE) (fun _ => ex_fa fa32_0 (p := t24) rfl) ?_
        obtain ⟨t26, ht26, h⟩ := h
        refine dr_take (i := 9) (by kernel_rfl) rfl (fun _ _ _ h => h) hE (fun _ hw => (fun r => ex_load rfl r) (ht26 _ hw)) ?_
        refine dr_takeP (i := 10) (by kernel_rfl) rfl (fun _ _ _ h => h) (fun _ => hE) (fun _ => ex_neqS (a := t21) (b := t26) rfl rfl) ?_
        refine dr_takeP (i := 11) (by kernel_rfl) rfl (fun _ _ _ h => h) (fun _ => hE) (fun _ => ex_move (v := (.bool (decide (t21 ≠ t26)))) rfl) ?_
        by_cases hc6 : t21 ≠ t26
        · rw [if_pos hc6] at h
          refine dr_take_off (i := 12) (t := 28) (c := (decide (t21 ≠ t26))) (by kernel_rfl) rfl rfl rfl (decide_eq_true hc6) (fun _ _ _ h => h) (fun _ => hE) ?_
          refine dr_take_off (i := 13) (t := 28) (c := (decide (t21 ≠ t26))) (by kernel_rfl) rfl rfl rfl (decide_eq_true hc6) (fun _ _ _ h => h) (fun _ => hE) ?_
          refine dr_take_off (i := 14) (t := 28) (c := (decide (t21 ≠ t26))) (by kernel_rfl) rfl rfl rfl (decide_eq_true hc6) (fun _ _ _ h => h) (fun _ => hE) ?_
          refine dr_take_off (i := 15) (t := 28) (c := (decide (t21 ≠ t26))) (by kernel_rfl) rfl rfl rfl (decide_eq_true hc6) (fun _ _ _ h => h) (fun _ => hE) ?_
          refine dr_take_off (i := 16) (t := 28) (c := (decide (t21 ≠ t26))) (by kernel_rfl) rfl rfl rfl (decide_eq_true hc6) (fun _ _ _ h => h) (fun _ => hE) ?_
          refine dr_take_off (i := 17) (t := 28) (c := (decide (t21 ≠ t26))) (by kernel_rfl) rfl rfl rfl (decide_eq_true hc6) (fun _ _ _ h => h) (fun _ => hE) ?_
          refine dr_take_off (i := 18) (t := 28) (c := (decide (t21 ≠ t26))) (by kernel_rfl) rfl rfl rfl (decide_eq_true hc6) (fun _ _ _ h => h) (fun _ => hE) ?_
          refine dr_take_off (i := 19) (t := 28) (c := (decide (t21 ≠ t26))) (by kernel_rfl) rfl rfl rfl (decide_eq_true hc6) (fun _ _ _ h => h) (fun _ => hE) ?_
          refine dr_take_off (i := 20) (t := 28) (c := (decide (t21 ≠ t26))) (by kernel_rfl) rfl rfl rfl (decide_eq_true hc6) (fun _ _ _ h => h) (fun _ => hE) ?_
          refine dr_take_off (i := 21) (t := 28) (c := (decide (t21 ≠ t26))) (by kernel_rfl) rfl rfl rfl (decide_eq_true hc6) (fun _ _ _ h => h) (fun _ => hE) ?_
          refine dr_only_off (i := 22) (t := 28) (c := (decide (t21 ≠ t26))) (by kernel_rfl) rfl rfl rfl (decide_eq_true hc6) (fun _ => hE) ?_
          refine dr_take_off (i := 23) (t := 28) (c := (decide (t21 ≠ t26))) (by kernel_rfl) rfl rfl rfl (decide_eq_true hc6) (fun _ _ _ h => h) (noG (by kernel_rfl)) ?_
          refine dr_takeP (i := 24) (by kernel_rfl) rfl (fun _ _ _ h => h) (noG (by kernel_rfl)) (fun _ => ex_pick1 (b := (decide (t21 ≠ t26))) rfl (decide_eq_true hc6) (v := (.bool true)) rfl) ?_
          refine dr_end (by kernel_rfl) ?_
          exact then_n ⟨true, _, rfl, mk_upds' (ae rfl (ae rfl (ae rfl (ae rfl ae0)))), h⟩
        · rw [if_neg hc6] at h
          refine dr_takeP_on (i := 12) (t := 28) (c := (decide (t21 ≠ t26))) (by kernel_rfl) rfl rfl rfl (decide_eq_false hc6) (fun _ _ _ h => h) (fun _ => hE) (fun _ => ex_move (v := (Sl.v t0)) rfl) ?_
          refine dr_takeP_on (i := 13) (t := 28) (c := (decide (t21 ≠ t26))) (by kernel_rfl) rfl rfl rfl (decide_eq_false hc6) (fun _ _ _ h => h) (fun _ => hE) (fun _ => ex_move (v := (.int .i64 s2)) rfl) ?_
          obtain ⟨t31, ht31, h⟩ := h
          refine dr_takeP_on (i := 14) (t := 28) (c := (decide (t21 ≠ t26))) (by kernel_rfl) rfl rfl rfl (decide_eq_false hc6) (fun _ _ _ h => h) (fun _ => hE) (fun _ => (fun r => ex_indexAddr rfl rfl r) (ht31 _)) ?_
          refine dr_takeP_on (i := 15) (t := 28) (c := (decide (t21 ≠ t26))) (by kernel_rfl) rfl rfl rfl (decide_eq_false hc6) (fun _ _ _ h => h) (fun _ => hE) (fun _ => ex_fa fa32_1 (p := t31) rfl) ?_
          obtain ⟨t33, ht33, h⟩ := h
          refine dr_take_on (i := 16) (t := 28) (c := (decide (t21 ≠ t26))) (by kernel_rfl) rfl rfl rfl (decide_eq_false hc6) (fun _ _ _ h => h) hE (fun _ hw => (fun r => ex_load rfl r) (ht33 _ hw)) ?_
          refine dr_takeP_on (i := 17) (t := 28) (c := (decide (t21 ≠ t26))) (by kernel_rfl) rfl rfl rfl (decide_eq_false hc6) (fun _ _ _ h => h) (fun _ => hE) (fun _ => ex_move (v := (Sl.v t1)) rfl) ?_
          refine dr_takeP_on (i := 18) (t := 28) (c := (decide (t21 ≠ t26))) (by kernel_rfl) rfl rfl rfl (decide_eq_false hc6) (fun _ _ _ h => h) (fun _ => hE) (fun _ => ex_move (v := (.int .i64 s2)) rfl) ?_
          obtain ⟨t36, ht36, h⟩ := h
          refine dr_takeP_on (i := 19) (t := 28) (c := (decide (t21 ≠ t26))) (by kernel_rfl) rfl rfl rfl (decide_eq_false hc6) (fun _ _ _ h => h) (fun _ => hE) (fun _ => (fun r => ex_indexAddr rfl rfl r) (ht36 _)) ?_
          refine dr_takeP_on (i := 20) (t := 28) (c := (decide (t21 ≠ t26))) (by kernel_rfl) rfl rfl rfl (decide_eq_false hc6) (fun _ _ _ h => h) (fun _ => hE) (fun _ => ex_fa fa32_1 (p := t36) rfl) ?_
          obtain ⟨t38, ht38, h⟩ := h
          refine dr_take_on (i := 21) (t := 28) (c := (decide (t21 ≠ t26))) (by kernel_rfl) rfl rfl rfl (decide_eq_false hc6) (fun _ _ _ h => h) hE (fun _ hw => (fun r => ex_load rfl r) (ht38 _ hw)) ?_
          refine dr_only_on (i := 22) (t := 28) (c := (decide (t21 ≠ t26))) (by kernel_rfl) rfl rfl rfl (decide_eq_false hc6) ?_
          refine o_cal en61 rfl h ?_; clear h; intro t39 w h; refine ⟨noG (by kernel_rfl), ?_⟩
          refine dr_takeP_on (i := 23) (t := 28) (c := (decide (t21 ≠ t26))) (by kernel_rfl) rfl rfl rfl (decide_eq_false hc6) (fun _ _ _ h => h) (noG (by kernel_rfl)) (fun _ => ex_not (b := t39) rfl) ?_
          refine dr_takeP (i := 24) (by kernel_rfl) rfl (fun _ _ _ h => h) (noG (by kernel_rfl)) (fun _ => ex_pick0 (b := (decide (t21 ≠ t26))) rfl (decide_eq_false hc6) (v := (.bool (!t39))) rfl) ?_
          refine dr_end (by kernel_rfl) ?_
          exact then_n ⟨(!t39), _, rfl, mk_upds' (ae rfl (ae rfl (ae rfl (ae rfl ae0)))), h⟩
    · rw [if_neg hc3] at h; refine cond_0 (b := (decide (s2 < (t0.n : Int)))) rfl (decide_eq_false hc3) ?_
      refine wp_exit ?_
      refine then_e ?_
      refine then_e ?_
      refine inb_e ?_
      refine then_n ?_
      refine seq_ ?_
      refine region_ ?_
      refine st_val (ex_assign (v := (.bool true)) rfl) ?_
      refine wl_nil ?_
      refine then_n ?_
      refine wp_ret ?_
      refine ret_1 rfl rfl ⟨true, rfl, h⟩

/-- turnpike/turnpikelaw15.stay; slots 0:given, 1:l, 2:given, 3:l, 5:i, 6:ok -/
def f21 (t0 : Sl) (t1 : Sl) (R : (Bool) → World → Prop) (w : World) : Prop :=
  Jn (σ := Bool) (fun k1 =>
    if (t0.n : Int) ≠ (t1.n : Int) then
      k1 true w
    else
      RnP Try.prog Sl.v (Instr.sliceAt 22 (Sl.v t0) none (some (.int .i64 (IntKind.i64.wrap ((t1.n : Int) + 1)))) none) fun t17 =>
      RnP Try.prog Ptr (Instr.indexAt 22 (Sl.v t17) (.int .i64 (t1.n : Int))) fun t20 =>
      Rn Try.prog (Value.int .i64) (Instr.loadAt 3 (Ptr (t20.add 0))) w fun t22 w =>
      k1 (decide (t22 ≠ (-77))) w
  ) fun s1 w =>
    if s1 = true then
      R false w
    else
      Lp (σ := Int) (fun s4 w n4 =>
        if s4 < (t1.n : Int) then
          Dr w fun w6 w =>
            RnP Try.prog Ptr (Instr.indexAt 22 (Sl.v t0) (.int .i64 s4)) fun t33 =>
            RnL Try.prog TResource.v (Instr.loadAt 48 (Ptr t33)) w6 fun t34 =>
            RnP Try.prog Ptr (Instr.indexAt 22 (Sl.v t1) (.int .i64 s4)) fun t37 =>
            RnL Try.prog TResource.v (Instr.loadAt 48 (Ptr t37)) w6 fun t38 =>
            Cal Try.prog Value.bool 62 #[(TResource.v t34), (TResource.v t38)] w fun t39 w =>
            if (!t39) = true then
              R false w
            else
              n4 (IntKind.i64.wrap (s4 + 1)) w
        else
          R true w
      ) 0 w
theorem c21 {t0 : Sl} {t1 : Sl} {R : (Bool) → World → Prop} {w : World} (h : f21 t0 t1 R w) :
    Cal Try.prog Value.bool 21 #[(Sl.v t0), (Sl.v t1)] w R := by
  unfold f21 at h
  refine calls_ Try.func21 Try.ntmps21 rfl rfl ?_
  refine seq_ ?_
  refine region_ ?_
  refine st_val (ex_assign (v := (.bool false)) rfl) ?_
  refine wl_nil ?_
  refine then_n ?_
  refine seq_ ?_
  refine wp_jn (σ := Bool) (fun s1 l => ∃ j, l = upds j [(0, (Sl.v t0)), (1, (Sl.v t1)), (24, (.bool s1))]) h ?_ ?_
  · clear h; rintro s1 _ w ⟨j, rfl⟩ h
    by_cases hc3 : s1 = true
    · rw [if_pos hc3] at h; refine cond_1 (b := s1) rfl hc3 ?_
      refine seq_ ?_
      refine region_ ?_
      refine st_val (ex_assign (v := (.bool false)) rfl) ?_
      refine wl_nil ?_
      refine then_n ?_
      refine wp_ret ?_
      refine then_r ?_
      refine ret_1 rfl rfl ⟨false, rfl, h⟩
    · rw [if_neg hc3] at h; refine cond_0 (b := s1) rfl (Bool.eq_false_iff.2 hc3) ?_
      refine wp_skip ?_
      refine then_n ?_
      refine seq_ ?_
      refine seq_ ?_
      refine region_ ?_
      refine st_val (ex_assign (v := (.int .i64 0)) rfl) ?_
      refine wl_nil ?_
      refine then_n ?_
      refine wp_block ?_
      refine wp_lp (σ := Int) (fun s4 a => ∃ j, a = F 42 (upds j [(0, (Sl.v t0)), (1, (Sl.v t1)), (5, (.int .i64 s4))])) h (mk_upds (ae rfl (ae rfl (ae rfl ae0)))) ?_
      clear h; rintro s4 _ w n4 ⟨j, rfl⟩ h
      refine seq_ ?_
      refine seq_ ?_
      refine region_ ?_
      refine st_val (ex_move (v := (.int .i64 s4)) rfl) ?_
      refine st_val (ex_move (v := (Sl.v t1)) rfl) ?_
      refine st_val (ex_len (s := t1) Try.underlying22 rfl) ?_
      refine st_val (ex_lss (a := s4) (b := (t1.n : Int)) rfl rfl) ?_
      refine wl_nil ?_
      refine then_n ?_
      by_cases hc5 : s4 < (t1.n : Int)
      · rw [if_pos hc5] at h; refine cond_1 (b := (decide (s4 < (t1.n : Int)))) rfl (decide_eq_true hc5) ?_
        refine wp_skip ?_
        refine then_n ?_
        refine seq_ ?_
        refine wp_block ?_
        refine seq_ ?_
        refine dr_begin mixed [8] (listed := #[false, false, false, false, false, false, false, false, false, false]) rfl (n := 10) rfl h ?_; clear h; intro w6 h
        have hE : Ext w6 w6 := Ext.refl _
        refine dr_takeP (i := 0) (by kernel_rfl) rfl (fun _ _ _ h => h) (fun _ => hE) (fun _ => ex_move (v := (Sl.v t0)) rfl) ?_
        refine dr_takeP (i := 1) (by kernel_rfl) rfl (fun _ _ _ h => h) (fun _ => hE) (fun _ => ex_move (v := (.int .i64 s4)) rfl) ?_
        obtain ⟨t33, ht33, h⟩ := h
        refine dr_takeP (i := 2) (by kernel_rfl) rfl (fun _ _ _ h => h) (fun _ => hE) (fun _ => (fun r => ex_indexAddr rfl rfl r) (ht33 _)) ?_
        obtain ⟨t34, ht34, h⟩ := h
        refine dr_take (i := 3) (by kernel_rfl) rfl (fun _ _ _ h => h) hE (fun _ hw => (fun r => ex_load rfl r) (ht34 _ hw)) ?_
        refine dr_takeP (i := 4) (by kernel_rfl) rfl (fun _ _ _ h => h) (fun _ => hE) (fun _ => ex_move (v := (Sl.v t1)) rfl) ?_
        refine dr_takeP (i := 5) (by kernel_rfl) rfl (fun _ _ _ h => h) (fun _ => hE) (fun _ => ex_move (v := (.int .i64 s4)) rfl) ?_
        obtain ⟨t37, ht37, h⟩ := h
        refine dr_takeP (i := 6) (by kernel_rfl) rfl (fun _ _ _ h => h) (fun _ => hE) (fun _ => (fun r => ex_indexAddr rfl rfl r) (ht37 _)) ?_
        obtain ⟨t38, ht38, h⟩ := h
        refine dr_take (i := 7) (by kernel_rfl) rfl (fun _ _ _ h => h) hE (fun _ hw => (fun r => ex_load rfl r) (ht38 _ hw)) ?_
        refine dr_only (i := 8) (by kernel_rfl) rfl rfl ?_
        refine o_cal en62 rfl h ?_; clear h; intro t39 w h; refine ⟨noG (by kernel_rfl), ?_⟩
        refine dr_takeP (i := 9) (by kernel_rfl) rfl (fun _ _ _ h => h) (noG (by kernel_rfl)) (fun _ => ex_assign (v := (.bool t39)) rfl) ?_
        refine dr_end (by kernel_rfl) ?_
        refine then_n ?_
        refine seq_ ?_
        refine region_ ?_
        refine st_val (ex_move (v := (.bool t39)) rfl) ?_
        refine st_val (ex_not (b := t39) rfl) ?_
        refine wl_nil ?_
        refine then_n ?_
        by_cases hc7 : (!t39) = true
        · rw [if_pos hc7] at h; refine cond_1 (b := (!t39)) rfl hc7 ?_
          refine seq_ ?_
          refine region_ ?_
          refine st_val (ex_assign (v := (.bool false)) rfl) ?_
          refine wl_nil ?_
          refine then_n ?_
          refine wp_ret ?_
          refine inb_r ?_
          refine then_r ?_
          refine then_r ?_
          refine inb_r ?_
          refine then_r ?_
          refine ret_1 rfl rfl ⟨false, rfl, h⟩
        · rw [if_neg hc7] at h; refine cond_0 (b := (!t39)) rfl (Bool.eq_false_iff.2 hc7) ?_
          refine wp_skip ?_
          refine inb_n ?_
          refine then_n ?_
          refine region_ ?_
          refine st_val (ex_move (v := (.int .i64 s4)) rfl) ?_
          refine st_val (ex_add (a := s4) (b := 1) rfl rfl) ?_
          refine st_val (ex_assign (v := (.int .i64 (IntKind.i64.wrap (s4 + 1)))) rfl) ?_
          refine wl_nil ?_
          exact then_n ⟨(IntKind.i64.wrap (s4 + 1)), mk_upds (ae rfl (ae rfl (ae rfl ae0))), h⟩
      · rw [if_neg hc5] at h; refine cond_0 (b := (decide (s4 < (t1.n : Int)))) rfl (decide_eq_false hc5) ?_
        refine wp_exit ?_
        refine then_e ?_
        refine then_e ?_
        refine inb_e ?_
        refine then_n ?_
        refine seq_ ?_
        refine region_ ?_
        refine st_val (ex_assign (v := (.bool true)) rfl) ?_
        refine wl_nil ?_
        refine then_n ?_
        refine wp_ret ?_
        refine ret_1 rfl rfl ⟨true, rfl, h⟩
  · clear h; intro k1 h
    refine region_ ?_
    refine st_val (ex_move (v := (Sl.v t0)) rfl) ?_
    refine st_val (ex_len (s := t0) Try.underlying22 rfl) ?_
    refine st_val (ex_move (v := (Sl.v t1)) rfl) ?_
    refine st_val (ex_len (s := t1) Try.underlying22 rfl) ?_
    refine st_val (ex_neq (a := (t0.n : Int)) (b := (t1.n : Int)) rfl rfl) ?_
    refine st_val (ex_move (v := (.bool (decide ((t0.n : Int) ≠ (t1.n : Int))))) rfl) ?_
    by_cases hc2 : (t0.n : Int) ≠ (t1.n : Int)
    · rw [if_pos hc2] at h
      refine st_off (t := 12) (c := (decide ((t0.n : Int) ≠ (t1.n : Int)))) rfl rfl (decide_eq_true hc2) ?_
      refine st_off (t := 12) (c := (decide ((t0.n : Int) ≠ (t1.n : Int)))) rfl rfl (decide_eq_true hc2) ?_
      refine st_off (t := 12) (c := (decide ((t0.n : Int) ≠ (t1.n : Int)))) rfl rfl (decide_eq_true hc2) ?_
      refine st_off (t := 12) (c := (decide ((t0.n : Int) ≠ (t1.n : Int)))) rfl rfl (decide_eq_true hc2) ?_
      refine st_off (t := 12) (c := (decide ((t0.n : Int) ≠ (t1.n : Int)))) rfl rfl (decide_eq_true hc2) ?_
      refine st_off (t := 12) (c := (decide ((t0.n : Int) ≠ (t1.n : Int)))) rfl rfl (decide_eq_true hc2) ?_
      refine st_off (t := 12) (c := (decide ((t0.n : Int) ≠ (t1.n : Int)))) rfl rfl (decide_eq_true hc2) ?_
      refine st_off (t := 12) (c := (decide ((t0.n : Int) ≠ (t1.n : Int)))) rfl rfl (decide_eq_true hc2) ?_
      refine st_off (t := 12) (c := (decide ((t0.n : Int) ≠ (t1.n : Int)))) rfl rfl (decide_eq_true hc2) ?_
      refine st_off (t := 12) (c := (decide ((t0.n : Int) ≠ (t1.n : Int)))) rfl rfl (decide_eq_true hc2) ?_
      refine st_off (t := 12) (c := (decide ((t0.n : Int) ≠ (t1.n : Int)))) rfl rfl (decide_eq_true hc2) ?_
      refine st_val (ex_pick1 (b := (decide ((t0.n : Int) ≠ (t1.n : Int)))) rfl (decide_eq_true hc2) (v := (.bool true)) rfl) ?_
      refine wl_nil ?_
      exact then_n ⟨true, _, rfl, mk_upds' (ae rfl (ae rfl (ae rfl ae0))), h⟩
    · rw [if_neg hc2] at h
      refine st_on (t := 12) (c := (decide ((t0.n : Int) ≠ (t1.n : Int)))) rfl rfl (decide_eq_false hc2) ?_
      refine st_val (ex_move (v := (Sl.v t0)) rfl) ?_
      refine st_on (t := 12) (c := (decide ((t0.n : Int) ≠ (t1.n : Int)))) rfl rfl (decide_eq_false hc2) ?_
      refine st_val (ex_move (v := (Sl.v t1)) rfl) ?_
      refine st_on (t := 12) (c := (decide ((t0.n : Int) ≠ (t1.n : Int)))) rfl rfl (decide_eq_false hc2) ?_
      refine st_val (ex_len (s := t1) Try.underlying22 rfl) ?_
      refine st_on (t := 12) (c := (decide ((t0.n : Int) ≠ (t1.n : Int)))) rfl rfl (decide_eq_false hc2) ?_
      refine st_val (ex_add (a := (t1.n : Int)) (b := 1) rfl rfl) ?_
      refine st_on (t := 12) (c := (decide ((t0.n : Int) ≠ (t1.n : Int)))) rfl rfl (decide_eq_false hc2) ?_
      refine st_rnp (fun r => ex_slice rfl rfl rfl rfl r) h ?_; clear h; intro t17 h
      refine st_on (t := 12) (c := (decide ((t0.n : Int) ≠ (t1.n : Int)))) rfl rfl (decide_eq_false hc2) ?_
      refine st_val (ex_move (v := (Sl.v t1)) rfl) ?_
      refine st_on (t := 12) (c := (decide ((t0.n : Int) ≠ (t1.n : Int)))) rfl rfl (decide_eq_false hc2) ?_
      refine st_val (ex_len (s := t1) Try.underlying22 rfl) ?_
      refine st_on (t := 12) (c := (decide ((t0.n : Int) ≠ (t1.n : Int)))) rfl rfl (decide_eq_false hc2) ?_
      refine st_rnp (fun r => ex_indexAddr rfl rfl r) h ?_; clear h; intro t20 h
      refine st_on (t := 12) (c := (decide ((t0.n : Int) ≠ (t1.n : Int)))) rfl rfl (decide_eq_false hc2) ?_
      refine st_val (ex_fa fa48_0 (p := t20) rfl) ?_
      refine st_on (t := 12) (c := (decide ((t0.n : Int) ≠ (t1.n : Int)))) rfl rfl (decide_eq_false hc2) ?_
      refine st_rn (fun r => ex_load rfl r) h ?_; clear h; intro t22 w h
      refine st_on (t := 12) (c := (decide ((t0.n : Int) ≠ (t1.n : Int)))) rfl rfl (decide_eq_false hc2) ?_
      refine st_val (ex_neq (a := t22) (b := (-77)) rfl rfl) ?_
      refine st_val (ex_pick0 (b := (decide ((t0.n : Int) ≠ (t1.n : Int)))) rfl (decide_eq_false hc2) (v := (.bool (decide (t22 ≠ (-77))))) rfl) ?_
      refine wl_nil ?_
      exact then_n ⟨(decide (t22 ≠ (-77))), _, rfl, mk_upds' (ae rfl (ae rfl (ae rfl ae0))), h⟩

/-- turnpike/turnpikeref15.Steps; slots 0:l, 1:l, 3:out, 4:last, 5:i, 6:x, 7:i, 8:s -/
def f22 (t0 : Sl) (R : (Sl) → World → Prop) (w : World) : Prop :=
  Lp (σ := Int × Int) (fun s1 w n1 =>
    if s1.2 < (t0.n : Int) then
      Jn (σ := Int) (fun k3 =>
        RnP Try.prog Ptr (Instr.indexAt 23 (Sl.v t0) (.int .i64 s1.2)) fun t17 =>
        Rn Try.prog (Value.float .f64) (Instr.loadAt 30 (Ptr (t17.add 1))) w fun t19 w =>
        if (fGt t19 0) = true then
          k3 s1.2 w
        else
          k3 s1.1 w
      ) fun s3 w =>
        n1 (s3, (IntKind.i64.wrap (s1.2 + 1))) w
    else
      Lp (σ := Sl × Nat × Int) (fun s5 w n5 =>
        if s5.2.2 < (t0.n : Int) then
          Jn (σ := Sl × Nat) (fun k7 =>
            RnP Try.prog Ptr (Instr.indexAt 23 (Sl.v t0) (.int .i64 s5.2.2)) fun t30 =>
            Rn Try.prog (Value.float .f64) (Instr.loadAt 30 (Ptr (t30.add 1))) w fun t32 w =>
            if (!(fGt t32 0)) = true then
              k7 (s5.1, s5.2.1) w
            else
              RnP Try.prog Ptr (Instr.indexAt 23 (Sl.v t0) (.int .i64 s5.2.2)) fun t38 =>
              Rn Try.prog (Value.float .f64) (Instr.loadAt 30 (Ptr (t38.add 1))) w fun t40 w =>
              Rn Try.prog (Value.float .f64) (Op.floatArith .add .f64 s5.2.1 t40) w fun t41 w =>
              RnP Try.prog Ptr (Instr.indexAt 23 (Sl.v t0) (.int .i64 s5.2.2)) fun t44 =>
              Rn Try.prog Value.string (Instr.loadAt 9 (Ptr (t44.add 0))) w fun t46 w =>
              New 32 (TShare.cells (⟨⟨#[]⟩, 0⟩ : TShare)) w fun b8 w =>
              RnU Try.prog (Instr.storeAt 32 (Ptr (⟨b8, 0, none⟩ : Addr)) (TShare.v (⟨t46, t41⟩ : TShare))) w fun w =>
              Jn (σ := Unit) (fun k9 =>
                if s5.2.2 = s1.1 then
                  RnU Try.prog (Instr.storeAt 30 (Ptr ((⟨b8, 0, none⟩ : Addr).add 1)) (.float .f64 4607182418800017408)) w fun w =>
                  k9 () w
                else
                  k9 () w
              ) fun s9 w =>
                Rn Try.prog TShare.v (Instr.loadAt 32 (Ptr (⟨b8, 0, none⟩ : Addr))) w fun t54 w =>
                New 32 ((TShare.cells t54)) w fun b55 w =>
                Rn Try.prog Sl.v (Builtin.append_ #[23, 23] 23 #[(Sl.v s5.1), (Sl.v (⟨some ⟨b55, 0, none⟩, 1, 1⟩ : Sl))]) w fun t56 w =>
                k7 (t56, t41) w
          ) fun s7 w =>
            n5 (s7.1, s7.2, (IntKind.i64.wrap (s5.2.2 + 1))) w
        else
          R s5.1 w
      ) (Sl.nil, 0, 0) w
  ) ((-1), 0) w
theorem c22 {t0 : Sl} {R : (Sl) → World → Prop} {w : World} (h : f22 t0 R w) :
    Cal Try.prog Sl.v 22 #[(Sl.v t0)] w R := by
  unfold f22 at h
  refine calls_ Try.func22 Try.ntmps22 rfl rfl ?_
  refine seq_ ?_
  refine region_ ?_
  refine st_val (ex_assign (v := (Sl.v Sl.nil)) rfl) ?_
  refine wl_nil ?_
  refine then_n ?_
  refine seq_ ?_
  refine region_ ?_
  refine st_val (ex_assign (v := (Sl.v Sl.nil)) rfl) ?_
  refine wl_nil ?_
  refine then_n ?_
  refine seq_ ?_
  refine region_ ?_
  refine st_val (ex_assign (v := (.int .i64 (-1))) rfl) ?_
  refine wl_nil ?_
  refine then_n ?_
  refine seq_ ?_
  refine seq_ ?_
  refine region_ ?_
  refine st_val (ex_assign (v := (.int .i64 0)) rfl) ?_
  refine wl_nil ?_
  refine then_n ?_
  refine wp_block ?_
  refine wp_lp (σ := Int × Int) (fun s1 a => ∃ j, a = F 58 (upds j [(0, (Sl.v t0)), (3, (Sl.v Sl.nil)), (4, (.int .i64 s1.1)), (5, (.int .i64 s1.2))])) h (mk_upds (ae rfl (ae rfl (ae rfl (ae rfl ae0))))) ?_
  clear h; rintro s1 _ w n1 ⟨j, rfl⟩ h
  refine seq_ ?_
  refine seq_ ?_
  refine region_ ?_
  refine st_val (ex_move (v := (.int .i64 s1.2)) rfl) ?_
  refine st_val (ex_move (v := (Sl.v t0)) rfl) ?_
  refine st_val (ex_len (s := t0) Try.underlying23 rfl) ?_
  refine st_val (ex_lss (a := s1.2) (b := (t0.n : Int)) rfl rfl) ?_
  refine wl_nil ?_
  refine then_n ?_
  by_cases hc2 : s1.2 < (t0.n : Int)
  · rw [if_pos hc2] at h; refine cond_1 (b := (decide (s1.2 < (t0.n : Int)))) rfl (decide_eq_true hc2) ?_
    refine wp_skip ?_
    refine then_n ?_
    refine wp_jn (σ := Int) (fun s3 l => ∃ j, l = upds j [(0, (Sl.v t0)), (3, (Sl.v Sl.nil)), (4, (.int .i64 s3)), (5, (.int .i64 s1.2))]) h ?_ ?_
    · clear h; rintro s3 _ w ⟨j, rfl⟩ h
      refine region_ ?_
      refine st_val (ex_move (v := (.int .i64 s1.2)) rfl) ?_
      refine st_val (ex_add (a := s1.2) (b := 1) rfl rfl) ?_
      refine st_val (ex_assign (v := (.int .i64 (IntKind.i64.wrap (s1.2 + 1)))) rfl) ?_
      refine wl_nil ?_
      exact then_n ⟨(s3, (IntKind.i64.wrap (s1.2 + 1))), mk_upds (ae rfl (ae rfl (ae rfl (ae rfl ae0)))), h⟩
    · clear h; intro k3 h
      refine wp_block ?_
      refine seq_ ?_
      refine region_ ?_
      refine st_val (ex_move (v := (Sl.v t0)) rfl) ?_
      refine st_val (ex_move (v := (.int .i64 s1.2)) rfl) ?_
      refine st_rnp (fun r => ex_indexAddr rfl rfl r) h ?_; clear h; intro t17 h
      refine st_val (ex_fa fa32_1 (p := t17) rfl) ?_
      refine st_rn (fun r => ex_load rfl r) h ?_; clear h; intro t19 w h
      refine st_val (ex_gtrF (a := t19) (b := 0) rfl rfl) ?_
      refine wl_nil ?_
      refine then_n ?_
      by_cases hc4 : (fGt t19 0) = true
      · rw [if_pos hc4] at h; refine cond_1 (b := (fGt t19 0)) rfl hc4 ?_
        refine region_ ?_
        refine st_val (ex_move (v := (.int .i64 s1.2)) rfl) ?_
        refine st_val (ex_assign (v := (.int .i64 s1.2)) rfl) ?_
        refine wl_nil ?_
        refine inb_n ?_
        exact then_n ⟨s1.2, _, rfl, mk_upds' (ae rfl (ae rfl (ae rfl (ae rfl ae0)))), h⟩
      · rw [if_neg hc4] at h; refine cond_0 (b := (fGt t19 0)) rfl (Bool.eq_false_iff.2 hc4) ?_
        refine wp_skip ?_
        refine inb_n ?_
        exact then_n ⟨s1.1, _, rfl, mk_upds' (ae rfl (ae rfl (ae rfl (ae rfl ae0)))), h⟩
  · rw [if_neg hc2] at h; refine cond_0 (b := (decide (s1.2 < (t0.n : Int)))) rfl (decide_eq_false hc2) ?_
    refine wp_exit ?_
    refine then_e ?_
    refine then_e ?_
    refine inb_e ?_
    refine then_n ?_
    refine seq_ ?_
    refine region_ ?_
    refine st_val (ex_assign (v := (.float .f64 0)) rfl) ?_
    refine wl_nil ?_
    refine then_n ?_
    refine seq_ ?_
    refine seq_ ?_
    refine region_ ?_
    refine st_val (ex_assign (v := (.int .i64 0)) rfl) ?_
    refine wl_nil ?_
    refine then_n ?_
    refine wp_block ?_
    refine wp_lp (σ := Sl × Nat × Int) (fun s5 a => ∃ j, a = F 58 (upds j [(0, (Sl.v t0)), (3, (Sl.v s5.1)), (4, (.int .i64 s1.1)), (6, (.float .f64 s5.2.1)), (7, (.int .i64 s5.2.2))])) h (mk_upds (ae rfl (ae rfl (ae rfl (ae rfl (ae rfl ae0)))))) ?_
    clear h; rintro s5 _ w n5 ⟨j, rfl⟩ h
    refine seq_ ?_
    refine seq_ ?_
    refine region_ ?_
    refine st_val (ex_move (v := (.int .i64 s5.2.2)) rfl) ?_
    refine st_val (ex_move (v := (Sl.v t0)) rfl) ?_
    refine st_val (ex_len (s := t0) Try.underlying23 rfl) ?_
    refine st_val (ex_lss (a := s5.2.2) (b := (t0.n : Int)) rfl rfl) ?_
    refine wl_nil ?_
    refine then_n ?_
    by_cases hc6 : s5.2.2 < (t0.n : Int)
    · rw [if_pos hc6] at h; refine cond_1 (b := (decide (s5.2.2 < (t0.n : Int)))) rfl (decide_eq_true hc6) ?_
      refine wp_skip ?_
      refine then_n ?_
      refine wp_jn (σ := Sl × Nat) (fun s7 l => ∃ j, l = upds j [(0, (Sl.v t0)), (3, (Sl.v s7.1)), (4, (.int .i64 s1.1)), (6, (.float .f64 s7.2)), (7, (.int .i64 s5.2.2))]) h ?_ ?_
      · clear h; rintro s7 _ w ⟨j, rfl⟩ h
        refine region_ ?_
        refine st_val (ex_move (v := (.int .i64 s5.2.2)) rfl) ?_
        refine st_val (ex_add (a := s5.2.2) (b := 1) rfl rfl) ?_
        refine st_val (ex_assign (v := (.int .i64 (IntKind.i64.wrap (s5.2.2 + 1)))) rfl) ?_
        refine wl_nil ?_
        exact then_n ⟨(s7.1, s7.2, (IntKind.i64.wrap (s5.2.2 + 1))), mk_upds (ae rfl (ae rfl (ae rfl (ae rfl (ae rfl ae0))))), h⟩
      · clear h; intro k7 h
        refine wp_block ?_
        refine seq_ ?_
        refine seq_ ?_
        refine region_ ?_
        refine st_val (ex_move (v := (Sl.v t0)) rfl) ?_
        refine st_val (ex_move (v := (.int .i64 s5.2.2)) rfl) ?_
        refine st_rnp (fun r => ex_indexAddr rfl rfl r) h ?_; clear h; intro t30 h
        refine st_val (ex_fa fa32_1 (p := t30) rfl) ?_
        refine st_rn (fun r => ex_load rfl r) h ?_; clear h; intro t32 w h
        refine st_val (ex_gtrF (a := t32) (b := 0) rfl rfl) ?_
        refine st_val (ex_not (b := (fGt t32 0)) rfl) ?_
        refine wl_nil ?_
        refine then_n ?_
        by_cases hc8 : (!(fGt t32 0)) = true
        · rw [if_pos hc8] at h; refine cond_1 (b := (!(fGt t32 0))) rfl hc8 ?_
          refine wp_exit ?_
          refine then_e ?_
          refine inb_e ?_
          exact then_n ⟨(s5.1, s5.2.1), _, rfl, mk_upds' (ae rfl (ae rfl (ae rfl (ae rfl (ae rfl ae0))))), h⟩
        · rw [if_neg hc8] at h; refine cond_0 (b := (!(fGt t32 0))) rfl (Bool.eq_false_iff.2 hc8) ?_
          refine wp_skip ?_
          refine then_n ?_
          refine seq_ ?_
          refine region_ ?_
          refine st_val (ex_move (v := (.float .f64 s5.2.1)) rfl) ?_
          refine st_val (ex_move (v := (Sl.v t0)) rfl) ?_
          refine st_val (ex_move (v := (.int .i64 s5.2.2)) rfl) ?_
          refine st_rnp (fun r => ex_indexAddr rfl rfl r) h ?_; clear h; intro t38 h
          refine st_val (ex_fa fa32_1 (p := t38) rfl) ?_
          refine st_rn (fun r => ex_load rfl r) h ?_; clear h; intro t40 w h
          refine st_rn (fun r => ex_addF (a := s5.2.1) (b := t40) rfl rfl r) h ?_; clear h; intro t41 w h
          refine st_val (ex_assign (v := (.float .f64 t41)) rfl) ?_
          refine wl_nil ?_
          refine then_n ?_
          refine seq_ ?_
          refine region_ ?_
          refine st_val (ex_move (v := (Sl.v t0)) rfl) ?_
          refine st_val (ex_move (v := (.int .i64 s5.2.2)) rfl) ?_
          refine st_rnp (fun r => ex_indexAddr rfl rfl r) h ?_; clear h; intro t44 h
          refine st_val (ex_fa fa32_0 (p := t44) rfl) ?_
          refine st_rn (fun r => ex_load rfl r) h ?_; clear h; intro t46 w h
          refine st_val (ex_move (v := (.float .f64 t41)) rfl) ?_
          refine st_val (ex_build (a' := [(0, (.string t46)), (1, (.float .f64 t41))]) (v := TShare.v (⟨t46, t41⟩ : TShare)) rfl (e_build Try.underlying32 zero32 rfl pl32 rfl _)) ?_
          refine st_new (f := (fun b => Ptr ⟨b, 0, none⟩)) (ex_allocN zero32 rfl) h ?_; clear h; intro b8 w h
          refine st_rnu (fun r => ex_store rfl rfl r) h ?_; clear h; intro w h
          refine wl_nil ?_
          refine then_n ?_
          refine wp_jn (σ := Unit) (fun s9 l => ∃ j, l = upds j [(0, (Sl.v t0)), (3, (Sl.v s5.1)), (4, (.int .i64 s1.1)), (6, (.float .f64 t41)), (7, (.int .i64 s5.2.2)), (8, (Ptr (⟨b8, 0, none⟩ : Addr)))]) h ?_ ?_
          · clear h; rintro s9 _ w ⟨j, rfl⟩ h
            refine region_ ?_
            refine st_val (ex_move (v := (Sl.v s5.1)) rfl) ?_
            refine st_rn (fun r => ex_load rfl r) h ?_; clear h; intro t54 w h
            refine st_new (f := (fun b => Sl.v ⟨some ⟨b, 0, none⟩, 1, 1⟩)) (ex_buildSlice (a' := [(0, (TShare.v t54))]) rfl (e_buildSlice (cs := ((TShare.cells t54))) Try.underlying23 info32 iz32 (by decide +kernel) (by decide +kernel) (by kernel_rfl) _)) h ?_; clear h; intro b55 w h
            refine st_rn (fun r => ex_builtin rfl (fun _ => rfl) r) h ?_; clear h; intro t56 w h
            refine st_val (ex_assign (v := (Sl.v t56)) rfl) ?_
            refine wl_nil ?_
            refine inb_n ?_
            exact then_n ⟨(t56, t41), _, rfl, mk_upds' (ae rfl (ae rfl (ae rfl (ae rfl (ae rfl ae0))))), h⟩
          · clear h; intro k9 h
            refine seq_ ?_
            refine region_ ?_
            refine st_val (ex_move (v := (.int .i64 s5.2.2)) rfl) ?_
            refine st_val (ex_move (v := (.int .i64 s1.1)) rfl) ?_
            refine st_val (ex_eql (a := s5.2.2) (b := s1.1) rfl rfl) ?_
            refine wl_nil ?_
            refine then_n ?_
            by_cases hc10 : s5.2.2 = s1.1
            · rw [if_pos hc10] at h; refine cond_1 (b := (decide (s5.2.2 = s1.1))) rfl (decide_eq_true hc10) ?_
              refine region_ ?_
              refine st_val (ex_fa fa32_1 (p := (⟨b8, 0, none⟩ : Addr)) rfl) ?_
              refine st_rnu (fun r => ex_store rfl rfl r) h ?_; clear h; intro w h
              refine wl_nil ?_
              exact then_n ⟨(), _, rfl, mk_upds' (ae rfl (ae rfl (ae rfl (ae rfl (ae rfl (ae rfl ae0)))))), h⟩
            · rw [if_neg hc10] at h; refine cond_0 (b := (decide (s5.2.2 = s1.1))) rfl (decide_eq_false hc10) ?_
              refine wp_skip ?_
              exact then_n ⟨(), _, rfl, mk_upds' (ae rfl (ae rfl (ae rfl (ae rfl (ae rfl (ae rfl ae0)))))), h⟩
    · rw [if_neg hc6] at h; refine cond_0 (b := (decide (s5.2.2 < (t0.n : Int)))) rfl (decide_eq_false hc6) ?_
      refine wp_exit ?_
      refine then_e ?_
      refine then_e ?_
      refine inb_e ?_
      refine then_n ?_
      refine seq_ ?_
      refine region_ ?_
      refine st_val (ex_move (v := (Sl.v s5.1)) rfl) ?_
      refine st_val (ex_assign (v := (Sl.v s5.1)) rfl) ?_
      refine wl_nil ?_
      refine then_n ?_
      refine wp_ret ?_
      refine ret_1 rfl rfl ⟨s5.1, rfl, h⟩


end Go.Proofs.Ytdoeegfcmbcbkaa.Tr

