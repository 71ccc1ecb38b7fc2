/- A part of the proof whose last text is YtdoeegfcmbcbkaaCZ4. -/
import Derived.WalkKit
import Derived.Orders
import Derived.Below
import Derived.OrdersHeld
import Derived.Test.YtdoeegfcmbcbkaaProg
set_option linter.all false
namespace Go.Eng
open Go
set_option linter.unusedVariables false

structure Sl where
  a : Option Addr
  n : Nat
  c : Nat
def Sl.v (s : Sl) : Value := .slice s.a s.n s.c
def Sl.nil : Sl := ⟨none, 0, 0⟩
def Ptr (a : Addr) : Value := .pointer (some a)
abbrev Ext (w w' : World) : Prop := RowKit.Below w.heap.size w w'

def upd (l : Nat → Value) (d : Nat) (v : Value) : Nat → Value := fun i => bif Nat.beq i d then v else l i
def upds (j : Nat → Value) : List (Nat × Value) → Nat → Value
  | [] => j
  | (d, v) :: ps => upd (upds j ps) d v
def AllEq (l : Nat → Value) : List (Nat × Value) → Prop
  | [] => True
  | (d, v) :: ps => l d = v ∧ AllEq l ps
def ofArgs : List Value → Nat → Nat → Value
  | [], _ => fun _ => undef
  | a :: vs, k => upd (ofArgs vs (k + 1)) k a
def F (N : Nat) (l : Nat → Value) : Act := ⟨⟨(List.range N).map l⟩, []⟩
def ev (N : Nat) (l : Nat → Value) : Operand → Value
  | .tmp t => bif Nat.blt t N then l t else undef
  | .const v => v
  | .global g => .pointer (some ⟨g, 0, none⟩)
  | .func f => .func (.func f) #[] #[]
theorem upd_self {l : Nat → Value} {d : Nat} {v : Value} (h : l d = v) : upd l d v = l := by
  funext i; unfold upd
  by_cases hi : i = d
  · subst hi; simp [h]
  · have : Nat.beq i d = false := by
      cases hc : Nat.beq i d
      · rfl
      · exact absurd (Nat.eq_of_beq_eq_true hc) hi
    rw [this]; rfl
theorem upds_self {l : Nat → Value} : ∀ {ps : List (Nat × Value)}, AllEq l ps → upds l ps = l
  | [], _ => rfl
  | (d, v) :: ps, h => by
    have ih := upds_self (ps := ps) h.2
    show upd (upds l ps) d v = l
    rw [ih]; exact upd_self h.1
theorem mk_upds {N : Nat} {l : Nat → Value} {ps : List (Nat × Value)} (h : AllEq l ps) : ∃ j, F N l = F N (upds j ps) := ⟨l, by rw [upds_self h]⟩
theorem mk_upds' {l : Nat → Value} {ps : List (Nat × Value)} (h : AllEq l ps) : ∃ j, l = upds j ps := ⟨l, (upds_self h).symm⟩
theorem ae {l : Nat → Value} {d : Nat} {v : Value} {ps : List (Nat × Value)} (h : l d = v) (t : AllEq l ps) : AllEq l ((d, v) :: ps) := ⟨h, t⟩
theorem ae0 {l : Nat → Value} : AllEq l [] := trivial
theorem F_getD (N : Nat) (l : Nat → Value) (t : Tmp) : (F N l).tmps.getD t undef = ev N l (.tmp t) := by
  show (⟨(List.range N).map l⟩ : Array Value).getD t undef = bif Nat.blt t N then l t else undef
  by_cases h : t < N
  · have hb : Nat.blt t N = true := by simpa [Nat.blt_eq] using h
    rw [hb]; simp [h]
  · have hb : Nat.blt t N = false := by
      cases hc : Nat.blt t N
      · rfl
      · exact absurd (by simpa [Nat.blt_eq] using hc) h
    rw [hb]; simp [h]
theorem F_eval (N : Nat) (l : Nat → Value) : (F N l).eval = ev N l := by
  funext x; cases x <;> first | rfl | exact F_getD N l _
theorem F_put (N : Nat) (l : Nat → Value) (d : Tmp) (v : Value) : (F N l).put (some d) v = F N (upd l d v) := by
  show (⟨(⟨(List.range N).map l⟩ : Array Value).setIfInBounds d v, []⟩ : Act) = ⟨⟨(List.range N).map (upd l d v)⟩, []⟩
  congr 1
  apply Array.toList_inj.1
  simp only [Array.toList_setIfInBounds]
  apply List.ext_getElem
  · simp
  · intro i h1 h2
    simp only [List.length_map, List.length_range, List.length_set] at h1 h2
    rw [List.getElem_set]
    simp only [List.getElem_map, List.getElem_range, upd]
    by_cases hi : d = i
    · subst hi; simp
    · have : Nat.beq i d = false := by
        cases hc : Nat.beq i d
        · rfl
        · exact absurd (Nat.eq_of_beq_eq_true hc).symm hi
      rw [if_neg hi, this]; rfl
theorem F_put_none (N : Nat) (l : Nat → Value) (v : Value) : (F N l).put none v = F N l := rfl

def Ex (P : Program) (op : Op) (ty : TypeId) (N : Nat) (l : Nat → Value) (w : World) (v : Value) (w' : World) : Prop :=
  (execOp (ev N l) ⟨none, op, ty, "", #[], none⟩).run P w = .ok (.value v) w'
def ExU (P : Program) (op : Op) (ty : TypeId) (N : Nat) (l : Nat → Value) (w w' : World) : Prop :=
  (execOp (ev N l) ⟨none, op, ty, "", #[], none⟩).run P w = .ok .skip w'
def ExC (P : Program) (op : Op) (ty : TypeId) (N : Nat) (l : Nat → Value) (w : World) (f : FuncId) (args : Array Value) : Prop :=
  (execOp (ev N l) ⟨none, op, ty, "", #[], none⟩).run P w = .ok (.enter f args) w
theorem execOp_eq (ρ : Operand → Value) (d : Option Tmp) (op : Op) (ty : TypeId) (pos : String) (after : Array Edge) (g : Option (Nat × Bool)) :
    execOp ρ ⟨d, op, ty, pos, after, g⟩ = execOp ρ ⟨none, op, ty, "", #[], none⟩ := by cases op <;> rfl

structure WL (P : Program) (ops : Array Oper) (Q : Exit → Act → World → Prop) (l : List Oper) (a : Act) (w : World) : Prop where
  out : wpList P ops Q l a w
section steps
variable {P : Program} {ops : Array Oper} {Q : Exit → Act → World → Prop} {rest : List Oper} {N : Nat} {l : Nat → Value} {w w' : World}
  {d : Tmp} {op : Op} {ty : TypeId} {pos : String} {after : Array Edge} {v : Value}
theorem wpList_of {o : Oper} (hg : o.guard = none) (h : o.wp P (F N l) w (WL P ops Q rest) Q) : WL P ops Q (o :: rest) (F N l) w := by
  refine ⟨?_⟩
  unfold wpList; rw [if_pos (by simp [Region.wanted, hg])]; exact .inl (Oper.wp_mono (fun _ _ h => h.out) h)
theorem st_val (h : Ex P op ty N l w v w') (hk : WL P ops Q rest (F N (upd l d v)) w') :
    WL P ops Q (⟨some d, op, ty, pos, after, none⟩ :: rest) (F N l) w := by
  refine wpList_of rfl ?_
  unfold Oper.wp; rw [F_eval, execOp_eq, h, Oper.upon_value, F_put]; exact hk
theorem st_unit (h : ExU P op ty N l w w') (hk : WL P ops Q rest (F N l) w') :
    WL P ops Q (⟨none, op, ty, pos, after, none⟩ :: rest) (F N l) w := by
  refine wpList_of rfl ?_
  unfold Oper.wp; rw [F_eval, execOp_eq, h, Oper.upon_skip, F_put_none]; exact hk
theorem st_call {f : FuncId} {args : Array Value} (hc : ExC P op ty N l w f args)
    (h : Calls P f args w fun e w' => ∃ v, e = .returned v ∧ WL P ops Q rest (F N (upd l d v)) w') :
    WL P ops Q (⟨some d, op, ty, pos, after, none⟩ :: rest) (F N l) w := by
  refine wpList_of rfl ?_
  unfold Oper.wp; rw [F_eval, execOp_eq, hc, Oper.upon_enter]
  refine h.mono ?_
  rintro e w' ⟨v, rfl, hv⟩
  show WL P ops Q rest ((F N l).put (some d) v) w'
  rw [F_put]; exact hv
theorem yielded_of {g : Nat} {t : Tmp} {b : Bool} (hd : (ops[g]?).bind (·.dst) = some t) (hv : ev N l (.tmp t) = (.bool b)) : yielded ops (F N l).tmps g = some b := by
  have h0 := (F_getD N l t).trans hv
  have : (F N l).tmps[t]? = some (.bool b) := by
    cases hc : (F N l).tmps[t]? with
    | none => simp [hc, undef] at h0
    | some x => simp [hc] at h0; rw [h0]
  simp [yielded, hd, this]
theorem st_on {o : Option Tmp} {g : Nat} {t : Tmp} {b c : Bool} (hd : (ops[g]?).bind (·.dst) = some t) (hv : ev N l (.tmp t) = (.bool c)) (hc : c = b)
    (h : WL P ops Q (⟨o, op, ty, pos, after, none⟩ :: rest) (F N l) w) : WL P ops Q (⟨o, op, ty, pos, after, some (g, b)⟩ :: rest) (F N l) w := by
  subst hc
  have hy := yielded_of (N := N) (l := l) hd hv
  have h1 : Region.wanted ⟨o, op, ty, pos, after, some (g, c)⟩ (yielded ops (F N l).tmps) = true := by simp [Region.wanted, hy]
  obtain ⟨h⟩ := h
  refine ⟨?_⟩
  unfold wpList at h ⊢
  rw [if_pos h1]
  rw [if_pos (by simp [Region.wanted])] at h
  unfold Oper.wp Oper.asks at *
  rw [execOp_eq] at h ⊢
  exact h
theorem st_off {g : Nat} {t : Tmp} {b c : Bool} (hd : (ops[g]?).bind (·.dst) = some t) (hv : ev N l (.tmp t) = (.bool c)) (hc : c = !b)
    (h : WL P ops Q rest (F N (upd l d undef)) w) : WL P ops Q (⟨some d, op, ty, pos, after, some (g, b)⟩ :: rest) (F N l) w := by
  subst hc
  have hy := yielded_of (N := N) (l := l) hd hv
  have h1 : ¬ (Region.wanted ⟨some d, op, ty, pos, after, some (g, b)⟩ (yielded ops (F N l).tmps) = true) := by simp [Region.wanted, hy]
  refine ⟨?_⟩
  unfold wpList
  rw [if_neg h1, F_put]; exact h.out
theorem yielded_none {g : Nat} {t : Tmp} (hd : (ops[g]?).bind (·.dst) = some t) (hv : ev N l (.tmp t) = undef) : yielded ops (F N l).tmps g = none := by
  have h0 := (F_getD N l t).trans hv
  cases hc : (F N l).tmps[t]? with
  | none => simp [yielded, hd, hc]
  | some x =>
    simp [hc] at h0
    subst h0
    simp [yielded, hd, hc, undef]
theorem st_offu {g : Nat} {t : Tmp} {b : Bool} (hd : (ops[g]?).bind (·.dst) = some t) (hv : ev N l (.tmp t) = undef)
    (h : WL P ops Q rest (F N (upd l d undef)) w) : WL P ops Q (⟨some d, op, ty, pos, after, some (g, b)⟩ :: rest) (F N l) w := by
  have hy := yielded_none (N := N) (l := l) hd hv
  have h1 : ¬ (Region.wanted ⟨some d, op, ty, pos, after, some (g, b)⟩ (yielded ops (F N l).tmps) = true) := by simp [Region.wanted, hy]
  refine ⟨?_⟩
  unfold wpList
  rw [if_neg h1, F_put]; exact h.out
end steps

section exs
variable {P : Program} {N : Nat} {l : Nat → Value} {w w' : World} {ty : TypeId} {x y z : Operand} {v : Value} {t : TypeId}
theorem ex_move (hx : ev N l x = v) : Ex P (.move x) ty N l w v w := by subst hx; rfl
theorem ex_assign (hx : ev N l x = v) : Ex P (.assign x) ty N l w v w := by subst hx; rfl
theorem ex_pick1 {b : Bool} (hc : ev N l z = .bool b) (hb : b = true) (hv : ev N l x = v) : Ex P (.pick z x y) ty N l w v w := by
  subst hb; subst hv; simp [Ex, execOp, hc, asBool]
theorem ex_pick0 {b : Bool} (hc : ev N l z = .bool b) (hb : b = false) (hv : ev N l y = v) : Ex P (.pick z x y) ty N l w v w := by
  subst hb; subst hv; simp [Ex, execOp, hc, asBool]
theorem ex_box {u : Value} (hx : ev N l x = u) (h : (Instr.box t u).run P w = .ok v w') : Ex P (.box t x) ty N l w v w' := by
  subst hx; simp [Ex, execOp, h]
theorem ex_alloc (h : (Instr.alloc t true (.tuple #[])).run P w = .ok v w') : Ex P (.alloc t) ty N l w v w' := by simp [Ex, execOp, h]
theorem ex_load {u : Value} (hx : ev N l x = u) (h : (Instr.loadAt t u).run P w = .ok v w') : Ex P (.load t x) ty N l w v w' := by
  subst hx; simp [Ex, execOp, h]
theorem ex_store {u u' : Value} (hx : ev N l x = u) (hy : ev N l y = u') (h : (Instr.storeAt t u u').run P w = .ok () w') : ExU P (.store t x y) ty N l w w' := by
  subst hx hy; simp [ExU, execOp, h]
theorem ex_fieldAddr {u : Value} {f : Nat} (hx : ev N l x = u) (h : (Instr.fieldAt t u f).run P w = .ok v w') : Ex P (.fieldAddr t x f) ty N l w v w' := by
  subst hx; simp [Ex, execOp, h]
theorem ex_field {u : Value} {f : Nat} (hx : ev N l x = u) (h : (Instr.field t u f).run P w = .ok v w') : Ex P (.field t x f) ty N l w v w' := by
  subst hx; simp [Ex, execOp, h]
theorem ex_indexAddr {u u' : Value} (hx : ev N l x = u) (hy : ev N l y = u') (h : (Instr.indexAt t u u').run P w = .ok v w') : Ex P (.indexAddr t x y) ty N l w v w' := by
  subst hx hy; simp [Ex, execOp, h]
theorem ex_index {u u' : Value} (hx : ev N l x = u) (hy : ev N l y = u') (h : (Instr.index t u u').run P w = .ok v w') : Ex P (.index t x y) ty N l w v w' := by
  subst hx hy; simp [Ex, execOp, h]
theorem ex_lookup {u u' : Value} {b : Bool} (hx : ev N l x = u) (hy : ev N l y = u') (h : (Instr.lookup t u u' b).run P w = .ok v w') : Ex P (.lookup t x y b) ty N l w v w' := by
  subst hx hy; simp [Ex, execOp, h]
theorem ex_mapUpdate {u u' u'' : Value} (hx : ev N l x = u) (hy : ev N l y = u') (hz : ev N l z = u'') (h : (Instr.mapUpdate t u u' u'').run P w = .ok () w') :
    ExU P (.mapUpdate t x y z) ty N l w w' := by
  subst hx hy hz; simp [ExU, execOp, h]
theorem ex_range {u : Value} (hx : ev N l x = u) (h : (Instr.range t u).run P w = .ok v w') : Ex P (.range t x) ty N l w v w' := by
  subst hx; simp [Ex, execOp, h]
theorem ex_next {u : Value} {b : Bool} (hx : ev N l x = u) (h : (Instr.next u b ty).run P w = .ok v w') : Ex P (.next x b) ty N l w v w' := by
  subst hx; simp [Ex, execOp, h]
theorem ex_entry {u : Value} (hx : ev N l x = u) (h : (Instr.entry u).run P w = .ok v w') : Ex P (.entry x) ty N l w v w' := by
  subst hx; simp [Ex, execOp, h]
theorem ex_extract {u : Value} {i : Nat} (hx : ev N l x = u) (h : (Instr.extract u i).run P w = .ok v w') : Ex P (.extract x i) ty N l w v w' := by
  subst hx; simp [Ex, execOp, h]
theorem ex_convert {u : Value} {s : TypeId} (hx : ev N l x = u) (h : (convert s t u).run P w = .ok v w') : Ex P (.convert s t x) ty N l w v w' := by
  subst hx; simp [Ex, execOp, h]
theorem ex_unOp {u : Value} {o : UnOp} (hx : ev N l x = u) (h : (Op.unary o u).run P w = .ok v w') : Ex P (.unOp o t x) ty N l w v w' := by
  subst hx; simp [Ex, execOp, h]
theorem ex_makeMap (h : (Instr.makeMap t none).run P w = .ok v w') : Ex P (.makeMap t none) ty N l w v w' := by simp [Ex, execOp, h]
theorem ex_slice {u : Value} {a b c : Option Operand} {a' b' c' : Option Value} (hx : ev N l x = u) (ha : a.map (ev N l) = a') (hb : b.map (ev N l) = b') (hc : c.map (ev N l) = c')
    (h : (Instr.sliceAt t u a' b' c').run P w = .ok v w') : Ex P (.slice t x a b c) ty N l w v w' := by
  subst hx ha hb hc; simp [Ex, execOp, h]
theorem map_of {α β : Type} {f : α → β} {a : Array α} {l' : List β} (h : a.toList.map f = l') : a.map f = l'.toArray := by
  subst h; apply Array.toList_inj.1; simp
theorem ex_makeFunc {f : Fn} {a b : Array Operand} {a' b' : List Value} (ha : a.toList.map (ev N l) = a') (hb : b.toList.map (ev N l) = b') : Ex P (.makeFunc f a b) ty N l w (.func f a'.toArray b'.toArray) w := by
  simp only [Ex, execOp, Instr.makeFunc, map_of ha, map_of hb, Sem.run_bind, Sem.run_pure, Result.andThen_ok]
def partsOf (N : Nat) (l : Nat → Value) (a : List (Nat × Operand)) : List (Nat × Value) := a.map fun p => (p.1, ev N l p.2)
theorem parts_map {a : Array (Nat × Operand)} {a' : List (Nat × Value)} (ha : partsOf N l a.toList = a') : (a.map fun (i, x) => (i, ev N l x)) = a'.toArray := by
  subst ha; apply Array.toList_inj.1; simp [partsOf]
theorem ex_build {a : Array (Nat × Operand)} {a' : List (Nat × Value)} (ha : partsOf N l a.toList = a') (h : (Instr.build t a'.toArray).run P w = .ok v w') :
    Ex P (.build t a) ty N l w v w' := by
  have h1 := parts_map ha
  simp only [Ex, execOp]
  rw [h1]
  simp [h]
theorem ex_buildSlice {n : Nat} {a : Array (Nat × Operand)} {a' : List (Nat × Value)} (ha : partsOf N l a.toList = a') (h : (Instr.buildSlice t n a'.toArray).run P w = .ok v w') :
    Ex P (.buildSlice t n a) ty N l w v w' := by
  have h1 := parts_map ha
  simp only [Ex, execOp]
  rw [h1]
  simp [h]
theorem ex_nilCheck {p : Addr} (hx : ev N l x = Ptr p) : Ex P (.nilCheck x) ty N l w (Ptr p) w := by
  simp [Ex, execOp, hx, Ptr]
theorem ex_builtin {b : Builtin} {args : Array Operand} {ts : Array TypeId} {vs : List Value} {k : Array Value → Sem Value}
    (ha : args.toList.map (ev N l) = vs) (hk : ∀ cs : Array Bool, Go.builtin b ts ty cs vs.toArray = (do let v ← k vs.toArray; pure (.value v))) (h : (k vs.toArray).run P w = .ok v w') :
    Ex P (.call { callee := .builtin b, args := args, argTypes := ts }) ty N l w v w' := by
  simp only [Ex, execOp, resolve, invoke, map_of ha, Sem.run_bind, Sem.run_pure, Result.andThen_ok, hk, h]
theorem ex_binOp {u u' : Value} {o : BinOp} {t' : TypeId} (hx : ev N l x = u) (hy : ev N l y = u') (hg : (eqGuard o t x y u u').run P w = .ok () w)
    (h : (binOp o t u u').run P w = .ok v w') : Ex P (.binOp o t x y t') ty N l w v w' := by
  subst hx hy; simp [Ex, execOp, hg, h]
theorem guard_int {o : BinOp} {k k' : IntKind} {a b : Int} : (eqGuard o t x y (.int k a) (.int k' b)).run P w = .ok () w := by
  cases o <;> simp [eqGuard]
theorem guard_string {o : BinOp} {a b : ByteArray} : (eqGuard o t x y (.string a) (.string b)).run P w = .ok () w := by
  cases o <;> simp [eqGuard]
theorem guard_float {o : BinOp} {k k' : FloatKind} {a b : Nat} : (eqGuard o t x y (.float k a) (.float k' b)).run P w = .ok () w := by
  cases o <;> simp [eqGuard]
theorem guard_bool {o : BinOp} {a b : Bool} : (eqGuard o t x y (.bool a) (.bool b)).run P w = .ok () w := by
  cases o <;> simp [eqGuard]
section ints
variable {k : IntKind} {a b : Int} {t' : TypeId} (hx : ev N l x = .int k a) (hy : ev N l y = .int k b)
include hx hy
theorem ex_lss : Ex P (.binOp .lss t x y t') ty N l w (.bool (decide (a < b))) w := ex_binOp hx hy guard_int (by simp [binOp, Op.intCmp])
theorem ex_leq : Ex P (.binOp .leq t x y t') ty N l w (.bool (decide (a ≤ b))) w := ex_binOp hx hy guard_int (by simp [binOp, Op.intCmp])
theorem ex_gtr : Ex P (.binOp .gtr t x y t') ty N l w (.bool (decide (b < a))) w := ex_binOp hx hy guard_int (by simp [binOp, Op.intCmp])
theorem ex_geq : Ex P (.binOp .geq t x y t') ty N l w (.bool (decide (b ≤ a))) w := ex_binOp hx hy guard_int (by simp [binOp, Op.intCmp])
theorem ex_eql : Ex P (.binOp .eql t x y t') ty N l w (.bool (decide (a = b))) w := ex_binOp hx hy guard_int (by
  have : (a == b) = decide (a = b) := by rw [Bool.eq_iff_iff]; simp
  simp [binOp, Op.intCmp, this])
theorem ex_neq : Ex P (.binOp .neq t x y t') ty N l w (.bool (decide (a ≠ b))) w := ex_binOp hx hy guard_int (by
  have : (a != b) = decide (a ≠ b) := by rw [Bool.eq_iff_iff]; simp
  simp [binOp, Op.intCmp, this])
theorem ex_add : Ex P (.binOp .add t x y t') ty N l w (.int k (k.wrap (a + b))) w := ex_binOp hx hy guard_int (by simp [binOp, Op.intArith])
theorem ex_sub : Ex P (.binOp .sub t x y t') ty N l w (.int k (k.wrap (a - b))) w := ex_binOp hx hy guard_int (by simp [binOp, Op.intArith])
theorem ex_mul : Ex P (.binOp .mul t x y t') ty N l w (.int k (k.wrap (a * b))) w := ex_binOp hx hy guard_int (by simp [binOp, Op.intArith])
end ints
theorem ex_not {b : Bool} (hx : ev N l x = .bool b) : Ex P (.unOp .not t x) ty N l w (.bool (!b)) w := ex_unOp hx (by simp [Op.unary])
theorem run_equalInB (d : Nat) {a b : Bool} (hu : P.underlying t = some .bool) : (Op.equalIn (d + 1) t (.bool a) (.bool b)).run P w = .ok (a == b) w := by
  unfold Op.equalIn
  simp only [Sem.run_bind, run_underlying hu, Result.andThen_ok, Sem.run_pure]
theorem run_equalB {a b : Bool} (hu : P.underlying t = some .bool) : (Op.equal t (.bool a) (.bool b)).run P w = .ok (a == b) w := run_equalInB 9999 hu
theorem ex_eqlB {a b : Bool} {t' : TypeId} (hu : P.underlying t = some .bool) (hx : ev N l x = .bool a) (hy : ev N l y = .bool b) : Ex P (.binOp .eql t x y t') ty N l w (.bool (a == b)) w :=
  ex_binOp hx hy guard_bool (by
    show (do pure (Value.bool (← Op.equal t (.bool a) (.bool b))) : Sem Value).run P w = _
    simp only [Sem.run_bind, run_equalB hu, Result.andThen_ok, Sem.run_pure])
theorem ex_len {s : Sl} {e : TypeId} (hu : P.underlying t = some (.slice e)) (hx : ev N l x = s.v) : Ex P (.call { callee := .builtin .len, args := #[x], argTypes := #[t] }) ty N l w (.int .i64 s.n) w := by
  simp [Ex, execOp, resolve, invoke, builtin, Builtin.len_, hx, Sl.v, run_underlying hu, goInt]
theorem ex_lenS {s : ByteArray} (hu : P.underlying t = some .string) (hx : ev N l x = .string s) : Ex P (.call { callee := .builtin .len, args := #[x], argTypes := #[t] }) ty N l w (.int .i64 s.size) w := by
  simp [Ex, execOp, resolve, invoke, builtin, Builtin.len_, hx, run_underlying hu, goInt]
theorem ex_max {k : IntKind} {a b : Int} {ts : Array TypeId} (hx : ev N l x = .int k a) (hy : ev N l y = .int k b) :
    Ex P (.call { callee := .builtin .max, args := #[x, y], argTypes := ts }) ty N l w (.int k (max a b)) w := by
  have : (if a < b then b else a) = max a b := by rw [Int.max_def]; split <;> split <;> omega
  simp [Ex, execOp, resolve, invoke, builtin, Builtin.max_, hx, hy, Builtin.max2, this]
theorem ex_min {k : IntKind} {a b : Int} {ts : Array TypeId} (hx : ev N l x = .int k a) (hy : ev N l y = .int k b) :
    Ex P (.call { callee := .builtin .min, args := #[x, y], argTypes := ts }) ty N l w (.int k (min a b)) w := by
  have : (if b < a then b else a) = min a b := by rw [Int.min_def]; split <;> split <;> omega
  simp [Ex, execOp, resolve, invoke, builtin, Builtin.min_, hx, hy, Builtin.min2, this]
theorem exC_func {f : FuncId} {args : Array Operand} {ts : Array TypeId} {vs : List Value} (ha : args.toList.map (ev N l) = vs)
    (hf : ∀ (vs : Array Value) (w : World), (callFunc f vs).run P w = .ok (.enter f vs) w) :
    ExC P (.call { callee := .value (.func f), args := args, argTypes := ts }) ty N l w f vs.toArray := by
  simp [ExC, execOp, resolve, Deferred.ofValue, ev, invoke, hf, map_of ha]
theorem ex_callX {f : FuncId} {args : Array Operand} {ts : Array TypeId} {vs : List Value} (ha : args.toList.map (ev N l) = vs) (h : (callFunc f vs.toArray).run P w = .ok (.value v) w') :
    Ex P (.call { callee := .value (.func f), args := args, argTypes := ts }) ty N l w v w' := by
  simp [Ex, execOp, resolve, Deferred.ofValue, ev, invoke, h, map_of ha]
theorem exC_value {f : FuncId} {args : Array Operand} {ts : Array TypeId} {vs : List Value} {first cap : Array Value} (hx : ev N l x = .func (.func f) first cap) (ha : args.toList.map (ev N l) = vs)
    (hf : ∀ (vs : Array Value) (w : World), (callFunc f vs).run P w = .ok (.enter f vs) w) :
    ExC P (.call { callee := .value x, args := args, argTypes := ts }) ty N l w f (first ++ vs.toArray ++ cap) := by
  simp [ExC, execOp, resolve, Deferred.ofValue, hx, invoke, hf, map_of ha]
end exs
theorem enters {P : Program} {f : FuncId} {fn : Func} (h : P.funcs[f]? = some fn) (hb : fn.body.isNone = false) (hn : (fn.name == "runtime.NumGoroutine") = false) (vs : Array Value) (w : World) :
    (callFunc f vs).run P w = .ok (.enter f vs) w := by
  have hp : (program.run P w : Result Program) = .ok P w := rfl
  simp only [callFunc, Sem.run_bind, hp, Result.andThen_ok, h, hn, hb]
  rfl

section forms
variable {α σ : Type} (P : Program)
def Rn (enc : α → Value) (s : Sem Value) (w : World) (K : α → World → Prop) : Prop := ∃ x w', s.run P w = .ok (enc x) w' ∧ K x w'
def RnU (s : Sem Unit) (w : World) (K : World → Prop) : Prop := ∃ w', s.run P w = .ok () w' ∧ K w'
def RnP (enc : α → Value) (s : Sem Value) (K : α → Prop) : Prop := ∃ x, (∀ w, s.run P w = .ok (enc x) w) ∧ K x
def RnL (enc : α → Value) (s : Sem Value) (w0 : World) (K : α → Prop) : Prop := ∃ x, (∀ w, Ext w0 w → s.run P w = .ok (enc x) w) ∧ K x
def Cal (enc : α → Value) (f : FuncId) (args : Array Value) (w : World) (K : α → World → Prop) : Prop :=
  Calls P f args w fun e w' => ∃ x, e = .returned (enc x) ∧ K x w'
def CalV (enc : α → Value) (fv : Value) (args : Array Value) (w : World) (K : α → World → Prop) : Prop :=
  ∃ f first cap, fv = .func (.func f) first cap ∧ (∀ (vs : Array Value) (w : World), (callFunc f vs).run P w = .ok (.enter f vs) w) ∧ Cal P enc f (first ++ args ++ cap) w K
end forms
section forms
variable {α σ : Type}
def Lp (body : σ → World → (σ → World → Prop) → Prop) (s : σ) (w : World) : Prop :=
  ∃ (I : σ → World → Prop) (m : σ → World → Nat), I s w ∧ ∀ s w, I s w → body s w fun s' w' => I s' w' ∧ m s' w' < m s w
def Jn (body : (σ → World → Prop) → Prop) (rest : σ → World → Prop) : Prop := ∃ M : σ → World → Prop, body M ∧ ∀ s w, M s w → rest s w
def NotNil (p : Option Addr) (K : Addr → Prop) : Prop := ∃ a, p = some a ∧ K a
theorem Jn.dup {body : (σ → World → Prop) → Prop} {rest : σ → World → Prop} (h : body rest) : Jn body rest := ⟨rest, h, fun _ _ h => h⟩
end forms

section ctl
variable {P : Program} {Q : Exit → Act → World → Prop} {a : Act} {w : World}
theorem then_n {next : Act → World → Prop} (h : next a w) : Exit.then next Q .normal a w := h
theorem then_e {next : Act → World → Prop} {i : Nat} (h : Q (.exit i) a w) : Exit.then next Q (.exit i) a w := h
theorem then_r {next : Act → World → Prop} (h : Q .ret a w) : Exit.then next Q .ret a w := h
theorem inb_n {i : Nat} (h : Q .normal a w) : Exit.inBlock i Q .normal a w := h
theorem inb_r {i : Nat} (h : Q .ret a w) : Exit.inBlock i Q .ret a w := h
theorem inb_e {i : Nat} (h : Q .normal a w) : Exit.inBlock i Q (.exit i) a w := by simpa [Exit.inBlock] using h
theorem inb_o {i j : Nat} (hne : (j == i) = false) (h : Q (.exit j) a w) : Exit.inBlock i Q (.exit j) a w := by
  have : j ≠ i := by simpa using hne
  simpa [Exit.inBlock, this] using h
theorem region_ {id : Nat} {l : List Oper} (h : WL P l.toArray Q l a w) : (Code.region id l.toArray false).wp P Q a w := wp_region_lit h.out
theorem wl_nil {ops : Array Oper} (h : Q .normal a w) : WL P ops Q [] a w := ⟨h⟩
theorem cond_1 {N : Nat} {l : Nat → Value} {c : Operand} {x y : Code} {b : Bool} (hc : ev N l c = .bool b) (hb : b = true) (h1 : x.wp P Q (F N l) w) :
    (Code.cond c x y).wp P Q (F N l) w := wp_cond_true (by rw [F_eval, hc, hb]) h1
theorem cond_0 {N : Nat} {l : Nat → Value} {c : Operand} {x y : Code} {b : Bool} (hc : ev N l c = .bool b) (hb : b = false) (h1 : y.wp P Q (F N l) w) :
    (Code.cond c x y).wp P Q (F N l) w := wp_cond_false (by rw [F_eval, hc, hb]) h1
theorem least {p : Nat → Prop} (h : ∃ n, p n) : ∃ n, p n ∧ ∀ m, p m → n ≤ m := by
  obtain ⟨n, hn⟩ := h
  induction n using Nat.strongRecOn with
  | _ n ih =>
    by_cases hex : ∃ m, m < n ∧ p m
    · obtain ⟨m, hm, hp⟩ := hex; exact ih m hm hp
    · exact ⟨n, hn, fun m hm => Nat.le_of_not_lt fun hlt => hex ⟨m, hlt, hm⟩⟩
open Classical in
theorem wp_loop_x {σ : Type} {c : Code} (fr : σ → Act → Prop) (I : σ → World → Prop) (m : σ → World → Nat) (s : σ) (hf : fr s a) (hI : I s w)
    (round : ∀ s a w, fr s a → I s w → c.wp P (Exit.then (fun a' w' => ∃ s', fr s' a' ∧ I s' w' ∧ m s' w' < m s w) Q) a w) : (Code.loop c).wp P Q a w := by
  have ex : ∃ μ : Act → World → Nat, ∀ a w, (∃ s, fr s a ∧ I s w) → (∃ s, fr s a ∧ I s w ∧ m s w = μ a w) ∧ ∀ s, fr s a → I s w → μ a w ≤ m s w := by
    refine ⟨fun a w => if h : ∃ n, ∃ s, fr s a ∧ I s w ∧ m s w = n then Classical.choose (least h) else 0, fun a w hs => ?_⟩
    have h : ∃ n, ∃ s, fr s a ∧ I s w ∧ m s w = n := by obtain ⟨s, h1, h2⟩ := hs; exact ⟨_, s, h1, h2, rfl⟩
    simp only []
    rw [dif_pos h]
    have hc := Classical.choose_spec (least h)
    exact ⟨hc.1, fun s h1 h2 => hc.2 _ ⟨s, h1, h2, rfl⟩⟩
  obtain ⟨μ, hμ⟩ := ex
  refine wp_loop (fun a w => ∃ s, fr s a ∧ I s w) μ ⟨s, hf, hI⟩ ?_
  rintro a w hs
  obtain ⟨⟨s, h1, h2, h3⟩, _⟩ := hμ a w hs
  refine Code.wp_mono ?_ (round s a w h1 h2)
  intro e a' w' hq
  cases e <;> first | exact hq | skip
  obtain ⟨s', f1, f2, f3⟩ := hq
  exact ⟨⟨s', f1, f2⟩, by rw [← h3]; exact Nat.lt_of_le_of_lt ((hμ a' w' ⟨s', f1, f2⟩).2 s' f1 f2) f3⟩
end ctl
section ret
variable {P : Program} {fn : Func} {R : Ending → World → Prop} {N : Nat} {l : Nat → Value} {w : World}
theorem ret_0 (hfn : fn.results = #[]) (h : R (.returned (.tuple #[])) w) : bodyPost P fn R .ret (F N l) w :=
  bodyPost_ret (results_none hfn _ _ _) rfl h
theorem end_0 (hfn : fn.results = #[]) (h : R (.returned (.tuple #[])) w) : bodyPost P fn R .normal (F N l) w :=
  bodyPost_end (results_none hfn _ _ _) rfl h
theorem getD_F (t : Tmp) : (F N l).tmps.getD t undef = ev N l (.tmp t) := F_getD N l t
theorem ret_1 {t : Tmp} {v : Value} (hfn : fn.results = #[.tmp t]) (hv : ev N l (.tmp t) = v) (h : R (.returned v) w) : bodyPost P fn R .ret (F N l) w :=
  bodyPost_ret (results_tmp hfn _ _ _) rfl (by rw [getD_F, hv]; exact h)
theorem ret_2 {t u : Tmp} {v v' : Value} (hfn : fn.results = #[.tmp t, .tmp u]) (hv : ev N l (.tmp t) = v) (hv' : ev N l (.tmp u) = v') (h : R (.returned (.tuple #[v, v'])) w) :
    bodyPost P fn R .ret (F N l) w :=
  bodyPost_ret (results_tmp2 hfn _ _ _) rfl (by rw [getD_F, getD_F, hv, hv']; exact h)
theorem ret_c {t : Tmp} {T : TypeId} {p : Addr} {v : Value} (hfn : fn.results = #[.cell t T]) (hp : ev N l (.tmp t) = Ptr p) (hr : (loadVar T p).run P w = .ok v w) (h : R (.returned v) w) :
    bodyPost P fn R .ret (F N l) w := by
  refine bodyPost_ret (v := v) ?_ rfl h
  have h0 : (F N l).tmps.getD t undef = Value.pointer (some p) := (getD_F t).trans hp
  have h1 : (F N l).tmps[t]?.getD undef = Value.pointer (some p) := by simpa using h0
  simp [results, hfn, h1, asAddr, hr]
end ret
end Go.Eng


namespace Go.Eng
open Go
set_option linter.unusedVariables false

section steps
variable {P : Program} {ops : Array Oper} {Q : Exit → Act → World → Prop} {rest : List Oper} {N : Nat} {l : Nat → Value} {w : World}
  {d : Tmp} {op : Op} {ty : TypeId} {pos : String} {after : Array Edge} {α : Type} {enc : α → Value}
theorem st_rn {s : Sem Value} {K : α → World → Prop} (he : ∀ {v w'}, s.run P w = .ok v w' → Ex P op ty N l w v w') (h : Rn P enc s w K)
    (hk : ∀ x w', K x w' → WL P ops Q rest (F N (upd l d (enc x))) w') : WL P ops Q (⟨some d, op, ty, pos, after, none⟩ :: rest) (F N l) w := by
  obtain ⟨x, w', hr, hK⟩ := h; exact st_val (he hr) (hk x w' hK)
theorem st_rnu {s : Sem Unit} {K : World → Prop} (he : ∀ {w'}, s.run P w = .ok () w' → ExU P op ty N l w w') (h : RnU P s w K)
    (hk : ∀ w', K w' → WL P ops Q rest (F N l) w') : WL P ops Q (⟨none, op, ty, pos, after, none⟩ :: rest) (F N l) w := by
  obtain ⟨w', hr, hK⟩ := h; exact st_unit (he hr) (hk w' hK)
theorem st_rnp {s : Sem Value} {K : α → Prop} (he : ∀ {v w'}, s.run P w = .ok v w' → Ex P op ty N l w v w') (h : RnP P enc s K)
    (hk : ∀ x, K x → WL P ops Q rest (F N (upd l d (enc x))) w) : WL P ops Q (⟨some d, op, ty, pos, after, none⟩ :: rest) (F N l) w := by
  obtain ⟨x, hr, hK⟩ := h; exact st_val (he (hr w)) (hk x hK)
theorem st_cal {f : FuncId} {args : Array Operand} {ts : Array TypeId} {vs : List Value} {K : α → World → Prop}
    (hf : ∀ (vs : Array Value) (w : World), (callFunc f vs).run P w = .ok (.enter f vs) w) (ha : args.toList.map (ev N l) = vs) (h : Cal P enc f vs.toArray w K)
    (hk : ∀ x w', K x w' → WL P ops Q rest (F N (upd l d (enc x))) w') :
    WL P ops Q (⟨some d, .call { callee := .value (.func f), args := args, argTypes := ts }, ty, pos, after, none⟩ :: rest) (F N l) w :=
  st_call (exC_func ha hf) (h.mono fun e w' ⟨x, he, hK⟩ => ⟨_, he, hk x w' hK⟩)
theorem st_calv {x : Operand} {fv : Value} {args : Array Operand} {ts : Array TypeId} {vs : List Value} {K : α → World → Prop}
    (hx : ev N l x = fv) (ha : args.toList.map (ev N l) = vs) (h : CalV P enc fv vs.toArray w K)
    (hk : ∀ x w', K x w' → WL P ops Q rest (F N (upd l d (enc x))) w') :
    WL P ops Q (⟨some d, .call { callee := .value x, args := args, argTypes := ts }, ty, pos, after, none⟩ :: rest) (F N l) w := by
  obtain ⟨f, first, cap, rfl, hf, h⟩ := h
  exact st_call (exC_value hx ha hf) (h.mono fun e w' ⟨x, he, hK⟩ => ⟨_, he, hk x w' hK⟩)
end steps

section joins
variable {P : Program} {Q : Exit → Act → World → Prop} {N : Nat} {l : Nat → Value} {w : World} {c1 c2 : Code} {σ : Type}
theorem seq_ (h : c1.wp P (Exit.then (c2.wp P Q) Q) (F N l) w) : (Code.seq c1 c2).wp P Q (F N l) w := wp_seq h
theorem seq_join (fr : σ → (Nat → Value) → Prop) (M : σ → World → Prop) (h2 : ∀ s l w, fr s l → M s w → c2.wp P Q (F N l) w)
    (h1 : c1.wp P (Exit.then (fun a w => ∃ s l, a = F N l ∧ fr s l ∧ M s w) Q) (F N l) w) : (Code.seq c1 c2).wp P Q (F N l) w := by
  refine wp_seq (Code.wp_mono ?_ h1)
  intro e a w h
  cases e <;> first | exact h | skip
  obtain ⟨s, l, rfl, hf, hM⟩ := h
  exact h2 s l w hf hM
theorem wp_jn (fr : σ → (Nat → Value) → Prop) {body : (σ → World → Prop) → Prop} {rest : σ → World → Prop} (h : Jn body rest) (h2 : ∀ s l w, fr s l → rest s w → c2.wp P Q (F N l) w)
    (h1 : ∀ M, body M → c1.wp P (Exit.then (fun a w => ∃ s l, a = F N l ∧ fr s l ∧ M s w) Q) (F N l) w) : (Code.seq c1 c2).wp P Q (F N l) w := by
  obtain ⟨M, hb, hr⟩ := h
  exact seq_join fr M (fun s l w hf hM => h2 s l w hf (hr s w hM)) (h1 M hb)
theorem wp_lp {c : Code} {a : Act} (fr : σ → Act → Prop) {body : σ → World → (σ → World → Prop) → Prop} {s : σ} (h : Lp body s w) (hf : fr s a)
    (round : ∀ s a w K, fr s a → body s w K → c.wp P (Exit.then (fun a' w' => ∃ s', fr s' a' ∧ K s' w') Q) a w) : (Code.loop c).wp P Q a w := by
  obtain ⟨I, m, h0, hI⟩ := h
  exact wp_loop_x fr I m s hf h0 fun s a w hf hs => round s a w _ hf (hI s w hs)
theorem calls_ {f : FuncId} {fn : Func} {c : Code} {args : Array Value} {R : Ending → World → Prop} {n : Nat} (hf : P.funcs[f]? = some fn) (hn : fn.ntmps = n) (hb : fn.body = some c)
    (hl : Nat.ble args.toList.length n = true) (h : c.wp P (bodyPost P fn R) (F n (ofArgs args.toList 0)) w) : Calls P f args w R := by
  refine calls_of_wp hf hb ?_
  have key : ∀ (vs : List Value) (k i : Nat), ofArgs vs k (k + i) = (vs[i]?).getD undef := by
    intro vs
    induction vs with
    | nil => intro k i; rfl
    | cons a vs ih =>
      intro k i
      show upd (ofArgs vs (k + 1)) k a (k + i) = _
      cases i with
      | zero => simp [upd]
      | succ i =>
        have h1 : Nat.beq (k + (i + 1)) k = false := by
          cases hc : Nat.beq (k + (i + 1)) k
          · rfl
          · have := Nat.eq_of_beq_eq_true hc; omega
        have h2 := ih (k + 1) i
        have e : k + 1 + i = k + (i + 1) := by omega
        rw [e] at h2
        simp only [upd, h1, cond_false, h2]
        rfl
  have hl' : args.size ≤ n := by simpa using hl
  have e : (⟨args ++ Array.replicate (fn.ntmps - args.size) undef, []⟩ : Act) = F n (ofArgs args.toList 0) := by
    rw [hn]
    show _ = (⟨⟨_⟩, _⟩ : Act)
    congr 1
    apply Array.toList_inj.1
    apply List.ext_getElem
    · simp; omega
    · intro i h1 h2
      have h3 := key args.toList 0 i
      rw [Nat.zero_add] at h3
      simp only [Array.toList_append, Array.toList_replicate, List.getElem_map, List.getElem_range, h3]
      by_cases hi : i < args.size
      · rw [List.getElem_append_left (by simpa using hi)]
        simp [hi]
      · rw [List.getElem_append_right (by simpa using hi)]
        simp [hi]
  rw [e]; exact h
end joins

section drawn
variable {P : Program} {ops : Array Oper} {Q : Exit → Act → World → Prop} {C : List Nat} {G : World → Prop}
def anc (ops : Array Oper) (i : Nat) : Nat → Nat → Bool
  | 0, _ => false
  | f + 1, c => ((ops[c]?).map fun o => o.after.any fun e => Region.binds .any e && (e.on == i || anc ops i f e.on)).getD false
def closes (ops : Array Oper) (C : List Nat) (i : Nat) : Bool := C.all fun c => anc ops i 4 c
def Closed (ops : Array Oper) (listed : Array Bool) : Prop :=
  ∀ j oj, ops[j]? = some oj → listed.getD j false = true → ∀ e ∈ oj.after, Region.binds .any e = true → listed.getD e.on false = true
def closedB (ops : Array Oper) (listed : Array Bool) : Bool :=
  (List.range ops.size).all fun j => ((ops[j]?).map fun o => !(listed.getD j false) || o.after.all fun e => !(Region.binds .any e) || listed.getD e.on false).getD true
theorem closedB_spec {listed : Array Bool} (h : closedB ops listed = true) : Closed ops listed := by
  intro j oj hj hl e he hb
  have hjs : j < ops.size := (Array.getElem?_eq_some_iff.1 hj).1
  have h1 := List.all_eq_true.1 h j (List.mem_range.2 hjs)
  simp only [hj, Option.map_some, Option.getD_some, hl, Bool.not_true, Bool.false_or, Array.all_eq_true'] at h1
  have h2 := h1 e he
  simpa [hb] using h2
theorem getD_mono {listed : Array Bool} {j k : Nat} (h : listed.getD k false = true) : (listed.setIfInBounds j true).getD k false = true := by
  by_cases e : j = k
  · subst e
    rcases Nat.lt_or_ge j listed.size with h' | h'
    · simp [h']
    · simp [Array.getElem?_eq_none h'] at h
  · rw [getD_set_ne false e]; exact h
theorem Closed.set {listed : Array Bool} (h : Closed ops listed) {j : Nat} {oj : Oper} (hoj : ops[j]? = some oj) (hall : ∀ e ∈ oj.after, Region.binds .any e = true → listed.getD e.on false = true) : Closed ops (listed.setIfInBounds j true) := by
  intro k ok hk hl e he hb
  by_cases c : j = k
  · subst c
    rw [hk] at hoj; cases hoj
    exact getD_mono (hall e he hb)
  · rw [getD_set_ne false c] at hl
    exact getD_mono (h k ok hk hl e he hb)
theorem anc_listed {listed : Array Bool} (hcl : Closed ops listed) {i : Nat} : ∀ (f c : Nat) (oc : Oper), ops[c]? = some oc → (∀ e ∈ oc.after, Region.binds .any e = true → listed.getD e.on false = true) → anc ops i f c = true → listed.getD i false = true
  | 0, _, _, _, _, h => by cases h
  | f + 1, c, oc, hc, hall, h => by
    unfold anc at h
    simp only [hc, Option.map_some, Option.getD_some, Array.any_eq_true', Bool.and_eq_true, Bool.or_eq_true, beq_iff_eq] at h
    obtain ⟨e, he, hb, h⟩ := h
    have hl := hall e he hb
    rcases h with h | h
    · rw [← h]; exact hl
    · cases ho : ops[e.on]? with
      | none => cases f <;> simp [anc, ho] at h
      | some oe => exact anc_listed hcl f e.on oe ho (fun e' he' hb' => hcl e.on oe ho hl e' he' hb') h
def noC (C : List Nat) (listed : Array Bool) : Bool := C.all fun c => !(listed.getD c false)
theorem noC_spec {listed : Array Bool} : noC C listed = true ↔ ∀ c ∈ C, listed.getD c false = false := by
  simp only [noC, List.all_eq_true, Bool.not_eq_true']
theorem noC_set {listed : Array Bool} {j : Nat} (hj : j ∉ C) (h : noC C listed = true) : noC C (listed.setIfInBounds j true) = true := by
  rw [noC_spec] at *
  intro c hc
  have hne : j ≠ c := fun e => hj (e ▸ hc)
  rw [getD_set_ne false hne]; exact h c hc
theorem noC_unset {listed : Array Bool} {j : Nat} (h : noC C (listed.setIfInBounds j true) = true) : noC C listed = true := by
  rw [noC_spec] at *
  intro c hc
  have h1 := h c hc
  by_cases hne : j = c
  · subst hne
    rcases Nat.lt_or_ge j listed.size with h' | h'
    · simp [h'] at h1
    · simp [Array.getElem?_eq_none h']
  · rw [getD_set_ne false hne] at h1; exact h1
def wpX (P : Program) (ops : Array Oper) (Q : Exit → Act → World → Prop) (C : List Nat) (G : World → Prop) : Nat → Array Bool → Act → World → Prop
  | 0, listed, a, w => Region.ready .any ops listed = [] ∧ Q .normal a w
  | n + 1, listed, a, w => (Region.ready .any ops listed = [] → Q .normal a w) ∧
      ∀ i ∈ Region.ready .any ops listed, wpOp P ops Q i (fun a' w' => (noC C (listed.setIfInBounds i true) = true → G w') ∧ wpX P ops Q C G n (listed.setIfInBounds i true) a' w') a w
theorem wpAny_of_x : ∀ (n : Nat) (listed : Array Bool) (a : Act) (w : World), wpX P ops Q C G n listed a w → wpAny P .any ops Q n listed a w
  | 0, _, _, _, h => h
  | n + 1, _, _, _, h => ⟨h.1, fun i hi => wpOp_mono (fun a' w' h' => wpAny_of_x n _ a' w' h'.2) (h.2 i hi)⟩
theorem not_on {i : Nat} {listed : Array Bool} (hi : i ∈ Region.ready .any ops listed) {oj : Oper} (hall : ∀ e ∈ oj.after, Region.binds .any e = true → listed.getD e.on false = true) :
    ∀ e ∈ oj.after, Region.binds .any e = true → e.on ≠ i := by
  intro e he hb heq
  have h2 := hall e he hb
  have h0 := (mem_ready.1 hi).1
  rw [heq] at h2
  rcases Nat.lt_or_ge i listed.size with h' | h'
  · simp [h'] at h0 h2; rw [h0] at h2; cases h2
  · simp [Array.getElem?_eq_none h'] at h2
theorem closes_not {i j : Nat} (hc : closes ops C i = true) {listed : Array Bool} (hcl : Closed ops listed) (hi : i ∈ Region.ready .any ops listed) (hj : j ∈ Region.ready .any ops listed) : j ∉ C := by
  intro hjC
  have h1 := List.all_eq_true.1 hc j hjC
  obtain ⟨_, oj, hoj, hall⟩ := mem_ready.1 hj
  have h2 := anc_listed hcl 4 j oj hoj hall h1
  have h0 := (mem_ready.1 hi).1
  rcases Nat.lt_or_ge i listed.size with h' | h'
  · simp [h'] at h0 h2; rw [h0] at h2; cases h2
  · simp [Array.getElem?_eq_none h'] at h2
def Free (ops : Array Oper) (i : Nat) (oi : Oper) (listed : Array Bool) : Prop :=
  ∀ j oj, ops[j]? = some oj → j ≠ i → listed.getD j true = false → (∀ e ∈ oj.after, Region.binds .any e = true → e.on ≠ i) → oi.apart ops oj = true
theorem Free.set {i : Nat} {oi : Oper} {listed : Array Bool} (h : Free ops i oi listed) {j : Nat} (hjun : listed.getD j true = false) : Free ops i oi (listed.setIfInBounds j true) := by
  intro k ok hk hki hun hno
  refine h k ok hk hki ?_ hno
  by_cases hjk : j = k
  · subst hjk; exact hjun
  · rw [getD_set_ne true hjk] at hun; exact hun
theorem wpX_first {i : Nat} {oi : Oper} {v : Value} (hi : ops[i]? = some oi) (hsel : ∀ (j : Nat) (o : Oper) cs b, ops[j]? = some o → o.op ≠ .select cs b)
    (hc : closes ops C i = true) (hQ : ∀ c a w, Q (.panic c) (a.put oi.dst v) w → Q (.panic c) a w) :
    ∀ (n : Nat) (listed : Array Bool) (a : Act) (w : World), Closed ops listed → Free ops i oi listed → i ∈ Region.ready .any ops listed → YieldsIf P ops G oi v a → G w → noC C listed = true →
      wpX P ops Q C G n (listed.setIfInBounds i true) (a.put oi.dst v) w → wpX P ops Q C G (n + 1) listed a w := by
  intro n
  induction n with
  | zero =>
    intro listed a w _ _ hr hy hG hno H
    refine ⟨fun h => (by rw [h] at hr; cases hr), fun j hj => ?_⟩
    by_cases hji : j = i
    · subst hji; exact hy.wpOp hi hG ⟨fun _ => hG, H⟩
    · have h1 := ready_mono hj hji
      rw [H.1] at h1; cases h1
  | succ n ih =>
    intro listed a w hcl hfree hr hy hG hno H
    refine ⟨fun h => (by rw [h] at hr; cases hr), fun j hj => ?_⟩
    by_cases hji : j = i
    · subst hji; exact hy.wpOp hi hG ⟨fun _ => hG, H⟩
    · have hjC : j ∉ C := closes_not hc hcl hr hj
      have hiC : i ∉ C := closes_not hc hcl hr hr
      have h1 := H.2 j (ready_mono hj hji)
      obtain ⟨hjun, oj, hoj, hall⟩ := mem_ready.1 hj
      have h2 := wpOp_putIf hoj (hfree j oj hoj hji hjun (not_on hr hall)) (fun cs b => hsel i oi cs b hi) (fun cs b => hsel j oj cs b hoj) hQ hy h1
      refine wpOp_mono (fun a' w' h3 => ?_) h2
      have hGw : G w' := h3.2.1 (noC_set hjC (noC_set hiC hno))
      refine ⟨fun _ => hGw, ih (listed.setIfInBounds j true) a' w' (hcl.set hoj hall) (hfree.set hjun) (ready_mono hr (Ne.symm hji)) h3.1 hGw (noC_set hjC hno) ?_⟩
      rw [Array.setIfInBounds_comm _ _ hji]
      exact h3.2.2
theorem wpX_firstP {i : Nat} {oi : Oper} {v : Value} (hi : ops[i]? = some oi) (hsel : ∀ (j : Nat) (o : Oper) cs b, ops[j]? = some o → o.op ≠ .select cs b)
    (hiC : i ∉ C) (hQ : ∀ c a w, Q (.panic c) (a.put oi.dst v) w → Q (.panic c) a w) :
    ∀ (n : Nat) (listed : Array Bool) (a : Act) (w : World), Free ops i oi listed → i ∈ Region.ready .any ops listed → YieldsIf P ops (fun _ => True) oi v a → (noC C listed = true → G w) →
      wpX P ops Q C G n (listed.setIfInBounds i true) (a.put oi.dst v) w → wpX P ops Q C G (n + 1) listed a w := by
  intro n
  induction n with
  | zero =>
    intro listed a w _ hr hy hG H
    refine ⟨fun h => (by rw [h] at hr; cases hr), fun j hj => ?_⟩
    by_cases hji : j = i
    · subst hji; exact hy.wpOp hi trivial ⟨fun h => hG (noC_unset h), H⟩
    · have h1 := ready_mono hj hji
      rw [H.1] at h1; cases h1
  | succ n ih =>
    intro listed a w hfree hr hy hG H
    refine ⟨fun h => (by rw [h] at hr; cases hr), fun j hj => ?_⟩
    by_cases hji : j = i
    · subst hji; exact hy.wpOp hi trivial ⟨fun h => hG (noC_unset h), H⟩
    · have h1 := H.2 j (ready_mono hj hji)
      obtain ⟨hjun, oj, hoj, hall⟩ := mem_ready.1 hj
      have h2 := wpOp_putIf hoj (hfree j oj hoj hji hjun (not_on hr hall)) (fun cs b => hsel i oi cs b hi) (fun cs b => hsel j oj cs b hoj) hQ hy h1
      refine wpOp_mono (fun a' w' h3 => ?_) h2
      have hGw : noC C (listed.setIfInBounds j true) = true → G w' := fun h => h3.2.1 (by rw [Array.setIfInBounds_comm _ _ (Ne.symm hji)]; exact noC_set hiC h)
      refine ⟨hGw, ih (listed.setIfInBounds j true) a' w' (hfree.set hjun) (ready_mono hr (Ne.symm hji)) h3.1 hGw ?_⟩
      rw [Array.setIfInBounds_comm _ _ hji]
      exact h3.2.2

variable {N : Nat} {l : Nat → Value} {w : World} {n i : Nat} {listed : Array Bool} {d : Tmp} {op : Op} {ty : TypeId} {pos : String} {after : Array Edge} {v : Value}
structure WX (P : Program) (ops : Array Oper) (Q : Exit → Act → World → Prop) (C : List Nat) (G : World → Prop) (n : Nat) (listed : Array Bool) (a : Act) (w : World) : Prop where
  out : wpX P ops Q C G n listed a w
def Dr (w : World) (K : World → World → Prop) : Prop := K w.drew w.drew
theorem dr_begin {id : Nat} {os : List Oper} {K : World → World → Prop} (hm : P.follows .mixedOrders = true) (C : List Nat) {listed : Array Bool} (hl : Array.replicate os.toArray.size false = listed)
    {n : Nat} (hn : os.toArray.size = n) (h : Dr w K) (hk : ∀ w0, K w0 w0 → WX P os.toArray Q C (Ext w0) n listed (F N l) w0) : (Code.region id os.toArray true).wp P Q (F N l) w := by
  subst hl; subst hn
  exact wp_region_any hm (wpAny_of_x _ _ _ _ (hk _ h).out)
theorem dr_end (hr : Region.ready .any ops listed = []) (h : Q .normal (F N l) w) : WX P ops Q C G n listed (F N l) w := by
  refine ⟨?_⟩
  cases n with
  | zero => exact ⟨hr, h⟩
  | succ n => exact ⟨fun _ => h, by rw [hr]; simp⟩
def mayTakeP (ops : Array Oper) (C : List Nat) (listed : Array Bool) (i : Nat) : Bool :=
  Region.noSelect ops && Region.free .any ops listed i && (Region.ready .any ops listed).contains i && !(C.contains i)
def mayTake (ops : Array Oper) (C : List Nat) (listed : Array Bool) (i : Nat) : Bool :=
  Region.noSelect ops && Region.free .any ops listed i && (Region.ready .any ops listed).contains i && closes ops C i && noC C listed && closedB ops listed
theorem free_of {oi : Oper} (hi : ops[i]? = some oi) (h : Region.free .any ops listed i = true) : Free ops i oi listed := fun j oj hj hne hun hno => Region.free_spec hi h j oj hj hne hun hno
theorem dr_take_ {oi : Oper} (hs : mayTake ops C listed i = true) (hi : ops[i]? = some oi) (hQ : ∀ c a w, Q (.panic c) (a.put oi.dst v) w → Q (.panic c) a w)
    (hy : YieldsIf P ops G oi v (F N l)) (hG : G w) (h : WX P ops Q C G n (listed.setIfInBounds i true) ((F N l).put oi.dst v) w) : WX P ops Q C G (n + 1) listed (F N l) w := by
  simp only [mayTake, Bool.and_eq_true] at hs
  obtain ⟨⟨⟨⟨⟨hs1, hs2⟩, hs3⟩, hs4⟩, hs5⟩, hs6⟩ := hs
  exact ⟨wpX_first hi (Region.noSelect_spec hs1) hs4 hQ n listed (F N l) w (closedB_spec hs6) (free_of hi hs2) (by simpa using hs3) hy hG hs5 h.out⟩
theorem dr_takeP_ {oi : Oper} (hs : mayTakeP ops C listed i = true) (hi : ops[i]? = some oi) (hQ : ∀ c a w, Q (.panic c) (a.put oi.dst v) w → Q (.panic c) a w)
    (hy : YieldsIf P ops (fun _ => True) oi v (F N l)) (hG : noC C listed = true → G w) (h : WX P ops Q C G n (listed.setIfInBounds i true) ((F N l).put oi.dst v) w) : WX P ops Q C G (n + 1) listed (F N l) w := by
  simp only [mayTakeP, Bool.and_eq_true, Bool.not_eq_true'] at hs
  obtain ⟨⟨⟨hs1, hs2⟩, hs3⟩, hs4⟩ := hs
  exact ⟨wpX_firstP hi (Region.noSelect_spec hs1) (by simpa using hs4) hQ n listed (F N l) w (free_of hi hs2) (by simpa using hs3) hy hG h.out⟩
theorem dr_take (hs : mayTake ops C listed i = true) (hi : ops[i]? = some ⟨some d, op, ty, pos, after, none⟩) (hQ : ∀ c a w, Q (.panic c) (a.put (some d) v) w → Q (.panic c) a w)
    (hG : G w) (he : ∀ w', G w' → Ex P op ty N l w' v w') (h : WX P ops Q C G n (listed.setIfInBounds i true) (F N (upd l d v)) w) : WX P ops Q C G (n + 1) listed (F N l) w := by
  refine dr_take_ (v := v) hs hi hQ (.inl ⟨by simp [Region.wanted], fun w' hw => ?_⟩) hG (by rw [F_put]; exact h)
  rw [F_eval, execOp_eq]; exact he w' hw
theorem dr_take_on {g : Nat} {t : Tmp} {b c : Bool} (hs : mayTake ops C listed i = true) (hi : ops[i]? = some ⟨some d, op, ty, pos, after, some (g, b)⟩)
    (hd : (ops[g]?).bind (·.dst) = some t) (hv : ev N l (.tmp t) = (.bool c)) (hc : c = b) (hQ : ∀ c a w, Q (.panic c) (a.put (some d) v) w → Q (.panic c) a w)
    (hG : G w) (he : ∀ w', G w' → Ex P op ty N l w' v w') (h : WX P ops Q C G n (listed.setIfInBounds i true) (F N (upd l d v)) w) : WX P ops Q C G (n + 1) listed (F N l) w := by
  subst hc
  refine dr_take_ (v := v) hs hi hQ (.inl ⟨by simp [Region.wanted, yielded_of (N := N) (l := l) hd hv], fun w' hw => ?_⟩) hG (by rw [F_put]; exact h)
  rw [F_eval, execOp_eq]; exact he w' hw
theorem dr_takeP (hs : mayTakeP ops C listed i = true) (hi : ops[i]? = some ⟨some d, op, ty, pos, after, none⟩) (hQ : ∀ c a w, Q (.panic c) (a.put (some d) v) w → Q (.panic c) a w)
    (hG : noC C listed = true → G w) (he : ∀ w', Ex P op ty N l w' v w') (h : WX P ops Q C G n (listed.setIfInBounds i true) (F N (upd l d v)) w) : WX P ops Q C G (n + 1) listed (F N l) w := by
  refine dr_takeP_ (v := v) hs hi hQ (.inl ⟨by simp [Region.wanted], fun w' hw => ?_⟩) hG (by rw [F_put]; exact h)
  rw [F_eval, execOp_eq]; exact he w'
theorem dr_takeP_on {g : Nat} {t : Tmp} {b c : Bool} (hs : mayTakeP ops C listed i = true) (hi : ops[i]? = some ⟨some d, op, ty, pos, after, some (g, b)⟩)
    (hd : (ops[g]?).bind (·.dst) = some t) (hv : ev N l (.tmp t) = (.bool c)) (hc : c = b) (hQ : ∀ c a w, Q (.panic c) (a.put (some d) v) w → Q (.panic c) a w)
    (hG : noC C listed = true → G w) (he : ∀ w', Ex P op ty N l w' v w') (h : WX P ops Q C G n (listed.setIfInBounds i true) (F N (upd l d v)) w) : WX P ops Q C G (n + 1) listed (F N l) w := by
  subst hc
  refine dr_takeP_ (v := v) hs hi hQ (.inl ⟨by simp [Region.wanted, yielded_of (N := N) (l := l) hd hv], fun w' hw => ?_⟩) hG (by rw [F_put]; exact h)
  rw [F_eval, execOp_eq]; exact he w'
theorem dr_take_off {g : Nat} {t : Tmp} {b c : Bool} (hs : mayTakeP ops C listed i = true) (hi : ops[i]? = some ⟨some d, op, ty, pos, after, some (g, b)⟩)
    (hd : (ops[g]?).bind (·.dst) = some t) (hv : ev N l (.tmp t) = (.bool c)) (hc : c = !b) (hQ : ∀ c a w, Q (.panic c) (a.put (some d) undef) w → Q (.panic c) a w)
    (hG : noC C listed = true → G w) (h : WX P ops Q C G n (listed.setIfInBounds i true) (F N (upd l d undef)) w) : WX P ops Q C G (n + 1) listed (F N l) w := by
  subst hc
  exact dr_takeP_ (v := undef) hs hi hQ (.inr ⟨by simp [Region.wanted, yielded_of (N := N) (l := l) hd hv], rfl⟩) hG (by rw [F_put]; exact h)
theorem dr_take_offu {g : Nat} {t : Tmp} {b : Bool} (hs : mayTakeP ops C listed i = true) (hi : ops[i]? = some ⟨some d, op, ty, pos, after, some (g, b)⟩)
    (hd : (ops[g]?).bind (·.dst) = some t) (hv : ev N l (.tmp t) = undef) (hQ : ∀ c a w, Q (.panic c) (a.put (some d) undef) w → Q (.panic c) a w)
    (hG : noC C listed = true → G w) (h : WX P ops Q C G n (listed.setIfInBounds i true) (F N (upd l d undef)) w) : WX P ops Q C G (n + 1) listed (F N l) w :=
  dr_takeP_ (v := undef) hs hi hQ (.inr ⟨by simp [Region.wanted, yielded_none (N := N) (l := l) hd hv], rfl⟩) hG (by rw [F_put]; exact h)
theorem dr_only {oi : Oper} (hr : Region.ready .any ops listed = [i]) (hi : ops[i]? = some oi) (hg : oi.guard = none)
    (h : oi.wp P (F N l) w (fun a' w' => (noC C (listed.setIfInBounds i true) = true → G w') ∧ WX P ops Q C G n (listed.setIfInBounds i true) a' w') Q) : WX P ops Q C G (n + 1) listed (F N l) w := by
  refine ⟨⟨fun h0 => (by rw [hr] at h0; cases h0), fun j hj => ?_⟩⟩
  rw [hr] at hj
  obtain rfl : j = i := by simpa using hj
  unfold wpOp
  simp only [hi]
  rw [if_pos (by simp [Region.wanted, hg])]
  exact .inl (Oper.wp_mono (fun _ _ h => ⟨h.1, h.2.out⟩) h)
theorem dr_only_on {o : Option Tmp} {g : Nat} {t : Tmp} {b c : Bool} (hr : Region.ready .any ops listed = [i]) (hi : ops[i]? = some ⟨o, op, ty, pos, after, some (g, b)⟩)
    (hd : (ops[g]?).bind (·.dst) = some t) (hv : ev N l (.tmp t) = (.bool c)) (hc : c = b)
    (h : (⟨o, op, ty, pos, after, none⟩ : Oper).wp P (F N l) w (fun a' w' => (noC C (listed.setIfInBounds i true) = true → G w') ∧ WX P ops Q C G n (listed.setIfInBounds i true) a' w') Q) : WX P ops Q C G (n + 1) listed (F N l) w := by
  subst hc
  refine ⟨⟨fun h0 => (by rw [hr] at h0; cases h0), fun j hj => ?_⟩⟩
  rw [hr] at hj
  obtain rfl : j = i := by simpa using hj
  unfold wpOp
  simp only [hi]
  rw [if_pos (by simp [Region.wanted, yielded_of (N := N) (l := l) hd hv])]
  refine .inl (Oper.wp_mono (K := fun a' w' => (noC C (listed.setIfInBounds _ true) = true → G w') ∧ WX P ops Q C G n (listed.setIfInBounds _ true) a' w') (fun _ _ h => ⟨h.1, h.2.out⟩) ?_)
  unfold Oper.wp at h ⊢
  rw [execOp_eq] at h ⊢
  exact h
theorem dr_only_off {g : Nat} {t : Tmp} {b c : Bool} (hr : Region.ready .any ops listed = [i]) (hi : ops[i]? = some ⟨some d, op, ty, pos, after, some (g, b)⟩)
    (hd : (ops[g]?).bind (·.dst) = some t) (hv : ev N l (.tmp t) = (.bool c)) (hc : c = !b) (hG : noC C listed = true → G w)
    (h : WX P ops Q C G n (listed.setIfInBounds i true) (F N (upd l d undef)) w) : WX P ops Q C G (n + 1) listed (F N l) w := by
  subst hc
  refine ⟨⟨fun h0 => (by rw [hr] at h0; cases h0), fun j hj => ?_⟩⟩
  rw [hr] at hj
  obtain rfl : j = i := by simpa using hj
  unfold wpOp
  simp only [hi]
  rw [if_neg (by simp [Region.wanted, yielded_of (N := N) (l := l) hd hv]), F_put]
  exact ⟨fun hn => hG (noC_unset hn), h.out⟩
theorem noG {b : Bool} {X : Prop} (h : b = false) : b = true → X := fun hb => by rw [h] at hb; cases hb
end drawn
section owp
variable {P : Program} {Q : Exit → Act → World → Prop} {N : Nat} {l : Nat → Value} {w w' : World} {d : Tmp} {op : Op} {ty : TypeId} {pos : String} {after : Array Edge} {v : Value}
  {next : Act → World → Prop} {α : Type} {enc : α → Value}
theorem o_val (h : Ex P op ty N l w v w') (hk : next (F N (upd l d v)) w') : (⟨some d, op, ty, pos, after, none⟩ : Oper).wp P (F N l) w next Q := by
  unfold Oper.wp; rw [F_eval, execOp_eq, h, Oper.upon_value, F_put]; exact hk
theorem o_unit (h : ExU P op ty N l w w') (hk : next (F N l) w') : (⟨none, op, ty, pos, after, none⟩ : Oper).wp P (F N l) w next Q := by
  unfold Oper.wp; rw [F_eval, execOp_eq, h, Oper.upon_skip, F_put_none]; exact hk
theorem o_rn {s : Sem Value} {K : α → World → Prop} (he : ∀ {v w'}, s.run P w = .ok v w' → Ex P op ty N l w v w') (h : Rn P enc s w K)
    (hk : ∀ x w', K x w' → next (F N (upd l d (enc x))) w') : (⟨some d, op, ty, pos, after, none⟩ : Oper).wp P (F N l) w next Q := by
  obtain ⟨x, w', hr, hK⟩ := h; exact o_val (he hr) (hk x w' hK)
theorem o_rnu {s : Sem Unit} {K : World → Prop} (he : ∀ {w'}, s.run P w = .ok () w' → ExU P op ty N l w w') (h : RnU P s w K)
    (hk : ∀ w', K w' → next (F N l) w') : (⟨none, op, ty, pos, after, none⟩ : Oper).wp P (F N l) w next Q := by
  obtain ⟨w', hr, hK⟩ := h; exact o_unit (he hr) (hk w' hK)
theorem o_call {f : FuncId} {args : Array Value} (hc : ExC P op ty N l w f args)
    (h : Calls P f args w fun e w' => ∃ v, e = .returned v ∧ next (F N (upd l d v)) w') : (⟨some d, op, ty, pos, after, none⟩ : Oper).wp P (F N l) w next Q := by
  unfold Oper.wp; rw [F_eval, execOp_eq, hc, Oper.upon_enter]
  refine h.mono ?_
  rintro e w' ⟨v, rfl, hv⟩
  show next ((F N l).put (some d) v) w'
  rw [F_put]; exact hv
theorem o_cal {f : FuncId} {args : Array Operand} {ts : Array TypeId} {vs : List Value} {K : α → World → Prop}
    (hf : ∀ (vs : Array Value) (w : World), (callFunc f vs).run P w = .ok (.enter f vs) w) (ha : args.toList.map (ev N l) = vs) (h : Cal P enc f vs.toArray w K)
    (hk : ∀ x w', K x w' → next (F N (upd l d (enc x))) w') :
    (⟨some d, .call { callee := .value (.func f), args := args, argTypes := ts }, ty, pos, after, none⟩ : Oper).wp P (F N l) w next Q :=
  o_call (exC_func ha hf) (h.mono fun e w' ⟨x, he, hK⟩ => ⟨_, he, hk x w' hK⟩)
theorem o_calv {x : Operand} {fv : Value} {args : Array Operand} {ts : Array TypeId} {vs : List Value} {K : α → World → Prop}
    (hx : ev N l x = fv) (ha : args.toList.map (ev N l) = vs) (h : CalV P enc fv vs.toArray w K)
    (hk : ∀ x w', K x w' → next (F N (upd l d (enc x))) w') :
    (⟨some d, .call { callee := .value x, args := args, argTypes := ts }, ty, pos, after, none⟩ : Oper).wp P (F N l) w next Q := by
  obtain ⟨f, first, cap, rfl, hf, h⟩ := h
  exact o_call (exC_value hx ha hf) (h.mono fun e w' ⟨x, he, hK⟩ => ⟨_, he, hk x w' hK⟩)
end owp
theorem Ext.refl (w : World) : Ext w w := RowKit.Below.refl _ _
theorem Ext.trans {a b c : World} (h : Ext a b) (k : Ext b c) : Ext a c := RowKit.Below.trans h (k.mono h.size)
theorem Ext.drew (w : World) : Ext w w.drew := (RowKit.Below.refl _ _).drew
theorem Ext.alloc (w : World) (o : Obj) : Ext w (w.alloc o) := (RowKit.Below.refl _ _).alloc (Nat.le_refl _) o
def ExtK {α : Type} (w : World) (K : α → World → Prop) (x : α) (w' : World) : Prop := Ext w w' ∧ K x w'
end Go.Eng


namespace Go.Eng
open Go
set_option linter.unusedVariables false

section exs
variable {P : Program} {N : Nat} {l : Nat → Value} {w w' : World} {ty : TypeId} {x y z : Operand} {v : Value} {t : TypeId}
def sLt (x y : ByteArray) : Bool := Op.bytesLess x.data.toList y.data.toList
theorem toList_beq (a b : ByteArray) : (a.toList == b.toList) = decide (a = b) := by
  rw [ByteArray.toList_eq, ByteArray.toList_eq, Bool.eq_iff_iff]
  simp only [beq_iff_eq, decide_eq_true_eq]
  exact ⟨fun h => ByteArray.ext (Array.toList_inj.1 h), fun h => by rw [h]⟩
section strs
variable {a b : ByteArray} {t' : TypeId} (hx : ev N l x = .string a) (hy : ev N l y = .string b)
include hx hy
theorem ex_eqlS : Ex P (.binOp .eql t x y t') ty N l w (.bool (decide (a = b))) w := ex_binOp hx hy guard_string (by
  simp only [binOp, Op.stringOp, toList_beq, Sem.run_pure])
theorem ex_neqS : Ex P (.binOp .neq t x y t') ty N l w (.bool (decide (a ≠ b))) w := ex_binOp hx hy guard_string (by
  have : (!(decide (a = b))) = decide (a ≠ b) := by simp
  simp only [binOp, Op.stringOp, toList_beq, Sem.run_pure, this])
theorem ex_lssS : Ex P (.binOp .lss t x y t') ty N l w (.bool (sLt a b)) w := ex_binOp hx hy guard_string (by
  simp only [binOp, Op.stringOp, ByteArray.toList_eq, Sem.run_pure, sLt])
theorem ex_gtrS : Ex P (.binOp .gtr t x y t') ty N l w (.bool (!(sLt a b || decide (a = b)))) w := ex_binOp hx hy guard_string (by
  simp only [binOp, Op.stringOp, toList_beq, Sem.run_pure, sLt]; simp only [ByteArray.toList_eq])
theorem ex_addS (h : ((a.size + b.size : Nat) : Int) ≤ IntKind.i64.max) : Ex P (.binOp .add t x y t') ty N l w (.string (a ++ b)) w := ex_binOp hx hy guard_string (by
  simp only [binOp, Op.stringOp]
  rw [if_neg (by omega)]; rfl)
end strs
def fEq (x y : Nat) : Bool := FloatKind.f64.format.order x y == some .eq
def fNe (x y : Nat) : Bool := FloatKind.f64.format.order x y != some .eq
def fLt (x y : Nat) : Bool := FloatKind.f64.format.order x y == some .lt
def fGt (x y : Nat) : Bool := FloatKind.f64.format.order x y == some .gt
def fLe (x y : Nat) : Bool := FloatKind.f64.format.order x y == some .lt || FloatKind.f64.format.order x y == some .eq
def fGe (x y : Nat) : Bool := FloatKind.f64.format.order x y == some .gt || FloatKind.f64.format.order x y == some .eq
section floats
variable {a b : Nat} {t' : TypeId} (hx : ev N l x = .float .f64 a) (hy : ev N l y = .float .f64 b)
include hx hy
theorem ex_gtrF : Ex P (.binOp .gtr t x y t') ty N l w (.bool (fGt a b)) w := ex_binOp hx hy guard_float (by simp [binOp, Op.floatCmp, fGt])
theorem ex_leqF : Ex P (.binOp .leq t x y t') ty N l w (.bool (fLe a b)) w := ex_binOp hx hy guard_float (by simp [binOp, Op.floatCmp, fLe])
theorem ex_geqF : Ex P (.binOp .geq t x y t') ty N l w (.bool (fGe a b)) w := ex_binOp hx hy guard_float (by simp [binOp, Op.floatCmp, fGe])
theorem ex_addF (h : (Op.floatArith .add .f64 a b).run P w = .ok v w') : Ex P (.binOp .add t x y t') ty N l w v w' := ex_binOp hx hy guard_float (by simpa [binOp] using h)
theorem ex_mulF (h : (Op.floatArith .mul .f64 a b).run P w = .ok v w') : Ex P (.binOp .mul t x y t') ty N l w v w' := ex_binOp hx hy guard_float (by simpa [binOp] using h)
theorem ex_quoF (h : (Op.floatArith .quo .f64 a b).run P w = .ok v w') : Ex P (.binOp .quo t x y t') ty N l w v w' := ex_binOp hx hy guard_float (by simpa [binOp] using h)
end floats
theorem ex_binI {o : BinOp} {k k' : IntKind} {a b : Int} {t' : TypeId} (hx : ev N l x = .int k a) (hy : ev N l y = .int k' b)
    (h : (binOp o t (.int k a) (.int k' b)).run P w = .ok v w') : Ex P (.binOp o t x y t') ty N l w v w' := ex_binOp hx hy guard_int h
theorem ex_convI {s : TypeId} {k k' : IntKind} {n : Int} (hs : P.underlying s = some (.int k')) (hd : P.underlying t = some (.int k)) (hx : ev N l x = .int k' n) :
    Ex P (.convert s t x) ty N l w (.int k (k.wrap n)) w := ex_convert hx (by
  simp [convert, run_underlying hs, run_underlying hd, Conv.intToInt])
theorem ex_eqlA {a b : Array Value} {t' : TypeId} (hg : (P.eqGuardType P.depth t) = false) (hx : ev N l x = .agg a) (hy : ev N l y = .agg b)
    (h : (do pure (Value.bool (← Op.equal t (.agg a) (.agg b))) : Sem Value).run P w = .ok v w') : Ex P (.binOp .eql t x y t') ty N l w v w' := by
  refine ex_binOp hx hy ?_ h
  have hp : ∀ w, (program.run P w : Result Program) = .ok P w := fun _ => rfl
  simp [eqGuard, hp, hg]
theorem ex_nilCheckP {p : Option Addr} {a : Addr} (hx : ev N l x = .pointer p) (hp : p = some a) : Ex P (.nilCheck x) ty N l w (Ptr a) w := by
  subst hp; exact ex_nilCheck hx
theorem ex_fa {f off : Nat} {p : Addr} (h : ∀ (p : Addr) (w : World), (Instr.fieldAt t (Ptr p) f).run P w = .ok (Ptr (p.add off)) w) (hx : ev N l x = Ptr p) :
    Ex P (.fieldAddr t x f) ty N l w (Ptr (p.add off)) w := ex_fieldAddr hx (h p w)
theorem e_fa {fs : Array Field} {fld : Field} {f : Nat} {i : TypeInfo} (hu : P.underlying t = some (.struct fs)) (hf : fs[f]? = some fld) (hi : P.info? fld.type = some i) (hs : (i.size == 0) = false) {off : Nat} (ho : fld.offset = off)
    (p : Addr) (w : World) : (Instr.fieldAt t (Ptr p) f).run P w = .ok (Ptr (p.add off)) w := by
  subst ho
  have hp : ∀ w, (program.run P w : Result Program) = .ok P w := fun _ => rfl
  have hs' : ¬ i.size = 0 := by simpa using hs
  simp [Instr.fieldAt, run_underlying hu, hf, Instr.sureAddr, Ptr, fieldPlace, sizeOf, typeInfo, hp, hi, hs']
end exs
section news
variable {P : Program} {ops : Array Oper} {Q : Exit → Act → World → Prop} {rest : List Oper} {N : Nat} {l : Nat → Value} {w : World} {d : Tmp} {ty : TypeId} {pos : String} {after : Array Edge} {x : Operand} {t : TypeId}
def New (e : TypeId) (cs : List Value) (w : World) (K : Nat → World → Prop) : Prop := ∀ b w', b = w.heap.size → w' = w.alloc (.cells cs.toArray e) → K b w'
def NewM (w : World) (K : Nat → World → Prop) : Prop := ∀ b w', b = w.heap.size → w' = w.alloc (.map #[] 0) → K b w'
def NotFn (fv : Value) (K : Prop) : Prop := ∃ f a b, fv = .func (.func f) a b ∧ K
theorem e_box {v : Value} (w : World) : (Instr.box t v).run P w = .ok (Ptr ⟨w.heap.size, 0, none⟩) (w.alloc (.cells v.cells t)) := rfl
theorem e_alloc {z : Value} (hz : (P.info? t).map (·.zero) = some (some z)) (w : World) :
    (Instr.alloc t true (.tuple #[])).run P w = .ok (Ptr ⟨w.heap.size, 0, none⟩) (w.alloc (.cells z.cells t)) := by
  have hp : ∀ w, (program.run P w : Result Program) = .ok P w := fun _ => rfl
  cases hi : P.info? t with
  | none => rw [hi] at hz; cases hz
  | some i =>
    rw [hi] at hz
    have hz' : i.zero = some z := by simpa using hz
    simp [Instr.alloc, zeroValue, typeInfo, hp, hi, hz', newVar, newRow, newObj, Ptr]
    rfl
theorem ex_boxN {v : Value} {cs : List Value} (hx : ev N l x = v) (hc : v.cells = cs.toArray) : Ex P (.box t x) ty N l w (Ptr ⟨w.heap.size, 0, none⟩) (w.alloc (.cells cs.toArray t)) :=
  ex_box hx (by rw [e_box, hc])
theorem ex_allocN {z : Value} {cs : List Value} (hz : (P.info? t).map (·.zero) = some (some z)) (hc : z.cells = cs.toArray) : Ex P (.alloc t) ty N l w (Ptr ⟨w.heap.size, 0, none⟩) (w.alloc (.cells cs.toArray t)) :=
  ex_alloc (by rw [e_alloc hz, hc])
theorem e_buildSlice {e : TypeId} {i : TypeInfo} {z : Value} {n : Nat} {parts : Array (Nat × Value)} {cs : List Value} (hu : P.underlying t = some (.slice e)) (hi : P.info? e = some i) (hz : i.zero = some z)
    (hn : ¬ (n * i.size > 2 ^ 24)) (hn0 : ¬ (n * i.size = 0))
    (hf : Instr.fill (fun k => some (k * i.size, i.size)) ((Array.range (n * i.size)).map (z.cells[· % z.cells.size]!)) parts.toList = some cs.toArray) (w : World) :
    (Instr.buildSlice t n parts).run P w = .ok (.slice (some ⟨w.heap.size, 0, none⟩) n n) (w.alloc (.cells cs.toArray e)) := by
  have hp : ∀ w, (program.run P w : Result Program) = .ok P w := fun _ => rfl
  simp only [Instr.buildSlice, Sem.run_bind, run_underlying hu, Result.andThen_ok, sizeOf, typeInfo, hp, hi, Sem.run_pure, if_neg hn, if_neg hn0, zeroValue, hz, hf]
  rfl
theorem e_buildSlice0 {e : TypeId} {i : TypeInfo} (hu : P.underlying t = some (.slice e)) (hi : P.info? e = some i) (w : World) :
    (Instr.buildSlice t 0 #[]).run P w = .ok (.slice (some ⟨w.heap.size, 0, none⟩) 0 0) (w.alloc (.cells ([] : List Value).toArray e)) := by
  have hp : ∀ w, (program.run P w : Result Program) = .ok P w := fun _ => rfl
  have h0 : ∀ f : Nat → Value, (Array.range 0).map f = #[] := fun f => by
    apply Array.eq_empty_of_size_eq_zero; simp
  simp [Instr.buildSlice, run_underlying hu, sizeOf, typeInfo, hp, hi, Instr.fill, newRow, newObj, h0]
  rfl
def fieldsOf (P : Program) (t : TypeId) : Array Field := match P.underlying t with | some (.struct fs) => fs | _ => #[]
theorem e_build {fs : Array Field} {pl : Array (Nat × Nat)} {z : Value} {zs : Array Value} {parts : Array (Nat × Value)} {cells : Array Value} (hu : P.underlying t = some (.struct fs))
    (hz : (P.info? t).map (·.zero) = some (some z)) (hzs : z.cells = zs)
    (hpl : ∀ w, ((fieldsOf P t).mapM fun f => do pure (f.offset, ← sizeOf f.type) : Sem (Array (Nat × Nat))).run P w = .ok pl w)
    (hf : Instr.fill (pl[·]?) zs parts.toList = some cells) (w : World) : (Instr.build t parts).run P w = .ok (.agg cells) w := by
  have hp : ∀ w, (program.run P w : Result Program) = .ok P w := fun _ => rfl
  subst hzs
  cases hi : P.info? t with
  | none => rw [hi] at hz; cases hz
  | some i =>
    rw [hi] at hz
    have hz' : i.zero = some z := by simpa using hz
    have h1 : (zeroValue t).run P w = .ok z w := by simp [zeroValue, typeInfo, hp, hi, hz']
    have hfs : fieldsOf P t = fs := by simp [fieldsOf, hu]
    rw [hfs] at hpl
    unfold Instr.build
    simp only [Sem.run_bind, h1, Result.andThen_ok, run_underlying hu, hpl, hf, Sem.run_pure]
theorem e_makeMap (w : World) : (Instr.makeMap t none).run P w = .ok (.map (some w.heap.size)) (w.alloc (.map #[] 0)) := rfl
theorem st_new {op : Op} {e : TypeId} {cs : List Value} {K : Nat → World → Prop} {f : Nat → Value} (he : Ex P op ty N l w (f w.heap.size) (w.alloc (.cells cs.toArray e))) (h : New e cs w K)
    (hk : ∀ b w', K b w' → WL P ops Q rest (F N (upd l d (f b))) w') : WL P ops Q (⟨some d, op, ty, pos, after, none⟩ :: rest) (F N l) w :=
  st_val he (hk _ _ (h _ _ rfl rfl))
def RnR {α : Type} (P : Program) (enc : α → Value) (s : Sem Value) (w : World) (K : α → Prop) : Prop := ∃ x, s.run P w = .ok (enc x) w ∧ K x
theorem st_newm {op : Op} {K : Nat → World → Prop} (he : Ex P op ty N l w (.map (some w.heap.size)) (w.alloc (.map #[] 0))) (h : NewM w K)
    (hk : ∀ b w', K b w' → WL P ops Q rest (F N (upd l d (.map (some b)))) w') : WL P ops Q (⟨some d, op, ty, pos, after, none⟩ :: rest) (F N l) w :=
  st_val he (hk _ _ (h _ _ rfl rfl))
theorem o_new {next : Act → World → Prop} {op : Op} {e : TypeId} {cs : List Value} {K : Nat → World → Prop} {f : Nat → Value} (he : Ex P op ty N l w (f w.heap.size) (w.alloc (.cells cs.toArray e))) (h : New e cs w K)
    (hk : ∀ b w', Ext w w' → K b w' → next (F N (upd l d (f b))) w') : (⟨some d, op, ty, pos, after, none⟩ : Oper).wp P (F N l) w next Q :=
  o_val he (hk _ _ (Ext.alloc _ _) (h _ _ rfl rfl))
def Rx {α : Type} (P : Program) (enc : α → Value) (f : FuncId) (vs : Array Value) (w : World) (K : α → World → Prop) : Prop := ∃ x w', (callFunc f vs).run P w = .ok (.value (enc x)) w' ∧ K x w'
theorem st_rx {α : Type} {enc : α → Value} {f : FuncId} {args : Array Operand} {ts : Array TypeId} {vs : List Value} {K : α → World → Prop} (ha : args.toList.map (ev N l) = vs) (h : Rx P enc f vs.toArray w K)
    (hk : ∀ x w', K x w' → WL P ops Q rest (F N (upd l d (enc x))) w') :
    WL P ops Q (⟨some d, .call { callee := .value (.func f), args := args, argTypes := ts }, ty, pos, after, none⟩ :: rest) (F N l) w := by
  obtain ⟨x, w', hr, hK⟩ := h; exact st_val (ex_callX ha hr) (hk x w' hK)
end news
section rets
variable {P : Program} {fn : Func} {R : Ending → World → Prop} {N : Nat} {l : Nat → Value} {w : World} {t u : Tmp} {T U : TypeId} {p p' : Addr} {v v' : Value}
theorem getq (hp : ev N l (.tmp t) = v) : (F N l).tmps[t]?.getD undef = v := by
  have h0 : (F N l).tmps.getD t undef = v := (getD_F t).trans hp
  simpa using h0
theorem ret_ct (hfn : fn.results = #[.cell t T, .tmp u]) (hp : ev N l (.tmp t) = Ptr p) (hr : (loadVar T p).run P w = .ok v w) (hp' : ev N l (.tmp u) = v')
    (h : R (.returned (.tuple #[v, v'])) w) : bodyPost P fn R .ret (F N l) w := by
  refine bodyPost_ret (v := .tuple #[v, v']) ?_ rfl h
  have h1 := getq hp; have h2 := getq hp'
  unfold Ptr at h1
  simp [results, hfn, h1, h2, asAddr, hr]
theorem ret_tc (hfn : fn.results = #[.tmp t, .cell u U]) (hp : ev N l (.tmp t) = v) (hp' : ev N l (.tmp u) = Ptr p') (hr' : (loadVar U p').run P w = .ok v' w)
    (h : R (.returned (.tuple #[v, v'])) w) : bodyPost P fn R .ret (F N l) w := by
  refine bodyPost_ret (v := .tuple #[v, v']) ?_ rfl h
  have h1 := getq hp; have h2 := getq hp'
  unfold Ptr at h2
  simp [results, hfn, h1, h2, asAddr, hr']
end rets
def aggD : TypeDesc → Bool
  | .struct _ | .array _ _ => true
  | _ => false
def One (P : Program) (t : TypeId) : Prop := ∃ d, P.underlying t = some d ∧ aggD d = false
def Many (P : Program) (t : TypeId) (n : Nat) : Prop := (∃ d, P.underlying t = some d ∧ aggD d = true) ∧ (P.info? t).map (·.size) = some n
def SlT (P : Program) (t e sz : Nat) : Prop := P.underlying t = some (.slice e) ∧ (P.info? e).map (·.size) = some sz
structure ElT (P : Program) (t T sz bytes : Nat) (z : Value) : Prop where
  und : P.underlying t = some (.slice T)
  inf : (P.info? T).map (fun i => (i.zero, i.size, i.bytes)) = some (some z, sz, bytes)
  zc : z.cells.size = sz
  pos : 0 < sz
structure Chg (S : Nat → Prop) (w w' : World) : Prop where
  os : w'.os = w.os
  tape : w'.tape = w.tape
  output : w'.output = w.output
  size : w.heap.size ≤ w'.heap.size
  block : ∀ k, k < w.heap.size → ¬ S k → w'.heap[k]? = w.heap[k]?
section
variable {S T : Nat → Prop} {a b c w w' w0 : World}
theorem Chg.refl (S : Nat → Prop) (w : World) : Chg S w w := ⟨rfl, rfl, rfl, Nat.le_refl _, fun _ _ _ => rfl⟩
theorem Chg.trans (h : Chg S a b) (k : Chg S b c) : Chg S a c :=
  ⟨k.os.trans h.os, k.tape.trans h.tape, k.output.trans h.output, Nat.le_trans h.size k.size, fun i hi hs => (k.block i (Nat.lt_of_lt_of_le hi h.size) hs).trans (h.block i hi hs)⟩
theorem Chg.mono (h : Chg S a b) (hs : ∀ k, k < a.heap.size → S k → T k) : Chg T a b := ⟨h.os, h.tape, h.output, h.size, fun k hk hT => h.block k hk fun hS => hT (hs k hk hS)⟩
theorem Ext.chg (h : Ext a b) (S : Nat → Prop) : Chg S a b := ⟨h.os, h.tape, h.output, h.size, fun k hk _ => h.block k hk⟩
theorem Chg.ext (h : Chg S a b) (hs : ∀ k, k < a.heap.size → ¬ S k) : Ext a b := ⟨h.os, h.tape, h.output, h.size, fun k hk => h.block k hk (hs k hk)⟩
theorem Ext.then (h : Ext w0 w) (k : Chg S w w') (hs : ∀ b, S b → w0.heap.size ≤ b) : Ext w0 w' :=
  ⟨k.os.trans h.os, k.tape.trans h.tape, k.output.trans h.output, Nat.le_trans h.size k.size, fun i hi =>
    (k.block i (Nat.lt_of_lt_of_le hi h.size) fun hS => by have := hs i hS; omega).trans (h.block i hi)⟩
theorem Chg.then (h : Chg S w0 w) (k : Chg T w w') (hs : ∀ b, b < w0.heap.size → T b → S b) : Chg S w0 w' :=
  ⟨k.os.trans h.os, k.tape.trans h.tape, k.output.trans h.output, Nat.le_trans h.size k.size, fun i hi hn =>
    (k.block i (Nat.lt_of_lt_of_le hi h.size) fun hT => hn (hs i hi hT)).trans (h.block i hi hn)⟩
theorem Chg.thenE (h : Chg S w0 w) (k : Ext w w') : Chg S w0 w' := h.then (k.chg (fun _ => False)) (fun _ _ h => h.elim)
theorem Chg.cell (h : Chg S w w') {p : Addr} {v : Value} (hc : w.cell? p = some v) (hs : ¬ S p.block) : w'.cell? p = some v :=
  (World.cell?_of_block (w := w) (h.block p.block (World.block_lt_of_cell? w p hc) hs)).trans hc
theorem Ext.cell' (h : Ext w w') {p : Addr} {v : Value} (hc : w.cell? p = some v) : w'.cell? p = some v :=
  (World.cell?_of_block (w := w) (h.block p.block (World.block_lt_of_cell? w p hc))).trans hc
end

def RnC {α : Type} (P : Program) (S : Nat → Prop) (enc : α → Value) (s : Sem Value) (w0 : World) (K : α → Prop) : Prop := ∃ x, (∀ w, Chg S w0 w → s.run P w = .ok (enc x) w) ∧ K x
def ChgK {α : Type} (S : Nat → Prop) (w : World) (K : α → World → Prop) (x : α) (w' : World) : Prop := Chg S w w' ∧ K x w'
section
variable {P : Program} {Q : Exit → Act → World → Prop} {N : Nat} {l : Nat → Value} {w : World}
theorem dr_beginC {id : Nat} {os : List Oper} {K : World → World → Prop} (S : Nat → Prop) (hm : P.follows .mixedOrders = true) (C : List Nat) {listed : Array Bool} (hl : Array.replicate os.toArray.size false = listed)
    {n : Nat} (hn : os.toArray.size = n) (h : Dr w K) (hk : ∀ w0, K w0 w0 → WX P os.toArray Q C (Chg S w0) n listed (F N l) w0) : (Code.region id os.toArray true).wp P Q (F N l) w := by
  subst hl; subst hn
  exact wp_region_any hm (wpAny_of_x _ _ _ _ (hk _ h).out)
end
end Go.Eng


namespace Go.Proofs.Ytdoeegfcmbcbkaa.Tr
open Go Go.Eng
set_option linter.unusedVariables false
set_option maxRecDepth 100000
set_option maxHeartbeats 4000000
structure TShare where
  Service : ByteArray
  Upto : Nat

def TShare.cells (x : TShare) : List Value := [(.string x.Service), (.float .f64 x.Upto)]
def TShare.v (x : TShare) : Value := .agg (Array.mk x.cells)

structure TResource where
  Kind : Int
  Name : ByteArray
  Endpoints : Sl
  Targets : Sl
  Host : ByteArray
  Rules : Sl
  Route : ByteArray
  Delete : Bool

def TResource.cells (x : TResource) : List Value := [(.int .i64 x.Kind), (.string x.Name), (Sl.v x.Endpoints), (Sl.v x.Targets), (.string x.Host), (Sl.v x.Rules), (.string x.Route), (.bool x.Delete)]
def TResource.v (x : TResource) : Value := .agg (Array.mk x.cells)

structure TTables where
  Version : Int
  Hosts : Sl
  Services : Sl

def TTables.cells (x : TTables) : List Value := [(.int .i64 x.Version), (Sl.v x.Hosts), (Sl.v x.Services)]
def TTables.v (x : TTables) : Value := .agg (Array.mk x.cells)

structure THost where
  Host : ByteArray
  Route : ByteArray
  Entries : Sl
  Permits : Sl

def THost.cells (x : THost) : List Value := [(.string x.Host), (.string x.Route), (Sl.v x.Entries), (Sl.v x.Permits)]
def THost.v (x : THost) : Value := .agg (Array.mk x.cells)

structure TEntry where
  Path : ByteArray
  Method : ByteArray
  Shares : Sl

def TEntry.cells (x : TEntry) : List Value := [(.string x.Path), (.string x.Method), (Sl.v x.Shares)]
def TEntry.v (x : TEntry) : Value := .agg (Array.mk x.cells)

structure TFault where
  Doc : Int
  Line : Int
  Err : Int

def TFault.cells (x : TFault) : List Value := [(.int .i64 x.Doc), (.int .i64 x.Line), (.int .i64 x.Err)]
def TFault.v (x : TFault) : Value := .agg (Array.mk x.cells)

structure TTarget where
  Service : ByteArray
  Split : ByteArray
  Weight : Nat

def TTarget.cells (x : TTarget) : List Value := [(.string x.Service), (.string x.Split), (.float .f64 x.Weight)]
def TTarget.v (x : TTarget) : Value := .agg (Array.mk x.cells)

structure TPermit where
  Path : ByteArray
  Method : ByteArray
  Allow : Bool

def TPermit.cells (x : TPermit) : List Value := [(.string x.Path), (.string x.Method), (.bool x.Allow)]
def TPermit.v (x : TPermit) : Value := .agg (Array.mk x.cells)

structure TRule where
  Path : ByteArray
  Method : ByteArray
  Split : ByteArray
  Allow : Bool

def TRule.cells (x : TRule) : List Value := [(.string x.Path), (.string x.Method), (.string x.Split), (.bool x.Allow)]
def TRule.v (x : TRule) : Value := .agg (Array.mk x.cells)

structure TFault14 where
  Doc : Int
  Line : Int
  Err : Int

def TFault14.cells (x : TFault14) : List Value := [(.int .i64 x.Doc), (.int .i64 x.Line), (.int .i64 x.Err)]
def TFault14.v (x : TFault14) : Value := .agg (Array.mk x.cells)

structure TKnown15 where
  Names : Sl
  Shares : Sl

def TKnown15.cells (x : TKnown15) : List Value := [(Sl.v x.Names), (Sl.v x.Shares)]
def TKnown15.v (x : TKnown15) : Value := .agg (Array.mk x.cells)

structure TKey where
  kind : Int
  name : ByteArray

def TKey.cells (x : TKey) : List Value := [(.int .i64 x.kind), (.string x.name)]
def TKey.v (x : TKey) : Value := .agg (Array.mk x.cells)

structure TDepths where
  splits : (Option Nat)
  known : (Option Nat)

def TDepths.cells (x : TDepths) : List Value := [(.map x.splits), (.map x.known)]
def TDepths.v (x : TDepths) : Value := .agg (Array.mk x.cells)

structure TWarning14 where
  Doc : Int
  Rule : Int
  By : Int

def TWarning14.cells (x : TWarning14) : List Value := [(.int .i64 x.Doc), (.int .i64 x.Rule), (.int .i64 x.By)]
def TWarning14.v (x : TWarning14) : Value := .agg (Array.mk x.cells)

structure TWarning where
  Doc : Int
  Rule : Int
  By : Int

def TWarning.cells (x : TWarning) : List Value := [(.int .i64 x.Doc), (.int .i64 x.Rule), (.int .i64 x.By)]
def TWarning.v (x : TWarning) : Value := .agg (Array.mk x.cells)

theorem mixed : Try.prog.follows .mixedOrders = true := by kernel_rfl
theorem en16 (vs : Array Value) (w : World) : (callFunc 16 vs).run Try.prog w = .ok (.enter 16 vs) w := enters Try.func16 rfl rfl vs w
theorem zero32 : (Try.prog.info? 32).map (·.zero) = some (some (TShare.v (⟨⟨#[]⟩, 0⟩ : TShare))) := by kernel_rfl
theorem pl32 (w : World) : ((fieldsOf Try.prog 32).mapM fun f => do pure (f.offset, ← sizeOf f.type) : Sem (Array (Nat × Nat))).run Try.prog w = .ok #[(0, 1), (1, 1)] w := by kernel_rfl
theorem info32 : Try.prog.info? 32 = some (Try.prog.types.getD 32 default) := by kernel_rfl
theorem iz32 : (Try.prog.types.getD 32 default).zero = some (TShare.v (⟨⟨#[]⟩, 0⟩ : TShare)) := by kernel_rfl
theorem en19 (vs : Array Value) (w : World) : (callFunc 19 vs).run Try.prog w = .ok (.enter 19 vs) w := enters Try.func19 rfl rfl vs w
theorem en21 (vs : Array Value) (w : World) : (callFunc 21 vs).run Try.prog w = .ok (.enter 21 vs) w := enters Try.func21 rfl rfl vs w
theorem info9 : Try.prog.info? 9 = some (Try.prog.types.getD 9 default) := by kernel_rfl
theorem fa32_0 : ∀ (p : Addr) (w : World), (Instr.fieldAt 32 (Ptr p) 0).run Try.prog w = .ok (Ptr (p.add 0)) w := e_fa Try.underlying32 rfl info9 (by kernel_rfl) rfl
theorem en32 (vs : Array Value) (w : World) : (callFunc 32 vs).run Try.prog w = .ok (.enter 32 vs) w := enters Try.func32 rfl rfl vs w
theorem info30 : Try.prog.info? 30 = some (Try.prog.types.getD 30 default) := by kernel_rfl
theorem fa32_1 : ∀ (p : Addr) (w : World), (Instr.fieldAt 32 (Ptr p) 1).run Try.prog w = .ok (Ptr (p.add 1)) w := e_fa Try.underlying32 rfl info30 (by kernel_rfl) rfl
theorem en34 (vs : Array Value) (w : World) : (callFunc 34 vs).run Try.prog w = .ok (.enter 34 vs) w := enters Try.func34 rfl rfl vs w
theorem zero53 : (Try.prog.info? 53).map (·.zero) = some (some (TTables.v (⟨0, Sl.nil, Sl.nil⟩ : TTables))) := by kernel_rfl
theorem info51 : Try.prog.info? 51 = some (Try.prog.types.getD 51 default) := by kernel_rfl
theorem fa53_1 : ∀ (p : Addr) (w : World), (Instr.fieldAt 53 (Ptr p) 1).run Try.prog w = .ok (Ptr (p.add 1)) w := e_fa Try.underlying53 rfl info51 (by kernel_rfl) rfl
theorem info44 : Try.prog.info? 44 = some (Try.prog.types.getD 44 default) := by kernel_rfl
theorem fa53_2 : ∀ (p : Addr) (w : World), (Instr.fieldAt 53 (Ptr p) 2).run Try.prog w = .ok (Ptr (p.add 2)) w := e_fa Try.underlying53 rfl info44 (by kernel_rfl) rfl
theorem info3 : Try.prog.info? 3 = some (Try.prog.types.getD 3 default) := by kernel_rfl
theorem fa53_0 : ∀ (p : Addr) (w : World), (Instr.fieldAt 53 (Ptr p) 0).run Try.prog w = .ok (Ptr (p.add 0)) w := e_fa Try.underlying53 rfl info3 (by kernel_rfl) rfl
theorem fa48_0 : ∀ (p : Addr) (w : World), (Instr.fieldAt 48 (Ptr p) 0).run Try.prog w = .ok (Ptr (p.add 0)) w := e_fa Try.underlying48 rfl info3 (by kernel_rfl) rfl
theorem info56 : Try.prog.info? 56 = some (Try.prog.types.getD 56 default) := by kernel_rfl
theorem fa59_2 : ∀ (p : Addr) (w : World), (Instr.fieldAt 59 (Ptr p) 2).run Try.prog w = .ok (Ptr (p.add 2)) w := e_fa Try.underlying59 rfl info56 (by kernel_rfl) rfl
theorem info23 : Try.prog.info? 23 = some (Try.prog.types.getD 23 default) := by kernel_rfl
theorem fa61_2 : ∀ (p : Addr) (w : World), (Instr.fieldAt 61 (Ptr p) 2).run Try.prog w = .ok (Ptr (p.add 2)) w := e_fa Try.underlying61 rfl info23 (by kernel_rfl) rfl
theorem en36 (vs : Array Value) (w : World) : (callFunc 36 vs).run Try.prog w = .ok (.enter 36 vs) w := enters Try.func36 rfl rfl vs w
theorem en37 (vs : Array Value) (w : World) : (callFunc 37 vs).run Try.prog w = .ok (.enter 37 vs) w := enters Try.func37 rfl rfl vs w
theorem en38 (vs : Array Value) (w : World) : (callFunc 38 vs).run Try.prog w = .ok (.enter 38 vs) w := enters Try.func38 rfl rfl vs w
theorem en39 (vs : Array Value) (w : World) : (callFunc 39 vs).run Try.prog w = .ok (.enter 39 vs) w := enters Try.func39 rfl rfl vs w
theorem fa59_0 : ∀ (p : Addr) (w : World), (Instr.fieldAt 59 (Ptr p) 0).run Try.prog w = .ok (Ptr (p.add 0)) w := e_fa Try.underlying59 rfl info9 (by kernel_rfl) rfl
theorem en40 (vs : Array Value) (w : World) : (callFunc 40 vs).run Try.prog w = .ok (.enter 40 vs) w := enters Try.func40 rfl rfl vs w
theorem iz9 : (Try.prog.types.getD 9 default).zero = some (.string ⟨#[]⟩) := by kernel_rfl
theorem en41 (vs : Array Value) (w : World) : (callFunc 41 vs).run Try.prog w = .ok (.enter 41 vs) w := enters Try.func41 rfl rfl vs w
theorem en42 (vs : Array Value) (w : World) : (callFunc 42 vs).run Try.prog w = .ok (.enter 42 vs) w := enters Try.func42 rfl rfl vs w
theorem fa48_1 : ∀ (p : Addr) (w : World), (Instr.fieldAt 48 (Ptr p) 1).run Try.prog w = .ok (Ptr (p.add 1)) w := e_fa Try.underlying48 rfl info9 (by kernel_rfl) rfl
theorem info4 : Try.prog.info? 4 = some (Try.prog.types.getD 4 default) := by kernel_rfl
theorem fa48_7 : ∀ (p : Addr) (w : World), (Instr.fieldAt 48 (Ptr p) 7).run Try.prog w = .ok (Ptr (p.add 7)) w := e_fa Try.underlying48 rfl info4 (by kernel_rfl) rfl
theorem en46 (vs : Array Value) (w : World) : (callFunc 46 vs).run Try.prog w = .ok (.enter 46 vs) w := enters Try.func46 rfl rfl vs w
theorem zero80 : (Try.prog.info? 80).map (·.zero) = some (some (TFault.v (⟨0, 0, 0⟩ : TFault))) := by kernel_rfl
theorem info25 : Try.prog.info? 25 = some (Try.prog.types.getD 25 default) := by kernel_rfl
theorem fa80_2 : ∀ (p : Addr) (w : World), (Instr.fieldAt 80 (Ptr p) 2).run Try.prog w = .ok (Ptr (p.add 2)) w := e_fa Try.underlying80 rfl info25 (by kernel_rfl) rfl
theorem info45 : Try.prog.info? 45 = some (Try.prog.types.getD 45 default) := by kernel_rfl
theorem fa48_3 : ∀ (p : Addr) (w : World), (Instr.fieldAt 48 (Ptr p) 3).run Try.prog w = .ok (Ptr (p.add 3)) w := e_fa Try.underlying48 rfl info45 (by kernel_rfl) rfl
theorem zero84 : (Try.prog.info? 84).map (·.zero) = some (some (TTarget.v (⟨⟨#[]⟩, ⟨#[]⟩, 0⟩ : TTarget))) := by kernel_rfl
theorem fa84_0 : ∀ (p : Addr) (w : World), (Instr.fieldAt 84 (Ptr p) 0).run Try.prog w = .ok (Ptr (p.add 0)) w := e_fa Try.underlying84 rfl info9 (by kernel_rfl) rfl
theorem fa84_1 : ∀ (p : Addr) (w : World), (Instr.fieldAt 84 (Ptr p) 1).run Try.prog w = .ok (Ptr (p.add 1)) w := e_fa Try.underlying84 rfl info9 (by kernel_rfl) rfl
theorem zero48 : (Try.prog.info? 48).map (·.zero) = some (some (TResource.v (⟨0, ⟨#[]⟩, Sl.nil, Sl.nil, ⟨#[]⟩, Sl.nil, ⟨#[]⟩, false⟩ : TResource))) := by kernel_rfl
theorem pl48 (w : World) : ((fieldsOf Try.prog 48).mapM fun f => do pure (f.offset, ← sizeOf f.type) : Sem (Array (Nat × Nat))).run Try.prog w = .ok #[(0, 1), (1, 1), (2, 1), (3, 1), (4, 1), (5, 1), (6, 1), (7, 1)] w := by kernel_rfl
theorem info48 : Try.prog.info? 48 = some (Try.prog.types.getD 48 default) := by kernel_rfl
theorem iz48 : (Try.prog.types.getD 48 default).zero = some (TResource.v (⟨0, ⟨#[]⟩, Sl.nil, Sl.nil, ⟨#[]⟩, Sl.nil, ⟨#[]⟩, false⟩ : TResource)) := by kernel_rfl
theorem info91 : Try.prog.info? 91 = some (Try.prog.types.getD 91 default) := by kernel_rfl
theorem info57 : Try.prog.info? 57 = some (Try.prog.types.getD 57 default) := by kernel_rfl
theorem fa59_3 : ∀ (p : Addr) (w : World), (Instr.fieldAt 59 (Ptr p) 3).run Try.prog w = .ok (Ptr (p.add 3)) w := e_fa Try.underlying59 rfl info57 (by kernel_rfl) rfl
theorem zero89 : (Try.prog.info? 89).map (·.zero) = some (some (TPermit.v (⟨⟨#[]⟩, ⟨#[]⟩, false⟩ : TPermit))) := by kernel_rfl
theorem fa91_0 : ∀ (p : Addr) (w : World), (Instr.fieldAt 91 (Ptr p) 0).run Try.prog w = .ok (Ptr (p.add 0)) w := e_fa Try.underlying91 rfl info9 (by kernel_rfl) rfl
theorem fa91_1 : ∀ (p : Addr) (w : World), (Instr.fieldAt 91 (Ptr p) 1).run Try.prog w = .ok (Ptr (p.add 1)) w := e_fa Try.underlying91 rfl info9 (by kernel_rfl) rfl
theorem fa91_3 : ∀ (p : Addr) (w : World), (Instr.fieldAt 91 (Ptr p) 3).run Try.prog w = .ok (Ptr (p.add 3)) w := e_fa Try.underlying91 rfl info4 (by kernel_rfl) rfl
theorem pl84 (w : World) : ((fieldsOf Try.prog 84).mapM fun f => do pure (f.offset, ← sizeOf f.type) : Sem (Array (Nat × Nat))).run Try.prog w = .ok #[(0, 1), (1, 1), (2, 1)] w := by kernel_rfl
theorem info84 : Try.prog.info? 84 = some (Try.prog.types.getD 84 default) := by kernel_rfl
theorem iz84 : (Try.prog.types.getD 84 default).zero = some (TTarget.v (⟨⟨#[]⟩, ⟨#[]⟩, 0⟩ : TTarget)) := by kernel_rfl
theorem fa48_2 : ∀ (p : Addr) (w : World), (Instr.fieldAt 48 (Ptr p) 2).run Try.prog w = .ok (Ptr (p.add 2)) w := e_fa Try.underlying48 rfl info44 (by kernel_rfl) rfl
theorem info46 : Try.prog.info? 46 = some (Try.prog.types.getD 46 default) := by kernel_rfl
theorem fa48_5 : ∀ (p : Addr) (w : World), (Instr.fieldAt 48 (Ptr p) 5).run Try.prog w = .ok (Ptr (p.add 5)) w := e_fa Try.underlying48 rfl info46 (by kernel_rfl) rfl
theorem en54 (vs : Array Value) (w : World) : (callFunc 54 vs).run Try.prog w = .ok (.enter 54 vs) w := enters Try.func54 rfl rfl vs w
theorem en57 (vs : Array Value) (w : World) : (callFunc 57 vs).run Try.prog w = .ok (.enter 57 vs) w := enters Try.func57 rfl rfl vs w
theorem en63 (vs : Array Value) (w : World) : (callFunc 63 vs).run Try.prog w = .ok (.enter 63 vs) w := enters Try.func63 rfl rfl vs w
theorem zero113 : (Try.prog.info? 113).map (·.zero) = some (some (TKey.v (⟨0, ⟨#[]⟩⟩ : TKey))) := by kernel_rfl
theorem fa48_4 : ∀ (p : Addr) (w : World), (Instr.fieldAt 48 (Ptr p) 4).run Try.prog w = .ok (Ptr (p.add 4)) w := e_fa Try.underlying48 rfl info9 (by kernel_rfl) rfl
theorem fa48_6 : ∀ (p : Addr) (w : World), (Instr.fieldAt 48 (Ptr p) 6).run Try.prog w = .ok (Ptr (p.add 6)) w := e_fa Try.underlying48 rfl info9 (by kernel_rfl) rfl
theorem fa84_2 : ∀ (p : Addr) (w : World), (Instr.fieldAt 84 (Ptr p) 2).run Try.prog w = .ok (Ptr (p.add 2)) w := e_fa Try.underlying84 rfl info30 (by kernel_rfl) rfl
theorem zero91 : (Try.prog.info? 91).map (·.zero) = some (some (TRule.v (⟨⟨#[]⟩, ⟨#[]⟩, ⟨#[]⟩, false⟩ : TRule))) := by kernel_rfl
theorem pl91 (w : World) : ((fieldsOf Try.prog 91).mapM fun f => do pure (f.offset, ← sizeOf f.type) : Sem (Array (Nat × Nat))).run Try.prog w = .ok #[(0, 1), (1, 1), (2, 1), (3, 1)] w := by kernel_rfl
theorem iz91 : (Try.prog.types.getD 91 default).zero = some (TRule.v (⟨⟨#[]⟩, ⟨#[]⟩, ⟨#[]⟩, false⟩ : TRule)) := by kernel_rfl
theorem eqg32 : (Try.prog.eqGuardType Try.prog.depth 32) = false := by kernel_rfl
theorem pl53 (w : World) : ((fieldsOf Try.prog 53).mapM fun f => do pure (f.offset, ← sizeOf f.type) : Sem (Array (Nat × Nat))).run Try.prog w = .ok #[(0, 1), (1, 1), (2, 1)] w := by kernel_rfl
theorem info59 : Try.prog.info? 59 = some (Try.prog.types.getD 59 default) := by kernel_rfl
theorem iz59 : (Try.prog.types.getD 59 default).zero = some (THost.v (⟨⟨#[]⟩, ⟨#[]⟩, Sl.nil, Sl.nil⟩ : THost)) := by kernel_rfl
theorem en76 (vs : Array Value) (w : World) : (callFunc 76 vs).run Try.prog w = .ok (.enter 76 vs) w := enters Try.func76 rfl rfl vs w
theorem en77 (vs : Array Value) (w : World) : (callFunc 77 vs).run Try.prog w = .ok (.enter 77 vs) w := enters Try.func77 rfl rfl vs w
theorem zero59 : (Try.prog.info? 59).map (·.zero) = some (some (THost.v (⟨⟨#[]⟩, ⟨#[]⟩, Sl.nil, Sl.nil⟩ : THost))) := by kernel_rfl
theorem pl59 (w : World) : ((fieldsOf Try.prog 59).mapM fun f => do pure (f.offset, ← sizeOf f.type) : Sem (Array (Nat × Nat))).run Try.prog w = .ok #[(0, 1), (1, 1), (2, 1), (3, 1)] w := by kernel_rfl
theorem fa91_2 : ∀ (p : Addr) (w : World), (Instr.fieldAt 91 (Ptr p) 2).run Try.prog w = .ok (Ptr (p.add 2)) w := e_fa Try.underlying91 rfl info9 (by kernel_rfl) rfl
theorem zero61 : (Try.prog.info? 61).map (·.zero) = some (some (TEntry.v (⟨⟨#[]⟩, ⟨#[]⟩, Sl.nil⟩ : TEntry))) := by kernel_rfl
theorem pl61 (w : World) : ((fieldsOf Try.prog 61).mapM fun f => do pure (f.offset, ← sizeOf f.type) : Sem (Array (Nat × Nat))).run Try.prog w = .ok #[(0, 1), (1, 1), (2, 1)] w := by kernel_rfl
theorem info61 : Try.prog.info? 61 = some (Try.prog.types.getD 61 default) := by kernel_rfl
theorem iz61 : (Try.prog.types.getD 61 default).zero = some (TEntry.v (⟨⟨#[]⟩, ⟨#[]⟩, Sl.nil⟩ : TEntry)) := by kernel_rfl
theorem pl89 (w : World) : ((fieldsOf Try.prog 89).mapM fun f => do pure (f.offset, ← sizeOf f.type) : Sem (Array (Nat × Nat))).run Try.prog w = .ok #[(0, 1), (1, 1), (2, 1)] w := by kernel_rfl
theorem info89 : Try.prog.info? 89 = some (Try.prog.types.getD 89 default) := by kernel_rfl
theorem iz89 : (Try.prog.types.getD 89 default).zero = some (TPermit.v (⟨⟨#[]⟩, ⟨#[]⟩, false⟩ : TPermit)) := by kernel_rfl
theorem en86 (vs : Array Value) (w : World) : (callFunc 86 vs).run Try.prog w = .ok (.enter 86 vs) w := enters Try.func86 rfl rfl vs w
theorem en87 (vs : Array Value) (w : World) : (callFunc 87 vs).run Try.prog w = .ok (.enter 87 vs) w := enters Try.func87 rfl rfl vs w
theorem en89 (vs : Array Value) (w : World) : (callFunc 89 vs).run Try.prog w = .ok (.enter 89 vs) w := enters Try.func89 rfl rfl vs w
theorem iz3 : (Try.prog.types.getD 3 default).zero = some (.int .i64 0) := by kernel_rfl
theorem en88 (vs : Array Value) (w : World) : (callFunc 88 vs).run Try.prog w = .ok (.enter 88 vs) w := enters Try.func88 rfl rfl vs w
theorem en90 (vs : Array Value) (w : World) : (callFunc 90 vs).run Try.prog w = .ok (.enter 90 vs) w := enters Try.func90 rfl rfl vs w
theorem en92 (vs : Array Value) (w : World) : (callFunc 92 vs).run Try.prog w = .ok (.enter 92 vs) w := enters Try.func92 rfl rfl vs w
theorem en93 (vs : Array Value) (w : World) : (callFunc 93 vs).run Try.prog w = .ok (.enter 93 vs) w := enters Try.func93 rfl rfl vs w
theorem pl80 (w : World) : ((fieldsOf Try.prog 80).mapM fun f => do pure (f.offset, ← sizeOf f.type) : Sem (Array (Nat × Nat))).run Try.prog w = .ok #[(0, 1), (1, 1), (2, 1)] w := by kernel_rfl
theorem zero148 : (Try.prog.info? 148).map (·.zero) = some (some (TDepths.v (⟨none, none⟩ : TDepths))) := by kernel_rfl
theorem pl148 (w : World) : ((fieldsOf Try.prog 148).mapM fun f => do pure (f.offset, ← sizeOf f.type) : Sem (Array (Nat × Nat))).run Try.prog w = .ok #[(0, 1), (1, 1)] w := by kernel_rfl
theorem info145 : Try.prog.info? 145 = some (Try.prog.types.getD 145 default) := by kernel_rfl
theorem fa148_0 : ∀ (p : Addr) (w : World), (Instr.fieldAt 148 (Ptr p) 0).run Try.prog w = .ok (Ptr (p.add 0)) w := e_fa Try.underlying148 rfl info145 (by kernel_rfl) rfl
theorem en94 (vs : Array Value) (w : World) : (callFunc 94 vs).run Try.prog w = .ok (.enter 94 vs) w := enters Try.func94 rfl rfl vs w
theorem en95 (vs : Array Value) (w : World) : (callFunc 95 vs).run Try.prog w = .ok (.enter 95 vs) w := enters Try.func95 rfl rfl vs w
theorem en96 (vs : Array Value) (w : World) : (callFunc 96 vs).run Try.prog w = .ok (.enter 96 vs) w := enters Try.func96 rfl rfl vs w
theorem en97 (vs : Array Value) (w : World) : (callFunc 97 vs).run Try.prog w = .ok (.enter 97 vs) w := enters Try.func97 rfl rfl vs w
theorem zero153 : (Try.prog.info? 153).map (·.zero) = some (some (.map none)) := by kernel_rfl
theorem zero97 : (Try.prog.info? 97).map (·.zero) = some (some (.map none)) := by kernel_rfl
theorem zero154 : (Try.prog.info? 154).map (·.zero) = some (some Value.nilFunc) := by kernel_rfl
theorem pl113 (w : World) : ((fieldsOf Try.prog 113).mapM fun f => do pure (f.offset, ← sizeOf f.type) : Sem (Array (Nat × Nat))).run Try.prog w = .ok #[(0, 1), (1, 1)] w := by kernel_rfl
theorem en113 (vs : Array Value) (w : World) : (callFunc 113 vs).run Try.prog w = .ok (.enter 113 vs) w := enters Try.func113 rfl rfl vs w
theorem en116 (vs : Array Value) (w : World) : (callFunc 116 vs).run Try.prog w = .ok (.enter 116 vs) w := enters Try.func116 rfl rfl vs w
theorem en117 (vs : Array Value) (w : World) : (callFunc 117 vs).run Try.prog w = .ok (.enter 117 vs) w := enters Try.func117 rfl rfl vs w
theorem en118 (vs : Array Value) (w : World) : (callFunc 118 vs).run Try.prog w = .ok (.enter 118 vs) w := enters Try.func118 rfl rfl vs w
theorem en119 (vs : Array Value) (w : World) : (callFunc 119 vs).run Try.prog w = .ok (.enter 119 vs) w := enters Try.func119 rfl rfl vs w
theorem en120 (vs : Array Value) (w : World) : (callFunc 120 vs).run Try.prog w = .ok (.enter 120 vs) w := enters Try.func120 rfl rfl vs w
theorem en111 (vs : Array Value) (w : World) : (callFunc 111 vs).run Try.prog w = .ok (.enter 111 vs) w := enters Try.func111 rfl rfl vs w
theorem info146 : Try.prog.info? 146 = some (Try.prog.types.getD 146 default) := by kernel_rfl
theorem fa148_1 : ∀ (p : Addr) (w : World), (Instr.fieldAt 148 (Ptr p) 1).run Try.prog w = .ok (Ptr (p.add 1)) w := e_fa Try.underlying148 rfl info146 (by kernel_rfl) rfl
theorem en121 (vs : Array Value) (w : World) : (callFunc 121 vs).run Try.prog w = .ok (.enter 121 vs) w := enters Try.func121 rfl rfl vs w
theorem zero177 : (Try.prog.info? 177).map (·.zero) = some (some (TWarning.v (⟨0, 0, 0⟩ : TWarning))) := by kernel_rfl
theorem pl177 (w : World) : ((fieldsOf Try.prog 177).mapM fun f => do pure (f.offset, ← sizeOf f.type) : Sem (Array (Nat × Nat))).run Try.prog w = .ok #[(0, 1), (1, 1), (2, 1)] w := by kernel_rfl
theorem info177 : Try.prog.info? 177 = some (Try.prog.types.getD 177 default) := by kernel_rfl
theorem iz177 : (Try.prog.types.getD 177 default).zero = some (TWarning.v (⟨0, 0, 0⟩ : TWarning)) := by kernel_rfl
theorem en100 (vs : Array Value) (w : World) : (callFunc 100 vs).run Try.prog w = .ok (.enter 100 vs) w := enters Try.func100 rfl rfl vs w
theorem en124 (vs : Array Value) (w : World) : (callFunc 124 vs).run Try.prog w = .ok (.enter 124 vs) w := enters Try.func124 rfl rfl vs w
theorem fa113_0 : ∀ (p : Addr) (w : World), (Instr.fieldAt 113 (Ptr p) 0).run Try.prog w = .ok (Ptr (p.add 0)) w := e_fa Try.underlying113 rfl info3 (by kernel_rfl) rfl
theorem fa113_1 : ∀ (p : Addr) (w : World), (Instr.fieldAt 113 (Ptr p) 1).run Try.prog w = .ok (Ptr (p.add 1)) w := e_fa Try.underlying113 rfl info9 (by kernel_rfl) rfl
theorem en134 (vs : Array Value) (w : World) : (callFunc 134 vs).run Try.prog w = .ok (.enter 134 vs) w := enters Try.func134 rfl rfl vs w
theorem en135 (vs : Array Value) (w : World) : (callFunc 135 vs).run Try.prog w = .ok (.enter 135 vs) w := enters Try.func135 rfl rfl vs w
theorem en136 (vs : Array Value) (w : World) : (callFunc 136 vs).run Try.prog w = .ok (.enter 136 vs) w := enters Try.func136 rfl rfl vs w
theorem en138 (vs : Array Value) (w : World) : (callFunc 138 vs).run Try.prog w = .ok (.enter 138 vs) w := enters Try.func138 rfl rfl vs w
theorem en139 (vs : Array Value) (w : World) : (callFunc 139 vs).run Try.prog w = .ok (.enter 139 vs) w := enters Try.func139 rfl rfl vs w
theorem en123 (vs : Array Value) (w : World) : (callFunc 123 vs).run Try.prog w = .ok (.enter 123 vs) w := enters Try.func123 rfl rfl vs w
theorem en140 (vs : Array Value) (w : World) : (callFunc 140 vs).run Try.prog w = .ok (.enter 140 vs) w := enters Try.func140 rfl rfl vs w
theorem en141 (vs : Array Value) (w : World) : (callFunc 141 vs).run Try.prog w = .ok (.enter 141 vs) w := enters Try.func141 rfl rfl vs w
theorem en154 (vs : Array Value) (w : World) : (callFunc 154 vs).run Try.prog w = .ok (.enter 154 vs) w := enters Try.func154 rfl rfl vs w
theorem en155 (vs : Array Value) (w : World) : (callFunc 155 vs).run Try.prog w = .ok (.enter 155 vs) w := enters Try.func155 rfl rfl vs w
theorem en156 (vs : Array Value) (w : World) : (callFunc 156 vs).run Try.prog w = .ok (.enter 156 vs) w := enters Try.func156 rfl rfl vs w
theorem en157 (vs : Array Value) (w : World) : (callFunc 157 vs).run Try.prog w = .ok (.enter 157 vs) w := enters Try.func157 rfl rfl vs w
theorem en164 (vs : Array Value) (w : World) : (callFunc 164 vs).run Try.prog w = .ok (.enter 164 vs) w := enters Try.func164 rfl rfl vs w
theorem en165 (vs : Array Value) (w : World) : (callFunc 165 vs).run Try.prog w = .ok (.enter 165 vs) w := enters Try.func165 rfl rfl vs w
theorem one3 : One Try.prog 3 := ⟨_, Try.underlying3, rfl⟩
theorem one4 : One Try.prog 4 := ⟨_, Try.underlying4, rfl⟩
theorem one5 : One Try.prog 5 := ⟨_, Try.underlying5, rfl⟩
theorem sz5 : (Try.prog.info? 5).map (·.size) = some 1 := by kernel_rfl
theorem one9 : One Try.prog 9 := ⟨_, Try.underlying9, rfl⟩
theorem sl22 : SlT Try.prog 22 48 8 := ⟨Try.underlying22, by kernel_rfl⟩
theorem el22 : ElT Try.prog 22 48 8 136 (TResource.v (⟨0, ⟨#[]⟩, Sl.nil, Sl.nil, ⟨#[]⟩, Sl.nil, ⟨#[]⟩, false⟩ : TResource)) := ⟨Try.underlying22, by kernel_rfl, rfl, by decide⟩
theorem one23 : One Try.prog 23 := ⟨_, Try.underlying23, rfl⟩
theorem sl23 : SlT Try.prog 23 32 2 := ⟨Try.underlying23, by kernel_rfl⟩
theorem el23 : ElT Try.prog 23 32 2 24 (TShare.v (⟨⟨#[]⟩, 0⟩ : TShare)) := ⟨Try.underlying23, by kernel_rfl, rfl, by decide⟩
theorem one25 : One Try.prog 25 := ⟨_, Try.underlying25, rfl⟩
theorem one30 : One Try.prog 30 := ⟨_, Try.underlying30, rfl⟩
theorem sz30 : (Try.prog.info? 30).map (·.size) = some 1 := by kernel_rfl
theorem many32 : Many Try.prog 32 2 := ⟨⟨_, Try.underlying32, rfl⟩, by kernel_rfl⟩
theorem sz32 : (Try.prog.info? 32).map (·.size) = some 2 := by kernel_rfl
theorem one44 : One Try.prog 44 := ⟨_, Try.underlying44, rfl⟩
theorem sz44 : (Try.prog.info? 44).map (·.size) = some 1 := by kernel_rfl
theorem sl44 : SlT Try.prog 44 9 1 := ⟨Try.underlying44, by kernel_rfl⟩
theorem el44 : ElT Try.prog 44 9 1 16 (.string ⟨#[]⟩) := ⟨Try.underlying44, by kernel_rfl, rfl, by decide⟩
theorem one45 : One Try.prog 45 := ⟨_, Try.underlying45, rfl⟩
theorem sz45 : (Try.prog.info? 45).map (·.size) = some 1 := by kernel_rfl
theorem sl45 : SlT Try.prog 45 84 3 := ⟨Try.underlying45, by kernel_rfl⟩
theorem el45 : ElT Try.prog 45 84 3 40 (TTarget.v (⟨⟨#[]⟩, ⟨#[]⟩, 0⟩ : TTarget)) := ⟨Try.underlying45, by kernel_rfl, rfl, by decide⟩
theorem one46 : One Try.prog 46 := ⟨_, Try.underlying46, rfl⟩
theorem sz46 : (Try.prog.info? 46).map (·.size) = some 1 := by kernel_rfl
theorem sl46 : SlT Try.prog 46 91 4 := ⟨Try.underlying46, by kernel_rfl⟩
theorem el46 : ElT Try.prog 46 91 4 56 (TRule.v (⟨⟨#[]⟩, ⟨#[]⟩, ⟨#[]⟩, false⟩ : TRule)) := ⟨Try.underlying46, by kernel_rfl, rfl, by decide⟩
theorem many48 : Many Try.prog 48 8 := ⟨⟨_, Try.underlying48, rfl⟩, by kernel_rfl⟩
theorem sz48 : (Try.prog.info? 48).map (·.size) = some 8 := by kernel_rfl
theorem one51 : One Try.prog 51 := ⟨_, Try.underlying51, rfl⟩
theorem sz51 : (Try.prog.info? 51).map (·.size) = some 1 := by kernel_rfl
theorem sl51 : SlT Try.prog 51 59 4 := ⟨Try.underlying51, by kernel_rfl⟩
theorem el51 : ElT Try.prog 51 59 4 80 (THost.v (⟨⟨#[]⟩, ⟨#[]⟩, Sl.nil, Sl.nil⟩ : THost)) := ⟨Try.underlying51, by kernel_rfl, rfl, by decide⟩
theorem many53 : Many Try.prog 53 3 := ⟨⟨_, Try.underlying53, rfl⟩, by kernel_rfl⟩
theorem sz53 : (Try.prog.info? 53).map (·.size) = some 3 := by kernel_rfl
theorem one56 : One Try.prog 56 := ⟨_, Try.underlying56, rfl⟩
theorem sz56 : (Try.prog.info? 56).map (·.size) = some 1 := by kernel_rfl
theorem sl56 : SlT Try.prog 56 61 3 := ⟨Try.underlying56, by kernel_rfl⟩
theorem el56 : ElT Try.prog 56 61 3 56 (TEntry.v (⟨⟨#[]⟩, ⟨#[]⟩, Sl.nil⟩ : TEntry)) := ⟨Try.underlying56, by kernel_rfl, rfl, by decide⟩
theorem one57 : One Try.prog 57 := ⟨_, Try.underlying57, rfl⟩
theorem sz57 : (Try.prog.info? 57).map (·.size) = some 1 := by kernel_rfl
theorem el57 : ElT Try.prog 57 89 3 40 (TPermit.v (⟨⟨#[]⟩, ⟨#[]⟩, false⟩ : TPermit)) := ⟨Try.underlying57, by kernel_rfl, rfl, by decide⟩
theorem many59 : Many Try.prog 59 4 := ⟨⟨_, Try.underlying59, rfl⟩, by kernel_rfl⟩
theorem sz59 : (Try.prog.info? 59).map (·.size) = some 4 := by kernel_rfl
theorem sl77 : SlT Try.prog 77 3 1 := ⟨Try.underlying77, by kernel_rfl⟩
theorem el78 : ElT Try.prog 78 177 3 24 (TWarning.v (⟨0, 0, 0⟩ : TWarning)) := ⟨Try.underlying78, by kernel_rfl, rfl, by decide⟩
theorem many80 : Many Try.prog 80 3 := ⟨⟨_, Try.underlying80, rfl⟩, by kernel_rfl⟩
theorem sz80 : (Try.prog.info? 80).map (·.size) = some 3 := by kernel_rfl
theorem many84 : Many Try.prog 84 3 := ⟨⟨_, Try.underlying84, rfl⟩, by kernel_rfl⟩
theorem sz84 : (Try.prog.info? 84).map (·.size) = some 3 := by kernel_rfl
theorem many91 : Many Try.prog 91 4 := ⟨⟨_, Try.underlying91, rfl⟩, by kernel_rfl⟩
theorem sz91 : (Try.prog.info? 91).map (·.size) = some 4 := by kernel_rfl
theorem one97 : One Try.prog 97 := ⟨_, Try.underlying97, rfl⟩
theorem sz97 : (Try.prog.info? 97).map (·.size) = some 1 := by kernel_rfl
theorem many113 : Many Try.prog 113 2 := ⟨⟨_, Try.underlying113, rfl⟩, by kernel_rfl⟩
theorem sz113 : (Try.prog.info? 113).map (·.size) = some 2 := by kernel_rfl
theorem one145 : One Try.prog 145 := ⟨_, Try.underlying145, rfl⟩
theorem one146 : One Try.prog 146 := ⟨_, Try.underlying146, rfl⟩
theorem one153 : One Try.prog 153 := ⟨_, Try.underlying153, rfl⟩
theorem sz153 : (Try.prog.info? 153).map (·.size) = some 1 := by kernel_rfl
theorem one154 : One Try.prog 154 := ⟨_, Try.underlying154, rfl⟩
theorem sz154 : (Try.prog.info? 154).map (·.size) = some 1 := by kernel_rfl
theorem sl187 : SlT Try.prog 187 5 1 := ⟨Try.underlying187, by kernel_rfl⟩
end Go.Proofs.Ytdoeegfcmbcbkaa.Tr


namespace Go.Eng
open Go
set_option linter.unusedVariables false
section
variable {P : Program} {ops : Array Oper} {Q : Exit → Act → World → Prop} {N : Nat} {l : Nat → Value} {w : World} {rest : List Oper} {d : Tmp} {op : Op} {ty : TypeId} {pos : String} {after : Array Edge} {x : Operand}
theorem mv (v : Value) (hx : ev N l x = v) (hk : WL P ops Q rest (F N (upd l d v)) w) : WL P ops Q (⟨some d, .move x, ty, pos, after, none⟩ :: rest) (F N l) w := st_val (ex_move hx) hk
theorem asg (v : Value) (hx : ev N l x = v) (hk : WL P ops Q rest (F N (upd l d v)) w) : WL P ops Q (⟨some d, .assign x, ty, pos, after, none⟩ :: rest) (F N l) w := st_val (ex_assign hx) hk
theorem sOn {o : Option Tmp} {g : Nat} (t : Tmp) {b c : Bool} (hc : c = b) (hd : (ops[g]?).bind (·.dst) = some t) (hv : ev N l (.tmp t) = (.bool c))
    (h : WL P ops Q (⟨o, op, ty, pos, after, none⟩ :: rest) (F N l) w) : WL P ops Q (⟨o, op, ty, pos, after, some (g, b)⟩ :: rest) (F N l) w := st_on hd hv hc h
theorem sOff {g : Nat} (t : Tmp) {b c : Bool} (hc : c = !b) (hd : (ops[g]?).bind (·.dst) = some t) (hv : ev N l (.tmp t) = (.bool c))
    (h : WL P ops Q rest (F N (upd l d undef)) w) : WL P ops Q (⟨some d, op, ty, pos, after, some (g, b)⟩ :: rest) (F N l) w := st_off hd hv hc h
end
section
variable {P : Program} {ops : Array Oper} {C : List Nat} {G : World → Prop} {Q : Exit → Act → World → Prop} {N n : Nat} {l : Nat → Value} {w : World} {listed : Array Bool} {d : Tmp} {op : Op} {ty : TypeId} {pos : String} {after : Array Edge} {v : Value}
theorem tK (i : Nat) (hi : ops[i]? = some ⟨some d, op, ty, pos, after, none⟩) (hG : G w) (he : ∀ w', G w' → Ex P op ty N l w' v w') (h : WX P ops Q C G n (listed.setIfInBounds i true) (F N (upd l d v)) w)
    (hs : mayTake ops C listed i = true := by kernel_rfl) (hQ : ∀ c a w, Q (.panic c) (a.put (some d) v) w → Q (.panic c) a w := by exact fun _ _ _ h => h) : WX P ops Q C G (n + 1) listed (F N l) w := dr_take hs hi hQ hG he h
theorem tKo (i : Nat) (t : Tmp) {g : Nat} {b c : Bool} (hi : ops[i]? = some ⟨some d, op, ty, pos, after, some (g, b)⟩) (hc : c = b) (hd : (ops[g]?).bind (·.dst) = some t) (hv : ev N l (.tmp t) = (.bool c))
    (hG : G w) (he : ∀ w', G w' → Ex P op ty N l w' v w') (h : WX P ops Q C G n (listed.setIfInBounds i true) (F N (upd l d v)) w)
    (hs : mayTake ops C listed i = true := by kernel_rfl) (hQ : ∀ c a w, Q (.panic c) (a.put (some d) v) w → Q (.panic c) a w := by exact fun _ _ _ h => h) : WX P ops Q C G (n + 1) listed (F N l) w := dr_take_on hs hi hd hv hc hQ hG he h
theorem tP (i : Nat) (hi : ops[i]? = some ⟨some d, op, ty, pos, after, none⟩) (hG : noC C listed = true → G w) (he : ∀ w', Ex P op ty N l w' v w') (h : WX P ops Q C G n (listed.setIfInBounds i true) (F N (upd l d v)) w)
    (hs : mayTakeP ops C listed i = true := by kernel_rfl) (hQ : ∀ c a w, Q (.panic c) (a.put (some d) v) w → Q (.panic c) a w := by exact fun _ _ _ h => h) : WX P ops Q C G (n + 1) listed (F N l) w := dr_takeP hs hi hQ hG he h
theorem tPo (i : Nat) (t : Tmp) {g : Nat} {b c : Bool} (hi : ops[i]? = some ⟨some d, op, ty, pos, after, some (g, b)⟩) (hc : c = b) (hd : (ops[g]?).bind (·.dst) = some t) (hv : ev N l (.tmp t) = (.bool c))
    (hG : noC C listed = true → G w) (he : ∀ w', Ex P op ty N l w' v w') (h : WX P ops Q C G n (listed.setIfInBounds i true) (F N (upd l d v)) w)
    (hs : mayTakeP ops C listed i = true := by kernel_rfl) (hQ : ∀ c a w, Q (.panic c) (a.put (some d) v) w → Q (.panic c) a w := by exact fun _ _ _ h => h) : WX P ops Q C G (n + 1) listed (F N l) w := dr_takeP_on hs hi hd hv hc hQ hG he h
theorem tF (i : Nat) (t : Tmp) {g : Nat} {b c : Bool} (hi : ops[i]? = some ⟨some d, op, ty, pos, after, some (g, b)⟩) (hc : c = !b) (hd : (ops[g]?).bind (·.dst) = some t) (hv : ev N l (.tmp t) = (.bool c))
    (hG : noC C listed = true → G w) (h : WX P ops Q C G n (listed.setIfInBounds i true) (F N (upd l d undef)) w)
    (hs : mayTakeP ops C listed i = true := by kernel_rfl) (hQ : ∀ c a w, Q (.panic c) (a.put (some d) undef) w → Q (.panic c) a w := by exact fun _ _ _ h => h) : WX P ops Q C G (n + 1) listed (F N l) w := dr_take_off hs hi hd hv hc hQ hG h
theorem tU (i : Nat) (t : Tmp) {g : Nat} {b : Bool} (hi : ops[i]? = some ⟨some d, op, ty, pos, after, some (g, b)⟩) (hd : (ops[g]?).bind (·.dst) = some t) (hv : ev N l (.tmp t) = undef)
    (hG : noC C listed = true → G w) (h : WX P ops Q C G n (listed.setIfInBounds i true) (F N (upd l d undef)) w)
    (hs : mayTakeP ops C listed i = true := by kernel_rfl) (hQ : ∀ c a w, Q (.panic c) (a.put (some d) undef) w → Q (.panic c) a w := by exact fun _ _ _ h => h) : WX P ops Q C G (n + 1) listed (F N l) w := dr_take_offu hs hi hd hv hQ hG h
end
end Go.Eng


namespace Go.Proofs.Ytdoeegfcmbcbkaa.Tr
open Go Go.Eng
set_option linter.unusedVariables false
set_option maxRecDepth 100000
set_option maxHeartbeats 4000000
def f7 (t0 : Int) (t1 : Sl) (R : (Bool) → World → Prop) (w : World) : Prop :=
 Cal Try.prog Sl.v 16 #[(Sl.v t1)] w fun t12 w =>
 Cal Try.prog (fun x : TTables × Int => Value.tuple #[(TTables.v x.1), (.int .i64 x.2)]) 34 #[(.int .i64 t0), (Sl.v t12)] w fun t16 w =>
 New 53 (TTables.cells (⟨0, Sl.nil, Sl.nil⟩ : TTables)) w fun b6 w =>
 RnU Try.prog (Instr.storeAt 53 (Ptr (⟨b6, 0, none⟩ : Addr)) (TTables.v t16.1)) w fun w =>
 Cal Try.prog (fun x : TTables × Int => Value.tuple #[(TTables.v x.1), (.int .i64 x.2)]) 36 #[(.int .i64 t0), (Sl.v t1)] w fun t22 w =>
 New 53 (TTables.cells (⟨0, Sl.nil, Sl.nil⟩ : TTables)) w fun b8 w =>
 RnU Try.prog (Instr.storeAt 53 (Ptr (⟨b8, 0, none⟩ : Addr)) (TTables.v t22.1)) w fun w =>
 Jn (σ := Bool) (fun k1 =>
  Rn Try.prog TTables.v (Instr.loadAt 53 (Ptr (⟨b6, 0, none⟩ : Addr))) w fun t25 w =>
  Rn Try.prog TTables.v (Instr.loadAt 53 (Ptr (⟨b8, 0, none⟩ : Addr))) w fun t26 w =>
  Cal Try.prog Value.bool 37 #[(TTables.v t25), (TTables.v t26)] w fun t27 w =>
  if (!t27) = true then
   k1 true w
  else
   if t16.2 ≠ t22.2 then
    k1 true w
   else
    Cal Try.prog Value.bool 21 #[(Sl.v t12), (Sl.v t1)] w fun t37 w =>
    k1 (!t37) w
 ) fun s1 w =>
  if s1 = true then
   R false w
  else
   Rn Try.prog TTables.v (Instr.loadAt 53 (Ptr (⟨b6, 0, none⟩ : Addr))) w fun t40 w =>
   Cal Try.prog TTables.v 38 #[(TTables.v t40)] w fun t41 w =>
   New 53 (TTables.cells (⟨0, Sl.nil, Sl.nil⟩ : TTables)) w fun b10 w =>
   RnU Try.prog (Instr.storeAt 53 (Ptr (⟨b10, 0, none⟩ : Addr)) (TTables.v t41)) w fun w =>
   Cal Try.prog (fun _ : Unit => Value.tuple #[]) 39 #[(Sl.v t12)] w fun t43 w =>
   Jn (σ := Bool) (fun k5 =>
    Rn Try.prog TTables.v (Instr.loadAt 53 (Ptr (⟨b6, 0, none⟩ : Addr))) w fun t44 w =>
    Rn Try.prog TTables.v (Instr.loadAt 53 (Ptr (⟨b8, 0, none⟩ : Addr))) w fun t45 w =>
    Cal Try.prog Value.bool 37 #[(TTables.v t44), (TTables.v t45)] w fun t46 w =>
    if t46 = true then
     Rn Try.prog TTables.v (Instr.loadAt 53 (Ptr (⟨b10, 0, none⟩ : Addr))) w fun t48 w =>
     Rn Try.prog TTables.v (Instr.loadAt 53 (Ptr (⟨b8, 0, none⟩ : Addr))) w fun t49 w =>
     Cal Try.prog Value.bool 37 #[(TTables.v t48), (TTables.v t49)] w fun t50 w =>
     k5 t50 w
    else
     k5 false w
   ) fun s5 w =>
    R s5 w
theorem c7 {t0 : Int} {t1 : Sl} {R : (Bool) → World → Prop} {w : World} (h : f7 t0 t1 R w) :
  Cal Try.prog Value.bool 7 #[(.int .i64 t0), (Sl.v t1)] w R := by
 unfold f7 at h
 refine calls_ Try.func7 Try.ntmps7 rfl rfl <| seq_ <| region_ <| asg (.bool false) rfl <| wl_nil <| then_n <| seq_ <| region_ <| mv (Sl.v t1) rfl ?_
 refine st_cal en16 rfl h ?_; clear h; intro t12 w h
 refine asg (Sl.v t12) rfl <| wl_nil <| then_n <| seq_ <| region_ <| mv (.int .i64 t0) rfl <| mv (Sl.v t12) rfl ?_
 refine st_cal en34 rfl h ?_; clear h; intro t16 w h
 refine mv (.tuple #[(TTables.v t16.1), (.int .i64 t16.2)]) rfl <| st_val (ex_extract (u := (.tuple #[(TTables.v t16.1), (.int .i64 t16.2)])) rfl (v := (TTables.v t16.1)) rfl) <| st_val (ex_extract (u := (.tuple #[(TTables.v t16.1), (.int .i64 t16.2)])) rfl (v := (.int .i64 t16.2)) rfl) ?_
 refine st_new (f := (fun b => Ptr ⟨b, 0, none⟩)) (ex_allocN zero53 rfl) h ?_; clear h; intro b6 w h
 refine st_rnu (fun r => ex_store rfl rfl r) h ?_; clear h; intro w h
 refine asg (.int .i64 t16.2) rfl <| wl_nil <| then_n <| seq_ <| region_ <| mv (.int .i64 t0) rfl <| mv (Sl.v t1) rfl ?_
 refine st_cal en36 rfl h ?_; clear h; intro t22 w h
 refine mv (.tuple #[(TTables.v t22.1), (.int .i64 t22.2)]) rfl <| st_val (ex_extract (u := (.tuple #[(TTables.v t22.1), (.int .i64 t22.2)])) rfl (v := (TTables.v t22.1)) rfl) <| st_val (ex_extract (u := (.tuple #[(TTables.v t22.1), (.int .i64 t22.2)])) rfl (v := (.int .i64 t22.2)) rfl) ?_
 refine st_new (f := (fun b => Ptr ⟨b, 0, none⟩)) (ex_allocN zero53 rfl) h ?_; clear h; intro b8 w h
 refine st_rnu (fun r => ex_store rfl rfl r) h ?_; clear h; intro w h
 refine asg (.int .i64 t22.2) rfl <| wl_nil <| then_n <| seq_ ?_
 refine wp_jn (σ := Bool) (fun s1 l => ∃ j, l = upds j [(5, (Sl.v t12)), (6, (Ptr (⟨b6, 0, none⟩ : Addr))), (8, (Ptr (⟨b8, 0, none⟩ : Addr))), (39, (.bool s1))]) h ?_ ?_
 ·clear h; rintro s1 _ w ⟨j, rfl⟩ h
  by_cases hc4 : s1 = true
  ·rw [if_pos hc4] at h; refine cond_1 (b := s1) rfl hc4 ?_
   refine seq_ <| region_ <| asg (.bool false) rfl <| wl_nil <| then_n <| wp_ret <| then_r ?_
   refine ret_1 rfl rfl ⟨false, rfl, h⟩
  ·rw [if_neg hc4] at h; refine cond_0 (b := s1) rfl (Bool.eq_false_iff.2 hc4) ?_
   refine wp_skip <| then_n <| seq_ <| region_ ?_
   refine st_rn (fun r => ex_load rfl r) h ?_; clear h; intro t40 w h
   refine st_cal en38 rfl h ?_; clear h; intro t41 w h
   refine st_new (f := (fun b => Ptr ⟨b, 0, none⟩)) (ex_allocN zero53 rfl) h ?_; clear h; intro b10 w h
   refine st_rnu (fun r => ex_store rfl rfl r) h ?_; clear h; intro w h
   refine wl_nil <| then_n <| seq_ <| region_ <| mv (Sl.v t12) rfl ?_
   refine st_cal en39 rfl h ?_; clear h; intro t43 w h
   refine wl_nil <| then_n ?_
   refine wp_jn (σ := Bool) (fun s5 l => ∃ j, l = upds j [(4, (.bool s5))]) h ?_ ?_
   ·clear h; rintro s5 _ w ⟨j, rfl⟩ h
    refine wp_ret ?_
    refine ret_1 rfl rfl ⟨s5, rfl, h⟩
   ·clear h; intro k5 h
    refine region_ ?_
    refine st_rn (fun r => ex_load rfl r) h ?_; clear h; intro t44 w h
    refine st_rn (fun r => ex_load rfl r) h ?_; clear h; intro t45 w h
    refine st_cal en37 rfl h ?_; clear h; intro t46 w h
    refine mv (.bool t46) rfl ?_
    by_cases hc6 : t46 = true
    ·rw [if_pos hc6] at h
     refine sOn 47 hc6 rfl rfl ?_
     refine st_rn (fun r => ex_load rfl r) h ?_; clear h; intro t48 w h
     refine sOn 47 hc6 rfl rfl ?_
     refine st_rn (fun r => ex_load rfl r) h ?_; clear h; intro t49 w h
     refine sOn 47 hc6 rfl rfl ?_
     refine st_cal en37 rfl h ?_; clear h; intro t50 w h
     refine st_val (ex_pick1 (b := t46) rfl hc6 (v := (.bool t50)) rfl) <| asg (.bool t50) rfl <| wl_nil ?_
     exact then_n ⟨t50, _, rfl, mk_upds' (ae rfl ae0), h⟩
    ·rw [if_neg hc6] at h
     refine sOff 47 (Bool.eq_false_iff.2 hc6) rfl rfl <| sOff 47 (Bool.eq_false_iff.2 hc6) rfl rfl <| sOff 47 (Bool.eq_false_iff.2 hc6) rfl rfl <| st_val (ex_pick0 (b := t46) rfl (Bool.eq_false_iff.2 hc6) (v := (.bool false)) rfl) <| asg (.bool false) rfl <| wl_nil ?_
     exact then_n ⟨false, _, rfl, mk_upds' (ae rfl ae0), h⟩
 ·clear h; intro k1 h
  refine region_ ?_
  refine st_rn (fun r => ex_load rfl r) h ?_; clear h; intro t25 w h
  refine st_rn (fun r => ex_load rfl r) h ?_; clear h; intro t26 w h
  refine st_cal en37 rfl h ?_; clear h; intro t27 w h
  refine st_val (ex_not (b := t27) rfl) <| mv (.bool (!t27)) rfl ?_
  by_cases hc2 : (!t27) = true
  ·rw [if_pos hc2] at h
   refine sOff 29 hc2 rfl rfl <| sOff 29 hc2 rfl rfl <| sOff 29 hc2 rfl rfl <| st_val (ex_pick1 (b := (!t27)) rfl hc2 (v := (.bool true)) rfl) <| mv (.bool true) rfl <| sOff 34 (rfl : true = !false) rfl rfl <| sOff 34 (rfl : true = !false) rfl rfl <| sOff 34 (rfl : true = !false) rfl rfl <| sOff 34 (rfl : true = !false) rfl rfl <| st_val (ex_pick1 (b := true) rfl (rfl : true = true) (v := (.bool true)) rfl) ?_
   refine wl_nil ?_
   exact then_n ⟨true, _, rfl, mk_upds' (ae rfl (ae rfl (ae rfl (ae rfl ae0)))), h⟩
  ·rw [if_neg hc2] at h
   refine sOn 29 (Bool.eq_false_iff.2 hc2) rfl rfl <| mv (.int .i64 t16.2) rfl <| sOn 29 (Bool.eq_false_iff.2 hc2) rfl rfl <| mv (.int .i64 t22.2) rfl <| sOn 29 (Bool.eq_false_iff.2 hc2) rfl rfl <| st_val (ex_neq (a := t16.2) (b := t22.2) rfl rfl) <| st_val (ex_pick0 (b := (!t27)) rfl (Bool.eq_false_iff.2 hc2) (v := (.bool (decide (t16.2 ≠ t22.2)))) rfl) <| mv (.bool (decide (t16.2 ≠ t22.2))) rfl ?_
   by_cases hc3 : t16.2 ≠ t22.2
   ·rw [if_pos hc3] at h
    refine sOff 34 (decide_eq_true hc3) rfl rfl <| sOff 34 (decide_eq_true hc3) rfl rfl <| sOff 34 (decide_eq_true hc3) rfl rfl <| sOff 34 (decide_eq_true hc3) rfl rfl <| st_val (ex_pick1 (b := (decide (t16.2 ≠ t22.2))) rfl (decide_eq_true hc3) (v := (.bool true)) rfl) <| wl_nil ?_
    exact then_n ⟨true, _, rfl, mk_upds' (ae rfl (ae rfl (ae rfl (ae rfl ae0)))), h⟩
   ·rw [if_neg hc3] at h
    refine sOn 34 (decide_eq_false hc3) rfl rfl <| mv (Sl.v t12) rfl <| sOn 34 (decide_eq_false hc3) rfl rfl <| mv (Sl.v t1) rfl <| sOn 34 (decide_eq_false hc3) rfl rfl ?_
    refine st_cal en21 rfl h ?_; clear h; intro t37 w h
    refine sOn 34 (decide_eq_false hc3) rfl rfl <| st_val (ex_not (b := t37) rfl) <| st_val (ex_pick0 (b := (decide (t16.2 ≠ t22.2))) rfl (decide_eq_false hc3) (v := (.bool (!t37))) rfl) <| wl_nil ?_
    exact then_n ⟨(!t37), _, rfl, mk_upds' (ae rfl (ae rfl (ae rfl (ae rfl ae0)))), h⟩

def f8 (t0 : Sl) (t1 : ByteArray) (R : (Bool) → World → Prop) (w : World) : Prop :=
 Cal Try.prog Value.bool 32 #[] w fun t13 w =>
 if (!t13) = true then
  R false w
 else
  Cal Try.prog Sl.v 16 #[(Sl.v t0)] w fun t17 w =>
  Cal Try.prog (fun x : TTables × Int => Value.tuple #[(TTables.v x.1), (.int .i64 x.2)]) 34 #[(.int .i64 1), (Sl.v t17)] w fun t18 w =>
  New 53 (TTables.cells (⟨0, Sl.nil, Sl.nil⟩ : TTables)) w fun b5 w =>
  RnU Try.prog (Instr.storeAt 53 (Ptr (⟨b5, 0, none⟩ : Addr)) (TTables.v t18.1)) w fun w =>
  if t18.2 ≠ 0 then
   R true w
  else
   Lp (σ := Sl × Int) (fun s3 w n3 =>
    Rn Try.prog Sl.v (Instr.loadAt 51 (Ptr ((⟨b5, 0, none⟩ : Addr).add 1))) w fun t25 w =>
    if s3.2 < (t25.n : Int) then
     Jn (σ := Bool) (fun k5 =>
      Dr w fun w6 w =>
       if 0 < s3.2 then
        RnL Try.prog Sl.v (Instr.loadAt 51 (Ptr ((⟨b5, 0, none⟩ : Addr).add 1))) w6 fun t34 =>
        RnP Try.prog Ptr (Instr.indexAt 51 (Sl.v t34) (.int .i64 (IntKind.i64.wrap (s3.2 - 1)))) fun t37 =>
        RnL Try.prog Value.string (Instr.loadAt 9 (Ptr (t37.add 0))) w6 fun t39 =>
        RnL Try.prog Sl.v (Instr.loadAt 51 (Ptr ((⟨b5, 0, none⟩ : Addr).add 1))) w6 fun t41 =>
        RnP Try.prog Ptr (Instr.indexAt 51 (Sl.v t41) (.int .i64 s3.2)) fun t43 =>
        RnL Try.prog Value.string (Instr.loadAt 9 (Ptr (t43.add 0))) w6 fun t45 =>
        Cal Try.prog (Value.int .i64) 40 #[(.string t39), (.string t45)] w fun t46 w =>
        k5 (decide (0 < t46)) w
       else
        k5 false w
     ) fun s5 w =>
      if s5 = true then
       R false w
      else
       Rn Try.prog Sl.v (Instr.loadAt 51 (Ptr ((⟨b5, 0, none⟩ : Addr).add 1))) w fun t51 w =>
       RnP Try.prog Ptr (Instr.indexAt 51 (Sl.v t51) (.int .i64 s3.2)) fun t53 =>
       Rn Try.prog Value.string (Instr.loadAt 9 (Ptr (t53.add 0))) w fun t55 w =>
       New 9 ([(.string t55)]) w fun b56 w =>
       Rn Try.prog Sl.v (Builtin.append_ #[44, 44] 44 #[(Sl.v s3.1), (Sl.v (⟨some ⟨b56, 0, none⟩, 1, 1⟩ : Sl))]) w fun t57 w =>
       n3 (t57, (IntKind.i64.wrap (s3.2 + 1))) w
    else
     Rn Try.prog TTables.v (Instr.loadAt 53 (Ptr (⟨b5, 0, none⟩ : Addr))) w fun t59 w =>
     Cal Try.prog (fun x : Int × Bool => Value.tuple #[(.int .i64 x.1), (.bool x.2)]) 41 #[(TTables.v t59), (.string t1)] w fun t61 w =>
     Cal Try.prog (fun x : Int × Bool => Value.tuple #[(.int .i64 x.1), (.bool x.2)]) 42 #[(Sl.v s3.1), (.string t1)] w fun t67 w =>
     Jn (σ := Bool) (fun k9 =>
      if (t61.2 == t67.2) = true then
       k9 (decide (t61.1 = t67.1)) w
      else
       k9 false w
     ) fun s9 w =>
      R s9 w
   ) (Sl.nil, 0) w
theorem c8 {t0 : Sl} {t1 : ByteArray} {R : (Bool) → World → Prop} {w : World} (h : f8 t0 t1 R w) :
  Cal Try.prog Value.bool 8 #[(Sl.v t0), (.string t1)] w R := by
 unfold f8 at h
 refine calls_ Try.func8 Try.ntmps8 rfl rfl <| seq_ <| region_ <| asg (.bool false) rfl <| wl_nil <| then_n <| seq_ <| seq_ <| region_ ?_
 refine st_cal en32 rfl h ?_; clear h; intro t13 w h
 refine st_val (ex_not (b := t13) rfl) <| wl_nil <| then_n ?_
 by_cases hc1 : (!t13) = true
 ·rw [if_pos hc1] at h; refine cond_1 (b := (!t13)) rfl hc1 ?_
  refine seq_ <| region_ <| asg (.bool false) rfl <| wl_nil <| then_n <| wp_ret <| then_r ?_
  refine ret_1 rfl rfl ⟨false, rfl, h⟩
 ·rw [if_neg hc1] at h; refine cond_0 (b := (!t13)) rfl (Bool.eq_false_iff.2 hc1) ?_
  refine wp_skip <| then_n <| seq_ <| region_ <| mv (Sl.v t0) rfl ?_
  refine st_cal en16 rfl h ?_; clear h; intro t17 w h
  refine st_cal en34 rfl h ?_; clear h; intro t18 w h
  refine mv (.tuple #[(TTables.v t18.1), (.int .i64 t18.2)]) rfl <| st_val (ex_extract (u := (.tuple #[(TTables.v t18.1), (.int .i64 t18.2)])) rfl (v := (TTables.v t18.1)) rfl) <| st_val (ex_extract (u := (.tuple #[(TTables.v t18.1), (.int .i64 t18.2)])) rfl (v := (.int .i64 t18.2)) rfl) ?_
  refine st_new (f := (fun b => Ptr ⟨b, 0, none⟩)) (ex_allocN zero53 rfl) h ?_; clear h; intro b5 w h
  refine st_rnu (fun r => ex_store rfl rfl r) h ?_; clear h; intro w h
  refine asg (.int .i64 t18.2) rfl <| wl_nil <| then_n <| seq_ <| seq_ <| region_ <| mv (.int .i64 t18.2) rfl <| st_val (ex_neq (a := t18.2) (b := 0) rfl rfl) <| wl_nil <| then_n ?_
  by_cases hc2 : t18.2 ≠ 0
  ·rw [if_pos hc2] at h; refine cond_1 (b := (decide (t18.2 ≠ 0))) rfl (decide_eq_true hc2) ?_
   refine seq_ <| region_ <| asg (.bool true) rfl <| wl_nil <| then_n <| wp_ret <| then_r ?_
   refine ret_1 rfl rfl ⟨true, rfl, h⟩
  ·rw [if_neg hc2] at h; refine cond_0 (b := (decide (t18.2 ≠ 0))) rfl (decide_eq_false hc2) ?_
   refine wp_skip <| then_n <| seq_ <| region_ <| asg (Sl.v Sl.nil) rfl <| wl_nil <| then_n <| seq_ <| seq_ <| region_ ?_
   refine asg (.int .i64 0) rfl <| wl_nil <| then_n <| wp_block <| wp_lp (σ := Sl × Int) (fun s3 a => ∃ j, a = F 78 (upds j [(1, (.string t1)), (5, (Ptr (⟨b5, 0, none⟩ : Addr))), (7, (Sl.v s3.1)), (8, (.int .i64 s3.2))])) h (mk_upds (ae rfl (ae rfl (ae rfl (ae rfl ae0))))) ?_
   clear h; rintro s3 _ w n3 ⟨j, rfl⟩ h
   refine seq_ <| seq_ <| region_ <| mv (.int .i64 s3.2) rfl <| st_val (ex_fa fa53_1 (p := (⟨b5, 0, none⟩ : Addr)) rfl) ?_
   refine st_rn (fun r => ex_load rfl r) h ?_; clear h; intro t25 w h
   refine st_val (ex_len (s := t25) Try.underlying51 rfl) <| st_val (ex_lss (a := s3.2) (b := (t25.n : Int)) rfl rfl) <| wl_nil <| then_n ?_
   by_cases hc4 : s3.2 < (t25.n : Int)
   ·rw [if_pos hc4] at h; refine cond_1 (b := (decide (s3.2 < (t25.n : Int)))) rfl (decide_eq_true hc4) ?_
    refine wp_skip <| then_n <| seq_ <| wp_block <| seq_ ?_
    refine wp_jn (σ := Bool) (fun s5 l => ∃ j, l = upds j [(1, (.string t1)), (5, (Ptr (⟨b5, 0, none⟩ : Addr))), (7, (Sl.v s3.1)), (8, (.int .i64 s3.2)), (48, (.bool s5))]) h ?_ ?_
    ·clear h; rintro s5 _ w ⟨j, rfl⟩ h
     by_cases hc8 : s5 = true
     ·rw [if_pos hc8] at h; refine cond_1 (b := s5) rfl hc8 ?_
      refine seq_ <| region_ <| asg (.bool false) rfl <| wl_nil <| then_n <| wp_ret <| then_r <| inb_r <| then_r <| then_r ?_
      refine inb_r <| then_r ?_
      refine ret_1 rfl rfl ⟨false, rfl, h⟩
     ·rw [if_neg hc8] at h; refine cond_0 (b := s5) rfl (Bool.eq_false_iff.2 hc8) ?_
      refine wp_skip <| then_n <| region_ <| mv (Sl.v s3.1) rfl <| st_val (ex_fa fa53_1 (p := (⟨b5, 0, none⟩ : Addr)) rfl) ?_
      refine st_rn (fun r => ex_load rfl r) h ?_; clear h; intro t51 w h
      refine mv (.int .i64 s3.2) rfl ?_
      refine st_rnp (fun r => ex_indexAddr rfl rfl r) h ?_; clear h; intro t53 h
      refine st_val (ex_fa fa59_0 (p := t53) rfl) ?_
      refine st_rn (fun r => ex_load rfl r) h ?_; clear h; intro t55 w h
      refine st_new (f := (fun b => Sl.v ⟨some ⟨b, 0, none⟩, 1, 1⟩)) (ex_buildSlice (a' := [(0, (.string t55))]) rfl (e_buildSlice (cs := ([(.string t55)])) Try.underlying44 info9 iz9 (by decide +kernel) (by decide +kernel) (by kernel_rfl) _)) h ?_; clear h; intro b56 w h
      refine st_rn (fun r => ex_builtin rfl (fun _ => rfl) r) h ?_; clear h; intro t57 w h
      refine asg (Sl.v t57) rfl <| wl_nil <| inb_n <| then_n <| region_ <| mv (.int .i64 s3.2) rfl <| st_val (ex_add (a := s3.2) (b := 1) rfl rfl) <| asg (.int .i64 (IntKind.i64.wrap (s3.2 + 1))) rfl <| wl_nil ?_
      exact then_n ⟨(t57, (IntKind.i64.wrap (s3.2 + 1))), mk_upds (ae rfl (ae rfl (ae rfl (ae rfl ae0)))), h⟩
    ·clear h; intro k5 h
     refine dr_begin mixed [16] (listed := #[false, false, false, false, false, false, false, false, false, false, false, false, false, false, false, false, false, false, false]) rfl (n := 19) rfl h ?_; clear h; intro w6 h
     have hE : Ext w6 w6 := Ext.refl _
     refine tP 0 rfl (fun _ => hE) (fun _ => ex_move (v := (.int .i64 s3.2)) rfl) <| tP 1 rfl (fun _ => hE) (fun _ => ex_gtr (a := s3.2) (b := 0) rfl rfl) <| tP 2 rfl (fun _ => hE) (fun _ => ex_move (v := (.bool (decide (0 < s3.2)))) rfl) ?_
     by_cases hc7 : 0 < s3.2
     ·rw [if_pos hc7] at h
      refine tPo 3 32 rfl (decide_eq_true hc7) rfl rfl (fun _ => hE) (fun _ => ex_fa fa53_1 (p := (⟨b5, 0, none⟩ : Addr)) rfl) ?_
      obtain ⟨t34, ht34, h⟩ := h
      refine tKo 4 32 rfl (decide_eq_true hc7) rfl rfl hE (fun _ hw => (fun r => ex_load rfl r) (ht34 _ hw)) <| tPo 5 32 rfl (decide_eq_true hc7) rfl rfl (fun _ => hE) (fun _ => ex_move (v := (.int .i64 s3.2)) rfl) <| tPo 6 32 rfl (decide_eq_true hc7) rfl rfl (fun _ => hE) (fun _ => ex_sub (a := s3.2) (b := 1) rfl rfl) ?_
      obtain ⟨t37, ht37, h⟩ := h
      refine tPo 7 32 rfl (decide_eq_true hc7) rfl rfl (fun _ => hE) (fun _ => (fun r => ex_indexAddr rfl rfl r) (ht37 _)) <| tPo 8 32 rfl (decide_eq_true hc7) rfl rfl (fun _ => hE) (fun _ => ex_fa fa59_0 (p := t37) rfl) ?_
      obtain ⟨t39, ht39, h⟩ := h
      refine tKo 9 32 rfl (decide_eq_true hc7) rfl rfl hE (fun _ hw => (fun r => ex_load rfl r) (ht39 _ hw)) <| tPo 10 32 rfl (decide_eq_true hc7) rfl rfl (fun _ => hE) (fun _ => ex_fa fa53_1 (p := (⟨b5, 0, none⟩ : Addr)) rfl) ?_
      obtain ⟨t41, ht41, h⟩ := h
      refine tKo 11 32 rfl (decide_eq_true hc7) rfl rfl hE (fun _ hw => (fun r => ex_load rfl r) (ht41 _ hw)) <| tPo 12 32 rfl (decide_eq_true hc7) rfl rfl (fun _ => hE) (fun _ => ex_move (v := (.int .i64 s3.2)) rfl) ?_
      obtain ⟨t43, ht43, h⟩ := h
      refine tPo 13 32 rfl (decide_eq_true hc7) rfl rfl (fun _ => hE) (fun _ => (fun r => ex_indexAddr rfl rfl r) (ht43 _)) <| tPo 14 32 rfl (decide_eq_true hc7) rfl rfl (fun _ => hE) (fun _ => ex_fa fa59_0 (p := t43) rfl) ?_
      obtain ⟨t45, ht45, h⟩ := h
      refine tKo 15 32 rfl (decide_eq_true hc7) rfl rfl hE (fun _ hw => (fun r => ex_load rfl r) (ht45 _ hw)) <| dr_only_on (i := 16) (t := 32) (c := (decide (0 < s3.2))) (by kernel_rfl) rfl rfl rfl (decide_eq_true hc7) ?_
      refine o_cal en40 rfl h ?_; clear h; intro t46 w h; refine ⟨noG (by kernel_rfl), ?_⟩
      refine tPo 17 32 rfl (decide_eq_true hc7) rfl rfl (noG (by kernel_rfl)) (fun _ => ex_gtr (a := t46) (b := 0) rfl rfl) <| tP 18 rfl (noG (by kernel_rfl)) (fun _ => ex_pick1 (b := (decide (0 < s3.2))) rfl (decide_eq_true hc7) (v := (.bool (decide (0 < t46)))) rfl) <| dr_end (by kernel_rfl) ?_
      exact then_n ⟨(decide (0 < t46)), _, rfl, mk_upds' (ae rfl (ae rfl (ae rfl (ae rfl (ae rfl ae0))))), h⟩
     ·rw [if_neg hc7] at h
      refine tF 3 32 rfl (decide_eq_false hc7) rfl rfl (fun _ => hE) <| tF 4 32 rfl (decide_eq_false hc7) rfl rfl (fun _ => hE) <| tF 5 32 rfl (decide_eq_false hc7) rfl rfl (fun _ => hE) <| tF 6 32 rfl (decide_eq_false hc7) rfl rfl (fun _ => hE) <| tF 7 32 rfl (decide_eq_false hc7) rfl rfl (fun _ => hE) <| tF 8 32 rfl (decide_eq_false hc7) rfl rfl (fun _ => hE) <| tF 9 32 rfl (decide_eq_false hc7) rfl rfl (fun _ => hE) <| tF 10 32 rfl (decide_eq_false hc7) rfl rfl (fun _ => hE) <| tF 11 32 rfl (decide_eq_false hc7) rfl rfl (fun _ => hE) <| tF 12 32 rfl (decide_eq_false hc7) rfl rfl (fun _ => hE) ?_
      refine tF 13 32 rfl (decide_eq_false hc7) rfl rfl (fun _ => hE) <| tF 14 32 rfl (decide_eq_false hc7) rfl rfl (fun _ => hE) <| tF 15 32 rfl (decide_eq_false hc7) rfl rfl (fun _ => hE) <| dr_only_off (i := 16) (t := 32) (c := (decide (0 < s3.2))) (by kernel_rfl) rfl rfl rfl (decide_eq_false hc7) (fun _ => hE) <| tF 17 32 rfl (decide_eq_false hc7) rfl rfl (noG (by kernel_rfl)) <| tP 18 rfl (noG (by kernel_rfl)) (fun _ => ex_pick0 (b := (decide (0 < s3.2))) rfl (decide_eq_false hc7) (v := (.bool false)) rfl) <| dr_end (by kernel_rfl) ?_
      exact then_n ⟨false, _, rfl, mk_upds' (ae rfl (ae rfl (ae rfl (ae rfl (ae rfl ae0))))), h⟩
   ·rw [if_neg hc4] at h; refine cond_0 (b := (decide (s3.2 < (t25.n : Int)))) rfl (decide_eq_false hc4) ?_
    refine wp_exit <| then_e <| then_e <| inb_e <| then_n <| seq_ <| region_ ?_
    refine st_rn (fun r => ex_load rfl r) h ?_; clear h; intro t59 w h
    refine mv (.string t1) rfl ?_
    refine st_cal en41 rfl h ?_; clear h; intro t61 w h
    refine mv (.tuple #[(.int .i64 t61.1), (.bool t61.2)]) rfl <| st_val (ex_extract (u := (.tuple #[(.int .i64 t61.1), (.bool t61.2)])) rfl (v := (.int .i64 t61.1)) rfl) <| st_val (ex_extract (u := (.tuple #[(.int .i64 t61.1), (.bool t61.2)])) rfl (v := (.bool t61.2)) rfl) <| asg (.int .i64 t61.1) rfl <| asg (.bool t61.2) rfl <| wl_nil <| then_n <| seq_ <| region_ <| mv (Sl.v s3.1) rfl ?_
    refine mv (.string t1) rfl ?_
    refine st_cal en42 rfl h ?_; clear h; intro t67 w h
    refine mv (.tuple #[(.int .i64 t67.1), (.bool t67.2)]) rfl <| st_val (ex_extract (u := (.tuple #[(.int .i64 t67.1), (.bool t67.2)])) rfl (v := (.int .i64 t67.1)) rfl) <| st_val (ex_extract (u := (.tuple #[(.int .i64 t67.1), (.bool t67.2)])) rfl (v := (.bool t67.2)) rfl) <| asg (.int .i64 t67.1) rfl <| asg (.bool t67.2) rfl <| wl_nil <| then_n ?_
    refine wp_jn (σ := Bool) (fun s9 l => ∃ j, l = upds j [(4, (.bool s9))]) h ?_ ?_
    ·clear h; rintro s9 _ w ⟨j, rfl⟩ h
     refine wp_ret ?_
     refine ret_1 rfl rfl ⟨s9, rfl, h⟩
    ·clear h; intro k9 h
     refine region_ <| mv (.bool t61.2) rfl <| mv (.bool t67.2) rfl <| st_val (ex_eqlB Try.underlying4 (a := t61.2) (b := t67.2) rfl rfl) <| mv (.bool (t61.2 == t67.2)) rfl ?_
     by_cases hc10 : (t61.2 == t67.2) = true
     ·rw [if_pos hc10] at h
      refine sOn 73 hc10 rfl rfl <| mv (.int .i64 t61.1) rfl <| sOn 73 hc10 rfl rfl <| mv (.int .i64 t67.1) rfl <| sOn 73 hc10 rfl rfl <| st_val (ex_eql (a := t61.1) (b := t67.1) rfl rfl) <| st_val (ex_pick1 (b := (t61.2 == t67.2)) rfl hc10 (v := (.bool (decide (t61.1 = t67.1)))) rfl) <| asg (.bool (decide (t61.1 = t67.1))) rfl <| wl_nil ?_
      exact then_n ⟨(decide (t61.1 = t67.1)), _, rfl, mk_upds' (ae rfl ae0), h⟩
     ·rw [if_neg hc10] at h
      refine sOff 73 (Bool.eq_false_iff.2 hc10) rfl rfl <| sOff 73 (Bool.eq_false_iff.2 hc10) rfl rfl <| sOff 73 (Bool.eq_false_iff.2 hc10) rfl rfl <| st_val (ex_pick0 (b := (t61.2 == t67.2)) rfl (Bool.eq_false_iff.2 hc10) (v := (.bool false)) rfl) <| asg (.bool false) rfl <| wl_nil ?_
      exact then_n ⟨false, _, rfl, mk_upds' (ae rfl ae0), h⟩

def f16 (t0 : Sl) (R : (Sl) → World → Prop) (w : World) : Prop :=
 Lp (σ := Sl × Int) (fun s1 w n1 =>
  if s1.2 < (t0.n : Int) then
   RnP Try.prog Ptr (Instr.indexAt 22 (Sl.v t0) (.int .i64 s1.2)) fun t14 =>
   Rn Try.prog TResource.v (Instr.loadAt 48 (Ptr t14)) w fun t15 w =>
   New 48 (TResource.cells (⟨0, ⟨#[]⟩, Sl.nil, Sl.nil, ⟨#[]⟩, Sl.nil, ⟨#[]⟩, false⟩ : TResource)) w fun b5 w =>
   RnU Try.prog (Instr.storeAt 48 (Ptr (⟨b5, 0, none⟩ : Addr)) (TResource.v t15)) w fun w =>
   New 9 [] w fun b16 w =>
   Rn Try.prog Sl.v (Instr.loadAt 44 (Ptr ((⟨b5, 0, none⟩ : Addr).add 2))) w fun t18 w =>
   Rn Try.prog Sl.v (Builtin.append_ #[44, 44] 44 #[(Sl.v (⟨some ⟨b16, 0, none⟩, 0, 0⟩ : Sl)), (Sl.v t18)]) w fun t19 w =>
   RnU Try.prog (Instr.storeAt 44 (Ptr ((⟨b5, 0, none⟩ : Addr).add 2)) (Sl.v t19)) w fun w =>
   New 84 [] w fun b21 w =>
   Rn Try.prog Sl.v (Instr.loadAt 45 (Ptr ((⟨b5, 0, none⟩ : Addr).add 3))) w fun t23 w =>
   Rn Try.prog Sl.v (Builtin.append_ #[45, 45] 45 #[(Sl.v (⟨some ⟨b21, 0, none⟩, 0, 0⟩ : Sl)), (Sl.v t23)]) w fun t24 w =>
   RnU Try.prog (Instr.storeAt 45 (Ptr ((⟨b5, 0, none⟩ : Addr).add 3)) (Sl.v t24)) w fun w =>
   New 91 [] w fun b26 w =>
   Rn Try.prog Sl.v (Instr.loadAt 46 (Ptr ((⟨b5, 0, none⟩ : Addr).add 5))) w fun t28 w =>
   Rn Try.prog Sl.v (Builtin.append_ #[46, 46] 46 #[(Sl.v (⟨some ⟨b26, 0, none⟩, 0, 0⟩ : Sl)), (Sl.v t28)]) w fun t29 w =>
   RnU Try.prog (Instr.storeAt 46 (Ptr ((⟨b5, 0, none⟩ : Addr).add 5)) (Sl.v t29)) w fun w =>
   Rn Try.prog TResource.v (Instr.loadAt 48 (Ptr (⟨b5, 0, none⟩ : Addr))) w fun t32 w =>
   New 48 ((TResource.cells t32)) w fun b33 w =>
   Rn Try.prog Sl.v (Builtin.append_ #[22, 22] 22 #[(Sl.v s1.1), (Sl.v (⟨some ⟨b33, 0, none⟩, 1, 1⟩ : Sl))]) w fun t34 w =>
   n1 (t34, (IntKind.i64.wrap (s1.2 + 1))) w
  else
   New 48 ((TResource.cells (⟨(-77), ⟨#[]⟩, Sl.nil, Sl.nil, ⟨#[]⟩, Sl.nil, ⟨#[]⟩, false⟩ : TResource))) w fun b37 w =>
   Rn Try.prog Sl.v (Builtin.append_ #[22, 22] 22 #[(Sl.v s1.1), (Sl.v (⟨some ⟨b37, 0, none⟩, 1, 1⟩ : Sl))]) w fun t38 w =>
   RnP Try.prog Sl.v (Instr.sliceAt 22 (Sl.v t38) none (some (.int .i64 (t0.n : Int))) none) fun t42 =>
   R t42 w
 ) (Sl.nil, 0) w
theorem c16 {t0 : Sl} {R : (Sl) → World → Prop} {w : World} (h : f16 t0 R w) :
  Cal Try.prog Sl.v 16 #[(Sl.v t0)] w R := by
 unfold f16 at h
 refine calls_ Try.func16 Try.ntmps16 rfl rfl <| seq_ <| region_ <| asg (Sl.v Sl.nil) rfl <| wl_nil <| then_n <| seq_ <| region_ <| asg (Sl.v Sl.nil) rfl <| wl_nil ?_
 refine then_n <| seq_ <| seq_ <| region_ <| asg (.int .i64 0) rfl <| wl_nil <| then_n <| wp_block <| wp_lp (σ := Sl × Int) (fun s1 a => ∃ j, a = F 43 (upds j [(0, (Sl.v t0)), (3, (Sl.v s1.1)), (4, (.int .i64 s1.2))])) h (mk_upds (ae rfl (ae rfl (ae rfl ae0)))) ?_
 clear h; rintro s1 _ w n1 ⟨j, rfl⟩ h
 refine seq_ <| seq_ <| region_ <| mv (.int .i64 s1.2) rfl <| mv (Sl.v t0) rfl <| st_val (ex_len (s := t0) Try.underlying22 rfl) <| st_val (ex_lss (a := s1.2) (b := (t0.n : Int)) rfl rfl) <| wl_nil <| then_n ?_
 by_cases hc2 : s1.2 < (t0.n : Int)
 ·rw [if_pos hc2] at h; refine cond_1 (b := (decide (s1.2 < (t0.n : Int)))) rfl (decide_eq_true hc2) ?_
  refine wp_skip <| then_n <| seq_ <| wp_block <| seq_ <| region_ <| mv (Sl.v t0) rfl <| mv (.int .i64 s1.2) rfl ?_
  refine st_rnp (fun r => ex_indexAddr rfl rfl r) h ?_; clear h; intro t14 h
  refine st_rn (fun r => ex_load rfl r) h ?_; clear h; intro t15 w h
  refine st_new (f := (fun b => Ptr ⟨b, 0, none⟩)) (ex_allocN zero48 rfl) h ?_; clear h; intro b5 w h
  refine st_rnu (fun r => ex_store rfl rfl r) h ?_; clear h; intro w h
  refine wl_nil <| then_n <| seq_ <| region_ ?_
  refine st_new (f := (fun b => Sl.v ⟨some ⟨b, 0, none⟩, 0, 0⟩)) (ex_buildSlice (a' := []) rfl (e_buildSlice0 Try.underlying44 info9 _)) h ?_; clear h; intro b16 w h
  refine st_val (ex_fa fa48_2 (p := (⟨b5, 0, none⟩ : Addr)) rfl) ?_
  refine st_rn (fun r => ex_load rfl r) h ?_; clear h; intro t18 w h
  refine st_rn (fun r => ex_builtin rfl (fun _ => rfl) r) h ?_; clear h; intro t19 w h
  refine st_val (ex_fa fa48_2 (p := (⟨b5, 0, none⟩ : Addr)) rfl) ?_
  refine st_rnu (fun r => ex_store rfl rfl r) h ?_; clear h; intro w h
  refine wl_nil <| then_n <| seq_ <| region_ ?_
  refine st_new (f := (fun b => Sl.v ⟨some ⟨b, 0, none⟩, 0, 0⟩)) (ex_buildSlice (a' := []) rfl (e_buildSlice0 Try.underlying45 info84 _)) h ?_; clear h; intro b21 w h
  refine st_val (ex_fa fa48_3 (p := (⟨b5, 0, none⟩ : Addr)) rfl) ?_
  refine st_rn (fun r => ex_load rfl r) h ?_; clear h; intro t23 w h
  refine st_rn (fun r => ex_builtin rfl (fun _ => rfl) r) h ?_; clear h; intro t24 w h
  refine st_val (ex_fa fa48_3 (p := (⟨b5, 0, none⟩ : Addr)) rfl) ?_
  refine st_rnu (fun r => ex_store rfl rfl r) h ?_; clear h; intro w h
  refine wl_nil <| then_n <| seq_ <| region_ ?_
  refine st_new (f := (fun b => Sl.v ⟨some ⟨b, 0, none⟩, 0, 0⟩)) (ex_buildSlice (a' := []) rfl (e_buildSlice0 Try.underlying46 info91 _)) h ?_; clear h; intro b26 w h
  refine st_val (ex_fa fa48_5 (p := (⟨b5, 0, none⟩ : Addr)) rfl) ?_
  refine st_rn (fun r => ex_load rfl r) h ?_; clear h; intro t28 w h
  refine st_rn (fun r => ex_builtin rfl (fun _ => rfl) r) h ?_; clear h; intro t29 w h
  refine st_val (ex_fa fa48_5 (p := (⟨b5, 0, none⟩ : Addr)) rfl) ?_
  refine st_rnu (fun r => ex_store rfl rfl r) h ?_; clear h; intro w h
  refine wl_nil <| then_n <| region_ <| mv (Sl.v s1.1) rfl ?_
  refine st_rn (fun r => ex_load rfl r) h ?_; clear h; intro t32 w h
  refine st_new (f := (fun b => Sl.v ⟨some ⟨b, 0, none⟩, 1, 1⟩)) (ex_buildSlice (a' := [(0, (TResource.v t32))]) rfl (e_buildSlice (cs := ((TResource.cells t32))) Try.underlying22 info48 iz48 (by decide +kernel) (by decide +kernel) (by kernel_rfl) _)) h ?_; clear h; intro b33 w h
  refine st_rn (fun r => ex_builtin rfl (fun _ => rfl) r) h ?_; clear h; intro t34 w h
  refine asg (Sl.v t34) rfl <| wl_nil <| inb_n <| then_n <| region_ <| mv (.int .i64 s1.2) rfl <| st_val (ex_add (a := s1.2) (b := 1) rfl rfl) <| asg (.int .i64 (IntKind.i64.wrap (s1.2 + 1))) rfl <| wl_nil ?_
  exact then_n ⟨(t34, (IntKind.i64.wrap (s1.2 + 1))), mk_upds (ae rfl (ae rfl (ae rfl ae0))), h⟩
 ·rw [if_neg hc2] at h; refine cond_0 (b := (decide (s1.2 < (t0.n : Int)))) rfl (decide_eq_false hc2) ?_
  refine wp_exit <| then_e <| then_e <| inb_e <| then_n <| seq_ <| region_ <| mv (Sl.v s1.1) rfl <| st_val (ex_build (a' := [(0, (.int .i64 (-77)))]) (v := TResource.v (⟨(-77), ⟨#[]⟩, Sl.nil, Sl.nil, ⟨#[]⟩, Sl.nil, ⟨#[]⟩, false⟩ : TResource)) rfl (e_build Try.underlying48 zero48 rfl pl48 rfl _)) ?_
  refine st_new (f := (fun b => Sl.v ⟨some ⟨b, 0, none⟩, 1, 1⟩)) (ex_buildSlice (a' := [(0, (TResource.v (⟨(-77), ⟨#[]⟩, Sl.nil, Sl.nil, ⟨#[]⟩, Sl.nil, ⟨#[]⟩, false⟩ : TResource)))]) rfl (e_buildSlice (cs := ((TResource.cells (⟨(-77), ⟨#[]⟩, Sl.nil, Sl.nil, ⟨#[]⟩, Sl.nil, ⟨#[]⟩, false⟩ : TResource)))) Try.underlying22 info48 iz48 (by decide +kernel) (by decide +kernel) (by kernel_rfl) _)) h ?_; clear h; intro b37 w h
  refine st_rn (fun r => ex_builtin rfl (fun _ => rfl) r) h ?_; clear h; intro t38 w h
  refine asg (Sl.v t38) rfl <| wl_nil <| then_n <| seq_ <| region_ <| mv (Sl.v t38) rfl <| mv (Sl.v t0) rfl <| st_val (ex_len (s := t0) Try.underlying22 rfl) ?_
  refine st_rnp (fun r => ex_slice rfl rfl rfl rfl r) h ?_; clear h; intro t42 h
  refine asg (Sl.v t42) rfl <| wl_nil <| then_n <| wp_ret ?_
  refine ret_1 rfl rfl ⟨t42, rfl, h⟩

def f17 (t0 : Sl) (t1 : ByteArray) (R : (Sl × Int) → World → Prop) (w : World) : Prop :=
 New 9 [(.string t1)] w fun b3 w =>
 Cal Try.prog (fun x : Sl × TFault => Value.tuple #[(Sl.v x.1), (TFault.v x.2)]) 46 #[(Sl.v t0)] w fun t10 w =>
 New 80 (TFault.cells (⟨0, 0, 0⟩ : TFault)) w fun b7 w =>
 RnU Try.prog (Instr.storeAt 80 (Ptr (⟨b7, 0, none⟩ : Addr)) (TFault.v t10.2)) w fun w =>
 Rn Try.prog (Value.int .i64) (Instr.loadAt 25 (Ptr ((⟨b7, 0, none⟩ : Addr).add 2))) w fun t14 w =>
 if t14 ≠ 0 then
  Dr w fun w2 w =>
   RnL Try.prog (Value.int .i64) (Instr.loadAt 25 (Ptr ((⟨b7, 0, none⟩ : Addr).add 2))) w2 fun t17 =>
   R (Sl.nil, t17) w
 else
  Cal Try.prog Sl.v 54 #[(Sl.v t0), (.int .i64 2)] w fun t19 w =>
  Cal Try.prog Value.bool 53 #[(Sl.v t19), (Value.func (.func 55) #[] #[(Ptr (⟨b3, 0, none⟩ : Addr))])] w fun t21 w =>
  if (!t21) = true then
   R (Sl.nil, 2) w
  else
   Dr w fun w4 w =>
    RnL Try.prog Value.string (Instr.loadAt 9 (Ptr (⟨b3, 0, none⟩ : Addr))) w4 fun t25 =>
    Cal Try.prog Value.map 57 #[(Sl.v t0)] w (ExtK w4 fun t24 w =>
     Rn Try.prog Sl.v (Instr.lookup 97 (.map t24) (.string t25) false) w fun t26 w =>
     Cal Try.prog Sl.v 56 #[(Sl.v t26)] w fun t27 w =>
     R (t27, 0) w
    )
def f18 (t0 : Sl) (t1 : ByteArray) (R : (Sl × Int) → World → Prop) (w : World) : Prop :=
 Cal Try.prog (fun x : Sl × TFault14 => Value.tuple #[(Sl.v x.1), (TFault14.v x.2)]) 58 #[(Sl.v t0)] w fun t12 w =>
 New 101 (TFault14.cells (⟨0, 0, 0⟩ : TFault14)) w fun b7 w =>
 RnU Try.prog (Instr.storeAt 101 (Ptr (⟨b7, 0, none⟩ : Addr)) (TFault14.v t12.2)) w fun w =>
 Rn Try.prog (Value.int .i64) (Instr.loadAt 3 (Ptr ((⟨b7, 0, none⟩ : Addr).add 2))) w fun t16 w =>
 if t16 ≠ 0 then
  Dr w fun w2 w =>
   RnL Try.prog (Value.int .i64) (Instr.loadAt 3 (Ptr ((⟨b7, 0, none⟩ : Addr).add 2))) w2 fun t19 =>
   R (Sl.nil, t19) w
 else
  Cal Try.prog Value.pointer 59 #[(Sl.v t0)] w fun t21 w =>
  Cal Try.prog (Value.int .i64) 60 #[(.pointer t21), (.string t1)] w fun t24 w =>
  if t24 < 0 then
   R (Sl.nil, 2) w
  else
   NotNil t21 fun t28 =>
   Rn Try.prog Sl.v (Instr.loadAt 107 (Ptr (t28.add 1))) w fun t30 w =>
   RnP Try.prog Ptr (Instr.indexAt 107 (Sl.v t30) (.int .i64 t24)) fun t32 =>
   Rn Try.prog Sl.v (Instr.loadAt 23 (Ptr t32)) w fun t33 w =>
   R (t33, 0) w
def f19 (t0 : Sl) (R : (Sl) → World → Prop) (w : World) : Prop :=
 Lp (σ := Sl × Nat × Int) (fun s1 w n1 =>
  if s1.2.2 < (t0.n : Int) then
   Jn (σ := Sl × Nat) (fun k3 =>
    RnP Try.prog Ptr (Instr.indexAt 23 (Sl.v t0) (.int .i64 s1.2.2)) fun t11 =>
    Rn Try.prog TShare.v (Instr.loadAt 32 (Ptr t11)) w fun t12 w =>
    New 32 (TShare.cells (⟨⟨#[]⟩, 0⟩ : TShare)) w fun b6 w =>
    RnU Try.prog (Instr.storeAt 32 (Ptr (⟨b6, 0, none⟩ : Addr)) (TShare.v t12)) w fun w =>
    Rn Try.prog (Value.float .f64) (Instr.loadAt 30 (Ptr ((⟨b6, 0, none⟩ : Addr).add 1))) w fun t14 w =>
    if (fGt t14 0) = true then
     Rn Try.prog (Value.float .f64) (Instr.loadAt 30 (Ptr ((⟨b6, 0, none⟩ : Addr).add 1))) w fun t18 w =>
     Rn Try.prog (Value.float .f64) (Op.floatArith .add .f64 s1.2.1 t18) w fun t19 w =>
     Rn Try.prog Value.string (Instr.loadAt 9 (Ptr ((⟨b6, 0, none⟩ : Addr).add 0))) w fun t22 w =>
     New 32 ((TShare.cells (⟨t22, t19⟩ : TShare))) w fun b25 w =>
     Rn Try.prog Sl.v (Builtin.append_ #[23, 23] 23 #[(Sl.v s1.1), (Sl.v (⟨some ⟨b25, 0, none⟩, 1, 1⟩ : Sl))]) w fun t26 w =>
     k3 (t26, t19) w
    else
     k3 (s1.1, s1.2.1) w
   ) fun s3 w =>
    n1 (s3.1, s3.2, (IntKind.i64.wrap (s1.2.2 + 1))) w
  else
   Jn (σ := Unit) (fun k5 =>
    if 0 < (s1.1.n : Int) then
     RnP Try.prog Ptr (Instr.indexAt 23 (Sl.v s1.1) (.int .i64 (IntKind.i64.wrap ((s1.1.n : Int) - 1)))) fun t35 =>
     RnU Try.prog (Instr.storeAt 30 (Ptr (t35.add 1)) (.float .f64 4607182418800017408)) w fun w =>
     k5 () w
    else
     k5 () w
   ) fun s5 w =>
    R s1.1 w
 ) (Sl.nil, 0, 0) w
theorem c19 {t0 : Sl} {R : (Sl) → World → Prop} {w : World} (h : f19 t0 R w) :
  Cal Try.prog Sl.v 19 #[(Sl.v t0)] w R := by
 unfold f19 at h
 refine calls_ Try.func19 Try.ntmps19 rfl rfl <| seq_ <| region_ <| asg (Sl.v Sl.nil) rfl <| wl_nil <| then_n <| seq_ <| region_ <| asg (Sl.v Sl.nil) rfl <| wl_nil ?_
 refine then_n <| seq_ <| region_ <| asg (.float .f64 0) rfl <| wl_nil <| then_n <| seq_ <| seq_ <| region_ <| mv (Sl.v t0) rfl ?_
 refine st_val (ex_len (s := t0) Try.underlying23 rfl) <| mv (.int .i64 0) rfl <| wl_nil <| then_n <| wp_block <| wp_lp (σ := Sl × Nat × Int) (fun s1 a => ∃ j, a = F 38 (upds j [(3, (Sl.v s1.1)), (4, (.float .f64 s1.2.1)), (7, (Sl.v t0)), (8, (.int .i64 (t0.n : Int))), (9, (.int .i64 s1.2.2))])) h (mk_upds (ae rfl (ae rfl (ae rfl (ae rfl (ae rfl ae0)))))) ?_
 clear h; rintro s1 _ w n1 ⟨j, rfl⟩ h
 refine seq_ <| region_ <| st_val (ex_lss (a := s1.2.2) (b := (t0.n : Int)) rfl rfl) <| wl_nil <| then_n <| seq_ ?_
 by_cases hc2 : s1.2.2 < (t0.n : Int)
 ·rw [if_pos hc2] at h; refine cond_1 (b := (decide (s1.2.2 < (t0.n : Int)))) rfl (decide_eq_true hc2) ?_
  refine wp_skip <| then_n ?_
  refine wp_jn (σ := Sl × Nat) (fun s3 l => ∃ j, l = upds j [(3, (Sl.v s3.1)), (4, (.float .f64 s3.2)), (7, (Sl.v t0)), (8, (.int .i64 (t0.n : Int))), (9, (.int .i64 s1.2.2))]) h ?_ ?_
  ·clear h; rintro s3 _ w ⟨j, rfl⟩ h
   refine region_ <| st_val (ex_add (a := s1.2.2) (b := 1) rfl rfl) <| mv (.int .i64 (IntKind.i64.wrap (s1.2.2 + 1))) rfl <| wl_nil ?_
   exact then_n ⟨(s3.1, s3.2, (IntKind.i64.wrap (s1.2.2 + 1))), mk_upds (ae rfl (ae rfl (ae rfl (ae rfl (ae rfl ae0))))), h⟩
  ·clear h; intro k3 h
   refine wp_block <| seq_ <| region_ ?_
   refine st_rnp (fun r => ex_indexAddr rfl rfl r) h ?_; clear h; intro t11 h
   refine st_rn (fun r => ex_load rfl r) h ?_; clear h; intro t12 w h
   refine st_new (f := (fun b => Ptr ⟨b, 0, none⟩)) (ex_allocN zero32 rfl) h ?_; clear h; intro b6 w h
   refine st_rnu (fun r => ex_store rfl rfl r) h ?_; clear h; intro w h
   refine wl_nil <| then_n <| seq_ <| region_ <| st_val (ex_fa fa32_1 (p := (⟨b6, 0, none⟩ : Addr)) rfl) ?_
   refine st_rn (fun r => ex_load rfl r) h ?_; clear h; intro t14 w h
   refine st_val (ex_gtrF (a := t14) (b := 0) rfl rfl) <| wl_nil <| then_n ?_
   by_cases hc4 : (fGt t14 0) = true
   ·rw [if_pos hc4] at h; refine cond_1 (b := (fGt t14 0)) rfl hc4 ?_
    refine seq_ <| region_ <| mv (.float .f64 s1.2.1) rfl <| st_val (ex_fa fa32_1 (p := (⟨b6, 0, none⟩ : Addr)) rfl) ?_
    refine st_rn (fun r => ex_load rfl r) h ?_; clear h; intro t18 w h
    refine st_rn (fun r => ex_addF (a := s1.2.1) (b := t18) rfl rfl r) h ?_; clear h; intro t19 w h
    refine asg (.float .f64 t19) rfl <| wl_nil <| then_n <| region_ <| mv (Sl.v s1.1) rfl <| st_val (ex_fa fa32_0 (p := (⟨b6, 0, none⟩ : Addr)) rfl) ?_
    refine st_rn (fun r => ex_load rfl r) h ?_; clear h; intro t22 w h
    refine mv (.float .f64 t19) rfl <| st_val (ex_build (a' := [(0, (.string t22)), (1, (.float .f64 t19))]) (v := TShare.v (⟨t22, t19⟩ : TShare)) rfl (e_build Try.underlying32 zero32 rfl pl32 rfl _)) ?_
    refine st_new (f := (fun b => Sl.v ⟨some ⟨b, 0, none⟩, 1, 1⟩)) (ex_buildSlice (a' := [(0, (TShare.v (⟨t22, t19⟩ : TShare)))]) rfl (e_buildSlice (cs := ((TShare.cells (⟨t22, t19⟩ : TShare)))) Try.underlying23 info32 iz32 (by decide +kernel) (by decide +kernel) (by kernel_rfl) _)) h ?_; clear h; intro b25 w h
    refine st_rn (fun r => ex_builtin rfl (fun _ => rfl) r) h ?_; clear h; intro t26 w h
    refine asg (Sl.v t26) rfl <| wl_nil <| inb_n ?_
    exact then_n ⟨(t26, t19), _, rfl, mk_upds' (ae rfl (ae rfl (ae rfl (ae rfl (ae rfl ae0))))), h⟩
   ·rw [if_neg hc4] at h; refine cond_0 (b := (fGt t14 0)) rfl (Bool.eq_false_iff.2 hc4) ?_
    refine wp_skip <| inb_n ?_
    exact then_n ⟨(s1.1, s1.2.1), _, rfl, mk_upds' (ae rfl (ae rfl (ae rfl (ae rfl (ae rfl ae0))))), h⟩
 ·rw [if_neg hc2] at h; refine cond_0 (b := (decide (s1.2.2 < (t0.n : Int)))) rfl (decide_eq_false hc2) ?_
  refine wp_exit <| then_e <| then_e <| inb_e <| then_n ?_
  refine wp_jn (σ := Unit) (fun s5 l => ∃ j, l = upds j [(3, (Sl.v s1.1))]) h ?_ ?_
  ·clear h; rintro s5 _ w ⟨j, rfl⟩ h
   refine seq_ <| region_ <| mv (Sl.v s1.1) rfl <| asg (Sl.v s1.1) rfl <| wl_nil <| then_n <| wp_ret ?_
   refine ret_1 rfl rfl ⟨s1.1, rfl, h⟩
  ·clear h; intro k5 h
   refine seq_ <| region_ <| mv (Sl.v s1.1) rfl <| st_val (ex_len (s := s1.1) Try.underlying23 rfl) <| st_val (ex_gtr (a := (s1.1.n : Int)) (b := 0) rfl rfl) <| wl_nil <| then_n ?_
   by_cases hc6 : 0 < (s1.1.n : Int)
   ·rw [if_pos hc6] at h; refine cond_1 (b := (decide (0 < (s1.1.n : Int)))) rfl (decide_eq_true hc6) ?_
    refine region_ <| mv (Sl.v s1.1) rfl <| mv (Sl.v s1.1) rfl <| st_val (ex_len (s := s1.1) Try.underlying23 rfl) <| st_val (ex_sub (a := (s1.1.n : Int)) (b := 1) rfl rfl) ?_
    refine st_rnp (fun r => ex_indexAddr rfl rfl r) h ?_; clear h; intro t35 h
    refine st_val (ex_fa fa32_1 (p := t35) rfl) ?_
    refine st_rnu (fun r => ex_store rfl rfl r) h ?_; clear h; intro w h
    refine wl_nil ?_
    exact then_n ⟨(), _, rfl, mk_upds' (ae rfl ae0), h⟩
   ·rw [if_neg hc6] at h; refine cond_0 (b := (decide (0 < (s1.1.n : Int)))) rfl (decide_eq_false hc6) ?_
    refine wp_skip ?_
    exact then_n ⟨(), _, rfl, mk_upds' (ae rfl ae0), h⟩

def f20 (t0 : Sl) (t1 : Sl) (R : (Bool) → World → Prop) (w : World) : Prop :=
 if (t0.n : Int) ≠ (t1.n : Int) then
  R false w
 else
  Lp (σ := Int) (fun s2 w n2 =>
   if s2 < (t0.n : Int) then
    Jn (σ := Bool) (fun k4 =>
     Dr w fun w5 w =>
      RnP Try.prog Ptr (Instr.indexAt 23 (Sl.v t0) (.int .i64 s2)) fun t19 =>
      RnL Try.prog Value.string (Instr.loadAt 9 (Ptr (t19.add 0))) w5 fun t21 =>
      RnP Try.prog Ptr (Instr.indexAt 23 (Sl.v t1) (.int .i64 s2)) fun t24 =>
      RnL Try.prog Value.string (Instr.loadAt 9 (Ptr (t24.add 0))) w5 fun t26 =>
      if t21 ≠ t26 then
       k4 true w
      else
       RnP Try.prog Ptr (Instr.indexAt 23 (Sl.v t0) (.int .i64 s2)) fun t31 =>
       RnL Try.prog (Value.float .f64) (Instr.loadAt 30 (Ptr (t31.add 1))) w5 fun t33 =>
       RnP Try.prog Ptr (Instr.indexAt 23 (Sl.v t1) (.int .i64 s2)) fun t36 =>
       RnL Try.prog (Value.float .f64) (Instr.loadAt 30 (Ptr (t36.add 1))) w5 fun t38 =>
       Cal Try.prog Value.bool 61 #[(.float .f64 t33), (.float .f64 t38)] w fun t39 w =>
       k4 (!t39) w
    ) fun s4 w =>
     if s4 = true then
      R false w
     else
      n2 (IntKind.i64.wrap (s2 + 1)) w
   else
    R true w
  ) 0 w
def f21 (t0 : Sl) (t1 : Sl) (R : (Bool) → World → Prop) (w : World) : Prop :=
 Jn (σ := Bool) (fun k1 =>
  if (t0.n : Int) ≠ (t1.n : Int) then
   k1 true w
  else
   RnP Try.prog Sl.v (Instr.sliceAt 22 (Sl.v t0) none (some (.int .i64 (IntKind.i64.wrap ((t1.n : Int) + 1)))) none) fun t17 =>
   RnP Try.prog Ptr (Instr.indexAt 22 (Sl.v t17) (.int .i64 (t1.n : Int))) fun t20 =>
   Rn Try.prog (Value.int .i64) (Instr.loadAt 3 (Ptr (t20.add 0))) w fun t22 w =>
   k1 (decide (t22 ≠ (-77))) w
 ) fun s1 w =>
  if s1 = true then
   R false w
  else
   Lp (σ := Int) (fun s4 w n4 =>
    if s4 < (t1.n : Int) then
     Dr w fun w6 w =>
      RnP Try.prog Ptr (Instr.indexAt 22 (Sl.v t0) (.int .i64 s4)) fun t33 =>
      RnL Try.prog TResource.v (Instr.loadAt 48 (Ptr t33)) w6 fun t34 =>
      RnP Try.prog Ptr (Instr.indexAt 22 (Sl.v t1) (.int .i64 s4)) fun t37 =>
      RnL Try.prog TResource.v (Instr.loadAt 48 (Ptr t37)) w6 fun t38 =>
      Cal Try.prog Value.bool 62 #[(TResource.v t34), (TResource.v t38)] w fun t39 w =>
      if (!t39) = true then
       R false w
      else
       n4 (IntKind.i64.wrap (s4 + 1)) w
    else
     R true w
   ) 0 w
def f22 (t0 : Sl) (R : (Sl) → World → Prop) (w : World) : Prop :=
 Lp (σ := Int × Int) (fun s1 w n1 =>
  if s1.2 < (t0.n : Int) then
   Jn (σ := Int) (fun k3 =>
    RnP Try.prog Ptr (Instr.indexAt 23 (Sl.v t0) (.int .i64 s1.2)) fun t17 =>
    Rn Try.prog (Value.float .f64) (Instr.loadAt 30 (Ptr (t17.add 1))) w fun t19 w =>
    if (fGt t19 0) = true then
     k3 s1.2 w
    else
     k3 s1.1 w
   ) fun s3 w =>
    n1 (s3, (IntKind.i64.wrap (s1.2 + 1))) w
  else
   Lp (σ := Sl × Nat × Int) (fun s5 w n5 =>
    if s5.2.2 < (t0.n : Int) then
     Jn (σ := Sl × Nat) (fun k7 =>
      RnP Try.prog Ptr (Instr.indexAt 23 (Sl.v t0) (.int .i64 s5.2.2)) fun t30 =>
      Rn Try.prog (Value.float .f64) (Instr.loadAt 30 (Ptr (t30.add 1))) w fun t32 w =>
      if (!(fGt t32 0)) = true then
       k7 (s5.1, s5.2.1) w
      else
       RnP Try.prog Ptr (Instr.indexAt 23 (Sl.v t0) (.int .i64 s5.2.2)) fun t38 =>
       Rn Try.prog (Value.float .f64) (Instr.loadAt 30 (Ptr (t38.add 1))) w fun t40 w =>
       Rn Try.prog (Value.float .f64) (Op.floatArith .add .f64 s5.2.1 t40) w fun t41 w =>
       RnP Try.prog Ptr (Instr.indexAt 23 (Sl.v t0) (.int .i64 s5.2.2)) fun t44 =>
       Rn Try.prog Value.string (Instr.loadAt 9 (Ptr (t44.add 0))) w fun t46 w =>
       New 32 (TShare.cells (⟨⟨#[]⟩, 0⟩ : TShare)) w fun b8 w =>
       RnU Try.prog (Instr.storeAt 32 (Ptr (⟨b8, 0, none⟩ : Addr)) (TShare.v (⟨t46, t41⟩ : TShare))) w fun w =>
       Jn (σ := Unit) (fun k9 =>
        if s5.2.2 = s1.1 then
         RnU Try.prog (Instr.storeAt 30 (Ptr ((⟨b8, 0, none⟩ : Addr).add 1)) (.float .f64 4607182418800017408)) w fun w =>
         k9 () w
        else
         k9 () w
       ) fun s9 w =>
        Rn Try.prog TShare.v (Instr.loadAt 32 (Ptr (⟨b8, 0, none⟩ : Addr))) w fun t54 w =>
        New 32 ((TShare.cells t54)) w fun b55 w =>
        Rn Try.prog Sl.v (Builtin.append_ #[23, 23] 23 #[(Sl.v s5.1), (Sl.v (⟨some ⟨b55, 0, none⟩, 1, 1⟩ : Sl))]) w fun t56 w =>
        k7 (t56, t41) w
     ) fun s7 w =>
      n5 (s7.1, s7.2, (IntKind.i64.wrap (s5.2.2 + 1))) w
    else
     R s5.1 w
   ) (Sl.nil, 0, 0) w
 ) ((-1), 0) w
end Go.Proofs.Ytdoeegfcmbcbkaa.Tr


namespace Go.Proofs.Ytdoeegfcmbcbkaa.Tr
open Go Go.Eng
set_option linter.unusedVariables false
set_option maxRecDepth 100000
set_option maxHeartbeats 4000000
def f32  (R : (Bool) → World → Prop) (w : World) : Prop :=
 New 84 ((TTarget.cells (⟨(⟨#[97]⟩ : ByteArray), ⟨#[]⟩, 4632233691727265792⟩ : TTarget)) ++ (TTarget.cells (⟨⟨#[]⟩, (⟨#[116]⟩ : ByteArray), 4632233691727265792⟩ : TTarget))) w fun b13 w =>
 New 84 ((TTarget.cells (⟨(⟨#[97]⟩ : ByteArray), ⟨#[]⟩, 4627730092099895296⟩ : TTarget)) ++ (TTarget.cells (⟨(⟨#[98]⟩ : ByteArray), ⟨#[]⟩, 4634978072750194688⟩ : TTarget))) w fun b17 w =>
 New 91 ((TRule.cells (⟨(⟨#[47, 112, 42]⟩ : ByteArray), (⟨#[71, 69, 84]⟩ : ByteArray), (⟨#[115]⟩ : ByteArray), false⟩ : TRule))) w fun b20 w =>
 New 91 ((TRule.cells (⟨(⟨#[47, 112, 47, 120]⟩ : ByteArray), (⟨#[42]⟩ : ByteArray), ⟨#[]⟩, false⟩ : TRule))) w fun b23 w =>
 New 48 ((TResource.cells (⟨1, (⟨#[97]⟩ : ByteArray), Sl.nil, Sl.nil, ⟨#[]⟩, Sl.nil, ⟨#[]⟩, false⟩ : TResource)) ++ (TResource.cells (⟨1, (⟨#[98]⟩ : ByteArray), Sl.nil, Sl.nil, ⟨#[]⟩, Sl.nil, ⟨#[]⟩, false⟩ : TResource)) ++ (TResource.cells (⟨2, (⟨#[115]⟩ : ByteArray), Sl.nil, (⟨some ⟨b13, 0, none⟩, 2, 2⟩ : Sl), ⟨#[]⟩, Sl.nil, ⟨#[]⟩, false⟩ : TResource)) ++ (TResource.cells (⟨2, (⟨#[116]⟩ : ByteArray), Sl.nil, (⟨some ⟨b17, 0, none⟩, 2, 2⟩ : Sl), ⟨#[]⟩, Sl.nil, ⟨#[]⟩, false⟩ : TResource)) ++ (TResource.cells (⟨3, (⟨#[114]⟩ : ByteArray), Sl.nil, Sl.nil, (⟨#[42, 46, 120]⟩ : ByteArray), (⟨some ⟨b20, 0, none⟩, 1, 1⟩ : Sl), ⟨#[]⟩, false⟩ : TResource)) ++ (TResource.cells (⟨4, (⟨#[112]⟩ : ByteArray), Sl.nil, Sl.nil, ⟨#[]⟩, (⟨some ⟨b23, 0, none⟩, 1, 1⟩ : Sl), (⟨#[114]⟩ : ByteArray), false⟩ : TResource))) w fun b25 w =>
 Cal Try.prog (fun x : TTables × Int => Value.tuple #[(TTables.v x.1), (.int .i64 x.2)]) 34 #[(.int .i64 3), (Sl.v (⟨some ⟨b25, 0, none⟩, 6, 6⟩ : Sl))] w fun t28 w =>
 New 53 (TTables.cells (⟨0, Sl.nil, Sl.nil⟩ : TTables)) w fun b2 w =>
 RnU Try.prog (Instr.storeAt 53 (Ptr (⟨b2, 0, none⟩ : Addr)) (TTables.v t28.1)) w fun w =>
 Cal Try.prog (fun x : TTables × Int => Value.tuple #[(TTables.v x.1), (.int .i64 x.2)]) 34 #[(.int .i64 0), (Sl.v (⟨some ⟨b25, 0, none⟩, 6, 6⟩ : Sl))] w fun t33 w =>
 New 53 (TTables.cells (⟨0, Sl.nil, Sl.nil⟩ : TTables)) w fun b4 w =>
 RnU Try.prog (Instr.storeAt 53 (Ptr (⟨b4, 0, none⟩ : Addr)) (TTables.v t33.1)) w fun w =>
 Rn Try.prog TTables.v (Instr.loadAt 53 (Ptr (⟨b2, 0, none⟩ : Addr))) w fun t37 w =>
 Cal Try.prog (fun x : Int × Bool => Value.tuple #[(.int .i64 x.1), (.bool x.2)]) 41 #[(TTables.v t37), (.string (⟨#[89, 46, 88]⟩ : ByteArray))] w fun t38 w =>
 Jn (σ := Bool) (fun k1 =>
  if t28.2 ≠ 0 then
   k1 true w
  else
   if t33.2 ≠ 2 then
    k1 true w
   else
    if (!t38.2) = true then
     k1 true w
    else
     if t38.1 ≠ 0 then
      k1 true w
     else
      Rn Try.prog (Value.int .i64) (Instr.loadAt 3 (Ptr ((⟨b2, 0, none⟩ : Addr).add 0))) w fun t57 w =>
      if t57 ≠ 3 then
       k1 true w
      else
       Rn Try.prog Sl.v (Instr.loadAt 51 (Ptr ((⟨b2, 0, none⟩ : Addr).add 1))) w fun t62 w =>
       if (t62.n : Int) ≠ 1 then
        k1 true w
       else
        Rn Try.prog Sl.v (Instr.loadAt 51 (Ptr ((⟨b2, 0, none⟩ : Addr).add 1))) w fun t68 w =>
        RnP Try.prog Ptr (Instr.indexAt 51 (Sl.v t68) (.int .i64 0)) fun t69 =>
        Rn Try.prog Sl.v (Instr.loadAt 56 (Ptr (t69.add 2))) w fun t71 w =>
        if (t71.n : Int) ≠ 1 then
         k1 true w
        else
         Rn Try.prog Sl.v (Instr.loadAt 51 (Ptr ((⟨b2, 0, none⟩ : Addr).add 1))) w fun t77 w =>
         RnP Try.prog Ptr (Instr.indexAt 51 (Sl.v t77) (.int .i64 0)) fun t78 =>
         Rn Try.prog Sl.v (Instr.loadAt 57 (Ptr (t78.add 3))) w fun t80 w =>
         if (t80.n : Int) ≠ 1 then
          k1 true w
         else
          Rn Try.prog Sl.v (Instr.loadAt 44 (Ptr ((⟨b2, 0, none⟩ : Addr).add 2))) w fun t86 w =>
          k1 (decide ((t86.n : Int) ≠ 2)) w
 ) fun s1 w =>
  if s1 = true then
   R false w
  else
   Rn Try.prog Sl.v (Instr.loadAt 51 (Ptr ((⟨b2, 0, none⟩ : Addr).add 1))) w fun t91 w =>
   RnP Try.prog Ptr (Instr.indexAt 51 (Sl.v t91) (.int .i64 0)) fun t92 =>
   Rn Try.prog Sl.v (Instr.loadAt 56 (Ptr (t92.add 2))) w fun t94 w =>
   RnP Try.prog Ptr (Instr.indexAt 56 (Sl.v t94) (.int .i64 0)) fun t95 =>
   Rn Try.prog Sl.v (Instr.loadAt 23 (Ptr (t95.add 2))) w fun t97 w =>
   Jn (σ := Bool) (fun k11 =>
    if (t97.n : Int) = 2 then
     RnP Try.prog Ptr (Instr.indexAt 23 (Sl.v t97) (.int .i64 0)) fun t103 =>
     Rn Try.prog TShare.v (Instr.loadAt 32 (Ptr t103)) w fun t104 w =>
     RnP Try.prog Value.bool (do pure (Value.bool (← Op.equal 32 (TShare.v t104) (TShare.v (⟨(⟨#[97]⟩ : ByteArray), 4603804719079489536⟩ : TShare))))) fun t106 =>
     if t106 = true then
      RnP Try.prog Ptr (Instr.indexAt 23 (Sl.v t97) (.int .i64 1)) fun t110 =>
      Rn Try.prog TShare.v (Instr.loadAt 32 (Ptr t110)) w fun t111 w =>
      RnP Try.prog Value.bool (do pure (Value.bool (← Op.equal 32 (TShare.v t111) (TShare.v (⟨(⟨#[98]⟩ : ByteArray), 4607182418800017408⟩ : TShare))))) fun t113 =>
      k11 t113 w
     else
      k11 false w
    else
     k11 false w
   ) fun s11 w =>
    R s11 w
theorem c32  {R : (Bool) → World → Prop} {w : World} (h : f32  R w) :
  Cal Try.prog Value.bool 32 #[] w R := by
 unfold f32 at h
 refine calls_ Try.func32 Try.ntmps32 rfl rfl <| seq_ <| region_ <| asg (.bool false) rfl <| wl_nil <| then_n <| seq_ <| region_ <| st_val (ex_build (a' := [(0, (.int .i64 1)), (1, (.string (⟨#[97]⟩ : ByteArray)))]) (v := TResource.v (⟨1, (⟨#[97]⟩ : ByteArray), Sl.nil, Sl.nil, ⟨#[]⟩, Sl.nil, ⟨#[]⟩, false⟩ : TResource)) rfl (e_build Try.underlying48 zero48 rfl pl48 rfl _)) <| st_val (ex_build (a' := [(0, (.int .i64 1)), (1, (.string (⟨#[98]⟩ : ByteArray)))]) (v := TResource.v (⟨1, (⟨#[98]⟩ : ByteArray), Sl.nil, Sl.nil, ⟨#[]⟩, Sl.nil, ⟨#[]⟩, false⟩ : TResource)) rfl (e_build Try.underlying48 zero48 rfl pl48 rfl _)) ?_
 refine st_val (ex_build (a' := [(0, (.string (⟨#[97]⟩ : ByteArray))), (2, (.float .f64 4632233691727265792))]) (v := TTarget.v (⟨(⟨#[97]⟩ : ByteArray), ⟨#[]⟩, 4632233691727265792⟩ : TTarget)) rfl (e_build Try.underlying84 zero84 rfl pl84 rfl _)) <| st_val (ex_build (a' := [(1, (.string (⟨#[116]⟩ : ByteArray))), (2, (.float .f64 4632233691727265792))]) (v := TTarget.v (⟨⟨#[]⟩, (⟨#[116]⟩ : ByteArray), 4632233691727265792⟩ : TTarget)) rfl (e_build Try.underlying84 zero84 rfl pl84 rfl _)) ?_
 refine st_new (f := (fun b => Sl.v ⟨some ⟨b, 0, none⟩, 2, 2⟩)) (ex_buildSlice (a' := [(0, (TTarget.v (⟨(⟨#[97]⟩ : ByteArray), ⟨#[]⟩, 4632233691727265792⟩ : TTarget))), (1, (TTarget.v (⟨⟨#[]⟩, (⟨#[116]⟩ : ByteArray), 4632233691727265792⟩ : TTarget)))]) rfl (e_buildSlice (cs := ((TTarget.cells (⟨(⟨#[97]⟩ : ByteArray), ⟨#[]⟩, 4632233691727265792⟩ : TTarget)) ++ (TTarget.cells (⟨⟨#[]⟩, (⟨#[116]⟩ : ByteArray), 4632233691727265792⟩ : TTarget)))) Try.underlying45 info84 iz84 (by decide +kernel) (by decide +kernel) (by kernel_rfl) _)) h ?_; clear h; intro b13 w h
 refine st_val (ex_build (a' := [(0, (.int .i64 2)), (1, (.string (⟨#[115]⟩ : ByteArray))), (3, (Sl.v (⟨some ⟨b13, 0, none⟩, 2, 2⟩ : Sl)))]) (v := TResource.v (⟨2, (⟨#[115]⟩ : ByteArray), Sl.nil, (⟨some ⟨b13, 0, none⟩, 2, 2⟩ : Sl), ⟨#[]⟩, Sl.nil, ⟨#[]⟩, false⟩ : TResource)) rfl (e_build Try.underlying48 zero48 rfl pl48 rfl _)) <| st_val (ex_build (a' := [(0, (.string (⟨#[97]⟩ : ByteArray))), (2, (.float .f64 4627730092099895296))]) (v := TTarget.v (⟨(⟨#[97]⟩ : ByteArray), ⟨#[]⟩, 4627730092099895296⟩ : TTarget)) rfl (e_build Try.underlying84 zero84 rfl pl84 rfl _)) <| st_val (ex_build (a' := [(0, (.string (⟨#[98]⟩ : ByteArray))), (2, (.float .f64 4634978072750194688))]) (v := TTarget.v (⟨(⟨#[98]⟩ : ByteArray), ⟨#[]⟩, 4634978072750194688⟩ : TTarget)) rfl (e_build Try.underlying84 zero84 rfl pl84 rfl _)) ?_
 refine st_new (f := (fun b => Sl.v ⟨some ⟨b, 0, none⟩, 2, 2⟩)) (ex_buildSlice (a' := [(0, (TTarget.v (⟨(⟨#[97]⟩ : ByteArray), ⟨#[]⟩, 4627730092099895296⟩ : TTarget))), (1, (TTarget.v (⟨(⟨#[98]⟩ : ByteArray), ⟨#[]⟩, 4634978072750194688⟩ : TTarget)))]) rfl (e_buildSlice (cs := ((TTarget.cells (⟨(⟨#[97]⟩ : ByteArray), ⟨#[]⟩, 4627730092099895296⟩ : TTarget)) ++ (TTarget.cells (⟨(⟨#[98]⟩ : ByteArray), ⟨#[]⟩, 4634978072750194688⟩ : TTarget)))) Try.underlying45 info84 iz84 (by decide +kernel) (by decide +kernel) (by kernel_rfl) _)) h ?_; clear h; intro b17 w h
 refine st_val (ex_build (a' := [(0, (.int .i64 2)), (1, (.string (⟨#[116]⟩ : ByteArray))), (3, (Sl.v (⟨some ⟨b17, 0, none⟩, 2, 2⟩ : Sl)))]) (v := TResource.v (⟨2, (⟨#[116]⟩ : ByteArray), Sl.nil, (⟨some ⟨b17, 0, none⟩, 2, 2⟩ : Sl), ⟨#[]⟩, Sl.nil, ⟨#[]⟩, false⟩ : TResource)) rfl (e_build Try.underlying48 zero48 rfl pl48 rfl _)) <| st_val (ex_build (a' := [(0, (.string (⟨#[47, 112, 42]⟩ : ByteArray))), (1, (.string (⟨#[71, 69, 84]⟩ : ByteArray))), (2, (.string (⟨#[115]⟩ : ByteArray)))]) (v := TRule.v (⟨(⟨#[47, 112, 42]⟩ : ByteArray), (⟨#[71, 69, 84]⟩ : ByteArray), (⟨#[115]⟩ : ByteArray), false⟩ : TRule)) rfl (e_build Try.underlying91 zero91 rfl pl91 rfl _)) ?_
 refine st_new (f := (fun b => Sl.v ⟨some ⟨b, 0, none⟩, 1, 1⟩)) (ex_buildSlice (a' := [(0, (TRule.v (⟨(⟨#[47, 112, 42]⟩ : ByteArray), (⟨#[71, 69, 84]⟩ : ByteArray), (⟨#[115]⟩ : ByteArray), false⟩ : TRule)))]) rfl (e_buildSlice (cs := ((TRule.cells (⟨(⟨#[47, 112, 42]⟩ : ByteArray), (⟨#[71, 69, 84]⟩ : ByteArray), (⟨#[115]⟩ : ByteArray), false⟩ : TRule)))) Try.underlying46 info91 iz91 (by decide +kernel) (by decide +kernel) (by kernel_rfl) _)) h ?_; clear h; intro b20 w h
 refine st_val (ex_build (a' := [(0, (.int .i64 3)), (1, (.string (⟨#[114]⟩ : ByteArray))), (4, (.string (⟨#[42, 46, 120]⟩ : ByteArray))), (5, (Sl.v (⟨some ⟨b20, 0, none⟩, 1, 1⟩ : Sl)))]) (v := TResource.v (⟨3, (⟨#[114]⟩ : ByteArray), Sl.nil, Sl.nil, (⟨#[42, 46, 120]⟩ : ByteArray), (⟨some ⟨b20, 0, none⟩, 1, 1⟩ : Sl), ⟨#[]⟩, false⟩ : TResource)) rfl (e_build Try.underlying48 zero48 rfl pl48 rfl _)) <| st_val (ex_build (a' := [(0, (.string (⟨#[47, 112, 47, 120]⟩ : ByteArray))), (1, (.string (⟨#[42]⟩ : ByteArray)))]) (v := TRule.v (⟨(⟨#[47, 112, 47, 120]⟩ : ByteArray), (⟨#[42]⟩ : ByteArray), ⟨#[]⟩, false⟩ : TRule)) rfl (e_build Try.underlying91 zero91 rfl pl91 rfl _)) ?_
 refine st_new (f := (fun b => Sl.v ⟨some ⟨b, 0, none⟩, 1, 1⟩)) (ex_buildSlice (a' := [(0, (TRule.v (⟨(⟨#[47, 112, 47, 120]⟩ : ByteArray), (⟨#[42]⟩ : ByteArray), ⟨#[]⟩, false⟩ : TRule)))]) rfl (e_buildSlice (cs := ((TRule.cells (⟨(⟨#[47, 112, 47, 120]⟩ : ByteArray), (⟨#[42]⟩ : ByteArray), ⟨#[]⟩, false⟩ : TRule)))) Try.underlying46 info91 iz91 (by decide +kernel) (by decide +kernel) (by kernel_rfl) _)) h ?_; clear h; intro b23 w h
 refine st_val (ex_build (a' := [(0, (.int .i64 4)), (1, (.string (⟨#[112]⟩ : ByteArray))), (6, (.string (⟨#[114]⟩ : ByteArray))), (5, (Sl.v (⟨some ⟨b23, 0, none⟩, 1, 1⟩ : Sl)))]) (v := TResource.v (⟨4, (⟨#[112]⟩ : ByteArray), Sl.nil, Sl.nil, ⟨#[]⟩, (⟨some ⟨b23, 0, none⟩, 1, 1⟩ : Sl), (⟨#[114]⟩ : ByteArray), false⟩ : TResource)) rfl (e_build Try.underlying48 zero48 rfl pl48 rfl _)) ?_
 refine st_new (f := (fun b => Sl.v ⟨some ⟨b, 0, none⟩, 6, 6⟩)) (ex_buildSlice (a' := [(0, (TResource.v (⟨1, (⟨#[97]⟩ : ByteArray), Sl.nil, Sl.nil, ⟨#[]⟩, Sl.nil, ⟨#[]⟩, false⟩ : TResource))), (1, (TResource.v (⟨1, (⟨#[98]⟩ : ByteArray), Sl.nil, Sl.nil, ⟨#[]⟩, Sl.nil, ⟨#[]⟩, false⟩ : TResource))), (2, (TResource.v (⟨2, (⟨#[115]⟩ : ByteArray), Sl.nil, (⟨some ⟨b13, 0, none⟩, 2, 2⟩ : Sl), ⟨#[]⟩, Sl.nil, ⟨#[]⟩, false⟩ : TResource))), (3, (TResource.v (⟨2, (⟨#[116]⟩ : ByteArray), Sl.nil, (⟨some ⟨b17, 0, none⟩, 2, 2⟩ : Sl), ⟨#[]⟩, Sl.nil, ⟨#[]⟩, false⟩ : TResource))), (4, (TResource.v (⟨3, (⟨#[114]⟩ : ByteArray), Sl.nil, Sl.nil, (⟨#[42, 46, 120]⟩ : ByteArray), (⟨some ⟨b20, 0, none⟩, 1, 1⟩ : Sl), ⟨#[]⟩, false⟩ : TResource))), (5, (TResource.v (⟨4, (⟨#[112]⟩ : ByteArray), Sl.nil, Sl.nil, ⟨#[]⟩, (⟨some ⟨b23, 0, none⟩, 1, 1⟩ : Sl), (⟨#[114]⟩ : ByteArray), false⟩ : TResource)))]) rfl (e_buildSlice (cs := ((TResource.cells (⟨1, (⟨#[97]⟩ : ByteArray), Sl.nil, Sl.nil, ⟨#[]⟩, Sl.nil, ⟨#[]⟩, false⟩ : TResource)) ++ (TResource.cells (⟨1, (⟨#[98]⟩ : ByteArray), Sl.nil, Sl.nil, ⟨#[]⟩, Sl.nil, ⟨#[]⟩, false⟩ : TResource)) ++ (TResource.cells (⟨2, (⟨#[115]⟩ : ByteArray), Sl.nil, (⟨some ⟨b13, 0, none⟩, 2, 2⟩ : Sl), ⟨#[]⟩, Sl.nil, ⟨#[]⟩, false⟩ : TResource)) ++ (TResource.cells (⟨2, (⟨#[116]⟩ : ByteArray), Sl.nil, (⟨some ⟨b17, 0, none⟩, 2, 2⟩ : Sl), ⟨#[]⟩, Sl.nil, ⟨#[]⟩, false⟩ : TResource)) ++ (TResource.cells (⟨3, (⟨#[114]⟩ : ByteArray), Sl.nil, Sl.nil, (⟨#[42, 46, 120]⟩ : ByteArray), (⟨some ⟨b20, 0, none⟩, 1, 1⟩ : Sl), ⟨#[]⟩, false⟩ : TResource)) ++ (TResource.cells (⟨4, (⟨#[112]⟩ : ByteArray), Sl.nil, Sl.nil, ⟨#[]⟩, (⟨some ⟨b23, 0, none⟩, 1, 1⟩ : Sl), (⟨#[114]⟩ : ByteArray), false⟩ : TResource)))) Try.underlying22 info48 iz48 (by decide +kernel) (by decide +kernel) (by kernel_rfl) _)) h ?_; clear h; intro b25 w h
 refine asg (Sl.v (⟨some ⟨b25, 0, none⟩, 6, 6⟩ : Sl)) rfl <| wl_nil <| then_n <| seq_ <| region_ <| mv (Sl.v (⟨some ⟨b25, 0, none⟩, 6, 6⟩ : Sl)) rfl ?_
 refine st_cal en34 rfl h ?_; clear h; intro t28 w h
 refine mv (.tuple #[(TTables.v t28.1), (.int .i64 t28.2)]) rfl <| st_val (ex_extract (u := (.tuple #[(TTables.v t28.1), (.int .i64 t28.2)])) rfl (v := (TTables.v t28.1)) rfl) <| st_val (ex_extract (u := (.tuple #[(TTables.v t28.1), (.int .i64 t28.2)])) rfl (v := (.int .i64 t28.2)) rfl) ?_
 refine st_new (f := (fun b => Ptr ⟨b, 0, none⟩)) (ex_allocN zero53 rfl) h ?_; clear h; intro b2 w h
 refine st_rnu (fun r => ex_store rfl rfl r) h ?_; clear h; intro w h
 refine asg (.int .i64 t28.2) rfl <| wl_nil <| then_n <| seq_ <| region_ <| mv (Sl.v (⟨some ⟨b25, 0, none⟩, 6, 6⟩ : Sl)) rfl ?_
 refine st_cal en34 rfl h ?_; clear h; intro t33 w h
 refine mv (.tuple #[(TTables.v t33.1), (.int .i64 t33.2)]) rfl <| st_val (ex_extract (u := (.tuple #[(TTables.v t33.1), (.int .i64 t33.2)])) rfl (v := (TTables.v t33.1)) rfl) <| st_val (ex_extract (u := (.tuple #[(TTables.v t33.1), (.int .i64 t33.2)])) rfl (v := (.int .i64 t33.2)) rfl) ?_
 refine st_new (f := (fun b => Ptr ⟨b, 0, none⟩)) (ex_allocN zero53 rfl) h ?_; clear h; intro b4 w h
 refine st_rnu (fun r => ex_store rfl rfl r) h ?_; clear h; intro w h
 refine asg (.int .i64 t33.2) rfl <| wl_nil <| then_n <| seq_ <| region_ ?_
 refine st_rn (fun r => ex_load rfl r) h ?_; clear h; intro t37 w h
 refine st_cal en41 rfl h ?_; clear h; intro t38 w h
 refine mv (.tuple #[(.int .i64 t38.1), (.bool t38.2)]) rfl <| st_val (ex_extract (u := (.tuple #[(.int .i64 t38.1), (.bool t38.2)])) rfl (v := (.int .i64 t38.1)) rfl) <| st_val (ex_extract (u := (.tuple #[(.int .i64 t38.1), (.bool t38.2)])) rfl (v := (.bool t38.2)) rfl) <| asg (.int .i64 t38.1) rfl <| asg (.bool t38.2) rfl <| wl_nil <| then_n <| seq_ ?_
 refine wp_jn (σ := Bool) (fun s1 l => ∃ j, l = upds j [(2, (Ptr (⟨b2, 0, none⟩ : Addr))), (89, (.bool s1))]) h ?_ ?_
 ·clear h; rintro s1 _ w ⟨j, rfl⟩ h
  by_cases hc10 : s1 = true
  ·rw [if_pos hc10] at h; refine cond_1 (b := s1) rfl hc10 ?_
   refine seq_ <| region_ <| asg (.bool false) rfl <| wl_nil <| then_n <| wp_ret <| then_r ?_
   refine ret_1 rfl rfl ⟨false, rfl, h⟩
  ·rw [if_neg hc10] at h; refine cond_0 (b := s1) rfl (Bool.eq_false_iff.2 hc10) ?_
   refine wp_skip <| then_n <| seq_ <| region_ <| st_val (ex_fa fa53_1 (p := (⟨b2, 0, none⟩ : Addr)) rfl) ?_
   refine st_rn (fun r => ex_load rfl r) h ?_; clear h; intro t91 w h
   refine st_rnp (fun r => ex_indexAddr rfl rfl r) h ?_; clear h; intro t92 h
   refine st_val (ex_fa fa59_2 (p := t92) rfl) ?_
   refine st_rn (fun r => ex_load rfl r) h ?_; clear h; intro t94 w h
   refine st_rnp (fun r => ex_indexAddr rfl rfl r) h ?_; clear h; intro t95 h
   refine st_val (ex_fa fa61_2 (p := t95) rfl) ?_
   refine st_rn (fun r => ex_load rfl r) h ?_; clear h; intro t97 w h
   refine asg (Sl.v t97) rfl <| wl_nil <| then_n ?_
   refine wp_jn (σ := Bool) (fun s11 l => ∃ j, l = upds j [(0, (.bool s11))]) h ?_ ?_
   ·clear h; rintro s11 _ w ⟨j, rfl⟩ h
    refine wp_ret ?_
    refine ret_1 rfl rfl ⟨s11, rfl, h⟩
   ·clear h; intro k11 h
    refine region_ <| mv (Sl.v t97) rfl <| st_val (ex_len (s := t97) Try.underlying23 rfl) <| st_val (ex_eql (a := (t97.n : Int)) (b := 2) rfl rfl) <| mv (.bool (decide ((t97.n : Int) = 2))) rfl ?_
    by_cases hc12 : (t97.n : Int) = 2
    ·rw [if_pos hc12] at h
     refine sOn 101 (decide_eq_true hc12) rfl rfl <| mv (Sl.v t97) rfl <| sOn 101 (decide_eq_true hc12) rfl rfl ?_
     refine st_rnp (fun r => ex_indexAddr rfl rfl r) h ?_; clear h; intro t103 h
     refine sOn 101 (decide_eq_true hc12) rfl rfl ?_
     refine st_rn (fun r => ex_load rfl r) h ?_; clear h; intro t104 w h
     refine sOn 101 (decide_eq_true hc12) rfl rfl <| st_val (ex_build (a' := [(0, (.string (⟨#[97]⟩ : ByteArray))), (1, (.float .f64 4603804719079489536))]) (v := TShare.v (⟨(⟨#[97]⟩ : ByteArray), 4603804719079489536⟩ : TShare)) rfl (e_build Try.underlying32 zero32 rfl pl32 rfl _)) <| sOn 101 (decide_eq_true hc12) rfl rfl ?_
     refine st_rnp (fun r => ex_eqlA eqg32 rfl rfl r) h ?_; clear h; intro t106 h
     refine st_val (ex_pick1 (b := (decide ((t97.n : Int) = 2))) rfl (decide_eq_true hc12) (v := (.bool t106)) rfl) <| mv (.bool t106) rfl ?_
     by_cases hc13 : t106 = true
     ·rw [if_pos hc13] at h
      refine sOn 108 hc13 rfl rfl <| mv (Sl.v t97) rfl <| sOn 108 hc13 rfl rfl ?_
      refine st_rnp (fun r => ex_indexAddr rfl rfl r) h ?_; clear h; intro t110 h
      refine sOn 108 hc13 rfl rfl ?_
      refine st_rn (fun r => ex_load rfl r) h ?_; clear h; intro t111 w h
      refine sOn 108 hc13 rfl rfl <| st_val (ex_build (a' := [(0, (.string (⟨#[98]⟩ : ByteArray))), (1, (.float .f64 4607182418800017408))]) (v := TShare.v (⟨(⟨#[98]⟩ : ByteArray), 4607182418800017408⟩ : TShare)) rfl (e_build Try.underlying32 zero32 rfl pl32 rfl _)) <| sOn 108 hc13 rfl rfl ?_
      refine st_rnp (fun r => ex_eqlA eqg32 rfl rfl r) h ?_; clear h; intro t113 h
      refine st_val (ex_pick1 (b := t106) rfl hc13 (v := (.bool t113)) rfl) <| asg (.bool t113) rfl <| wl_nil ?_
      exact then_n ⟨t113, _, rfl, mk_upds' (ae rfl ae0), h⟩
     ·rw [if_neg hc13] at h
      refine sOff 108 (Bool.eq_false_iff.2 hc13) rfl rfl <| sOff 108 (Bool.eq_false_iff.2 hc13) rfl rfl <| sOff 108 (Bool.eq_false_iff.2 hc13) rfl rfl <| sOff 108 (Bool.eq_false_iff.2 hc13) rfl rfl <| sOff 108 (Bool.eq_false_iff.2 hc13) rfl rfl <| st_val (ex_pick0 (b := t106) rfl (Bool.eq_false_iff.2 hc13) (v := (.bool false)) rfl) <| asg (.bool false) rfl <| wl_nil ?_
      exact then_n ⟨false, _, rfl, mk_upds' (ae rfl ae0), h⟩
    ·rw [if_neg hc12] at h
     refine sOff 101 (decide_eq_false hc12) rfl rfl <| sOff 101 (decide_eq_false hc12) rfl rfl <| sOff 101 (decide_eq_false hc12) rfl rfl <| sOff 101 (decide_eq_false hc12) rfl rfl <| sOff 101 (decide_eq_false hc12) rfl rfl <| st_val (ex_pick0 (b := (decide ((t97.n : Int) = 2))) rfl (decide_eq_false hc12) (v := (.bool false)) rfl) <| mv (.bool false) rfl <| sOff 108 (rfl : false = !true) rfl rfl <| sOff 108 (rfl : false = !true) rfl rfl <| sOff 108 (rfl : false = !true) rfl rfl ?_
     refine sOff 108 (rfl : false = !true) rfl rfl <| sOff 108 (rfl : false = !true) rfl rfl <| st_val (ex_pick0 (b := false) rfl (rfl : false = false) (v := (.bool false)) rfl) <| asg (.bool false) rfl <| wl_nil ?_
     exact then_n ⟨false, _, rfl, mk_upds' (ae rfl ae0), h⟩
 ·clear h; intro k1 h
  refine region_ <| mv (.int .i64 t28.2) rfl <| st_val (ex_neq (a := t28.2) (b := 0) rfl rfl) <| mv (.bool (decide (t28.2 ≠ 0))) rfl ?_
  by_cases hc2 : t28.2 ≠ 0
  ·rw [if_pos hc2] at h
   refine sOff 43 (decide_eq_true hc2) rfl rfl <| sOff 43 (decide_eq_true hc2) rfl rfl <| st_val (ex_pick1 (b := (decide (t28.2 ≠ 0))) rfl (decide_eq_true hc2) (v := (.bool true)) rfl) <| mv (.bool true) rfl <| sOff 47 (rfl : true = !false) rfl rfl <| sOff 47 (rfl : true = !false) rfl rfl <| st_val (ex_pick1 (b := true) rfl (rfl : true = true) (v := (.bool true)) rfl) <| mv (.bool true) rfl <| sOff 51 (rfl : true = !false) rfl rfl <| sOff 51 (rfl : true = !false) rfl rfl ?_
   refine st_val (ex_pick1 (b := true) rfl (rfl : true = true) (v := (.bool true)) rfl) <| mv (.bool true) rfl <| sOff 55 (rfl : true = !false) rfl rfl <| sOff 55 (rfl : true = !false) rfl rfl <| sOff 55 (rfl : true = !false) rfl rfl <| st_val (ex_pick1 (b := true) rfl (rfl : true = true) (v := (.bool true)) rfl) <| mv (.bool true) rfl <| sOff 60 (rfl : true = !false) rfl rfl <| sOff 60 (rfl : true = !false) rfl rfl <| sOff 60 (rfl : true = !false) rfl rfl ?_
   refine sOff 60 (rfl : true = !false) rfl rfl <| st_val (ex_pick1 (b := true) rfl (rfl : true = true) (v := (.bool true)) rfl) <| mv (.bool true) rfl <| sOff 66 (rfl : true = !false) rfl rfl <| sOff 66 (rfl : true = !false) rfl rfl <| sOff 66 (rfl : true = !false) rfl rfl <| sOff 66 (rfl : true = !false) rfl rfl <| sOff 66 (rfl : true = !false) rfl rfl <| sOff 66 (rfl : true = !false) rfl rfl <| sOff 66 (rfl : true = !false) rfl rfl ?_
   refine st_val (ex_pick1 (b := true) rfl (rfl : true = true) (v := (.bool true)) rfl) <| mv (.bool true) rfl <| sOff 75 (rfl : true = !false) rfl rfl <| sOff 75 (rfl : true = !false) rfl rfl <| sOff 75 (rfl : true = !false) rfl rfl <| sOff 75 (rfl : true = !false) rfl rfl <| sOff 75 (rfl : true = !false) rfl rfl <| sOff 75 (rfl : true = !false) rfl rfl <| sOff 75 (rfl : true = !false) rfl rfl <| st_val (ex_pick1 (b := true) rfl (rfl : true = true) (v := (.bool true)) rfl) ?_
   refine mv (.bool true) rfl <| sOff 84 (rfl : true = !false) rfl rfl <| sOff 84 (rfl : true = !false) rfl rfl <| sOff 84 (rfl : true = !false) rfl rfl <| sOff 84 (rfl : true = !false) rfl rfl <| st_val (ex_pick1 (b := true) rfl (rfl : true = true) (v := (.bool true)) rfl) <| wl_nil ?_
   exact then_n ⟨true, _, rfl, mk_upds' (ae rfl (ae rfl ae0)), h⟩
  ·rw [if_neg hc2] at h
   refine sOn 43 (decide_eq_false hc2) rfl rfl <| mv (.int .i64 t33.2) rfl <| sOn 43 (decide_eq_false hc2) rfl rfl <| st_val (ex_neq (a := t33.2) (b := 2) rfl rfl) <| st_val (ex_pick0 (b := (decide (t28.2 ≠ 0))) rfl (decide_eq_false hc2) (v := (.bool (decide (t33.2 ≠ 2)))) rfl) <| mv (.bool (decide (t33.2 ≠ 2))) rfl ?_
   by_cases hc3 : t33.2 ≠ 2
   ·rw [if_pos hc3] at h
    refine sOff 47 (decide_eq_true hc3) rfl rfl <| sOff 47 (decide_eq_true hc3) rfl rfl <| st_val (ex_pick1 (b := (decide (t33.2 ≠ 2))) rfl (decide_eq_true hc3) (v := (.bool true)) rfl) <| mv (.bool true) rfl <| sOff 51 (rfl : true = !false) rfl rfl <| sOff 51 (rfl : true = !false) rfl rfl <| st_val (ex_pick1 (b := true) rfl (rfl : true = true) (v := (.bool true)) rfl) <| mv (.bool true) rfl <| sOff 55 (rfl : true = !false) rfl rfl <| sOff 55 (rfl : true = !false) rfl rfl ?_
    refine sOff 55 (rfl : true = !false) rfl rfl <| st_val (ex_pick1 (b := true) rfl (rfl : true = true) (v := (.bool true)) rfl) <| mv (.bool true) rfl <| sOff 60 (rfl : true = !false) rfl rfl <| sOff 60 (rfl : true = !false) rfl rfl <| sOff 60 (rfl : true = !false) rfl rfl <| sOff 60 (rfl : true = !false) rfl rfl <| st_val (ex_pick1 (b := true) rfl (rfl : true = true) (v := (.bool true)) rfl) <| mv (.bool true) rfl <| sOff 66 (rfl : true = !false) rfl rfl ?_
    refine sOff 66 (rfl : true = !false) rfl rfl <| sOff 66 (rfl : true = !false) rfl rfl <| sOff 66 (rfl : true = !false) rfl rfl <| sOff 66 (rfl : true = !false) rfl rfl <| sOff 66 (rfl : true = !false) rfl rfl <| sOff 66 (rfl : true = !false) rfl rfl <| st_val (ex_pick1 (b := true) rfl (rfl : true = true) (v := (.bool true)) rfl) <| mv (.bool true) rfl <| sOff 75 (rfl : true = !false) rfl rfl <| sOff 75 (rfl : true = !false) rfl rfl ?_
    refine sOff 75 (rfl : true = !false) rfl rfl <| sOff 75 (rfl : true = !false) rfl rfl <| sOff 75 (rfl : true = !false) rfl rfl <| sOff 75 (rfl : true = !false) rfl rfl <| sOff 75 (rfl : true = !false) rfl rfl <| st_val (ex_pick1 (b := true) rfl (rfl : true = true) (v := (.bool true)) rfl) <| mv (.bool true) rfl <| sOff 84 (rfl : true = !false) rfl rfl <| sOff 84 (rfl : true = !false) rfl rfl <| sOff 84 (rfl : true = !false) rfl rfl ?_
    refine sOff 84 (rfl : true = !false) rfl rfl <| st_val (ex_pick1 (b := true) rfl (rfl : true = true) (v := (.bool true)) rfl) <| wl_nil ?_
    exact then_n ⟨true, _, rfl, mk_upds' (ae rfl (ae rfl ae0)), h⟩
   ·rw [if_neg hc3] at h
    refine sOn 47 (decide_eq_false hc3) rfl rfl <| mv (.bool t38.2) rfl <| sOn 47 (decide_eq_false hc3) rfl rfl <| st_val (ex_not (b := t38.2) rfl) <| st_val (ex_pick0 (b := (decide (t33.2 ≠ 2))) rfl (decide_eq_false hc3) (v := (.bool (!t38.2))) rfl) <| mv (.bool (!t38.2)) rfl ?_
    by_cases hc4 : (!t38.2) = true
    ·rw [if_pos hc4] at h
     refine sOff 51 hc4 rfl rfl <| sOff 51 hc4 rfl rfl <| st_val (ex_pick1 (b := (!t38.2)) rfl hc4 (v := (.bool true)) rfl) <| mv (.bool true) rfl <| sOff 55 (rfl : true = !false) rfl rfl <| sOff 55 (rfl : true = !false) rfl rfl <| sOff 55 (rfl : true = !false) rfl rfl <| st_val (ex_pick1 (b := true) rfl (rfl : true = true) (v := (.bool true)) rfl) <| mv (.bool true) rfl <| sOff 60 (rfl : true = !false) rfl rfl ?_
     refine sOff 60 (rfl : true = !false) rfl rfl <| sOff 60 (rfl : true = !false) rfl rfl <| sOff 60 (rfl : true = !false) rfl rfl <| st_val (ex_pick1 (b := true) rfl (rfl : true = true) (v := (.bool true)) rfl) <| mv (.bool true) rfl <| sOff 66 (rfl : true = !false) rfl rfl <| sOff 66 (rfl : true = !false) rfl rfl <| sOff 66 (rfl : true = !false) rfl rfl <| sOff 66 (rfl : true = !false) rfl rfl <| sOff 66 (rfl : true = !false) rfl rfl ?_
     refine sOff 66 (rfl : true = !false) rfl rfl <| sOff 66 (rfl : true = !false) rfl rfl <| st_val (ex_pick1 (b := true) rfl (rfl : true = true) (v := (.bool true)) rfl) <| mv (.bool true) rfl <| sOff 75 (rfl : true = !false) rfl rfl <| sOff 75 (rfl : true = !false) rfl rfl <| sOff 75 (rfl : true = !false) rfl rfl <| sOff 75 (rfl : true = !false) rfl rfl <| sOff 75 (rfl : true = !false) rfl rfl <| sOff 75 (rfl : true = !false) rfl rfl ?_
     refine sOff 75 (rfl : true = !false) rfl rfl <| st_val (ex_pick1 (b := true) rfl (rfl : true = true) (v := (.bool true)) rfl) <| mv (.bool true) rfl <| sOff 84 (rfl : true = !false) rfl rfl <| sOff 84 (rfl : true = !false) rfl rfl <| sOff 84 (rfl : true = !false) rfl rfl <| sOff 84 (rfl : true = !false) rfl rfl <| st_val (ex_pick1 (b := true) rfl (rfl : true = true) (v := (.bool true)) rfl) <| wl_nil ?_
     exact then_n ⟨true, _, rfl, mk_upds' (ae rfl (ae rfl ae0)), h⟩
    ·rw [if_neg hc4] at h
     refine sOn 51 (Bool.eq_false_iff.2 hc4) rfl rfl <| mv (.int .i64 t38.1) rfl <| sOn 51 (Bool.eq_false_iff.2 hc4) rfl rfl <| st_val (ex_neq (a := t38.1) (b := 0) rfl rfl) <| st_val (ex_pick0 (b := (!t38.2)) rfl (Bool.eq_false_iff.2 hc4) (v := (.bool (decide (t38.1 ≠ 0)))) rfl) <| mv (.bool (decide (t38.1 ≠ 0))) rfl ?_
     by_cases hc5 : t38.1 ≠ 0
     ·rw [if_pos hc5] at h
      refine sOff 55 (decide_eq_true hc5) rfl rfl <| sOff 55 (decide_eq_true hc5) rfl rfl <| sOff 55 (decide_eq_true hc5) rfl rfl <| st_val (ex_pick1 (b := (decide (t38.1 ≠ 0))) rfl (decide_eq_true hc5) (v := (.bool true)) rfl) <| mv (.bool true) rfl <| sOff 60 (rfl : true = !false) rfl rfl <| sOff 60 (rfl : true = !false) rfl rfl <| sOff 60 (rfl : true = !false) rfl rfl <| sOff 60 (rfl : true = !false) rfl rfl <| st_val (ex_pick1 (b := true) rfl (rfl : true = true) (v := (.bool true)) rfl) ?_
      refine mv (.bool true) rfl <| sOff 66 (rfl : true = !false) rfl rfl <| sOff 66 (rfl : true = !false) rfl rfl <| sOff 66 (rfl : true = !false) rfl rfl <| sOff 66 (rfl : true = !false) rfl rfl <| sOff 66 (rfl : true = !false) rfl rfl <| sOff 66 (rfl : true = !false) rfl rfl <| sOff 66 (rfl : true = !false) rfl rfl <| st_val (ex_pick1 (b := true) rfl (rfl : true = true) (v := (.bool true)) rfl) <| mv (.bool true) rfl ?_
      refine sOff 75 (rfl : true = !false) rfl rfl <| sOff 75 (rfl : true = !false) rfl rfl <| sOff 75 (rfl : true = !false) rfl rfl <| sOff 75 (rfl : true = !false) rfl rfl <| sOff 75 (rfl : true = !false) rfl rfl <| sOff 75 (rfl : true = !false) rfl rfl <| sOff 75 (rfl : true = !false) rfl rfl <| st_val (ex_pick1 (b := true) rfl (rfl : true = true) (v := (.bool true)) rfl) <| mv (.bool true) rfl <| sOff 84 (rfl : true = !false) rfl rfl ?_
      refine sOff 84 (rfl : true = !false) rfl rfl <| sOff 84 (rfl : true = !false) rfl rfl <| sOff 84 (rfl : true = !false) rfl rfl <| st_val (ex_pick1 (b := true) rfl (rfl : true = true) (v := (.bool true)) rfl) <| wl_nil ?_
      exact then_n ⟨true, _, rfl, mk_upds' (ae rfl (ae rfl ae0)), h⟩
     ·rw [if_neg hc5] at h
      refine sOn 55 (decide_eq_false hc5) rfl rfl <| st_val (ex_fa fa53_0 (p := (⟨b2, 0, none⟩ : Addr)) rfl) <| sOn 55 (decide_eq_false hc5) rfl rfl ?_
      refine st_rn (fun r => ex_load rfl r) h ?_; clear h; intro t57 w h
      refine sOn 55 (decide_eq_false hc5) rfl rfl <| st_val (ex_neq (a := t57) (b := 3) rfl rfl) <| st_val (ex_pick0 (b := (decide (t38.1 ≠ 0))) rfl (decide_eq_false hc5) (v := (.bool (decide (t57 ≠ 3)))) rfl) <| mv (.bool (decide (t57 ≠ 3))) rfl ?_
      by_cases hc6 : t57 ≠ 3
      ·rw [if_pos hc6] at h
       refine sOff 60 (decide_eq_true hc6) rfl rfl <| sOff 60 (decide_eq_true hc6) rfl rfl <| sOff 60 (decide_eq_true hc6) rfl rfl <| sOff 60 (decide_eq_true hc6) rfl rfl <| st_val (ex_pick1 (b := (decide (t57 ≠ 3))) rfl (decide_eq_true hc6) (v := (.bool true)) rfl) <| mv (.bool true) rfl <| sOff 66 (rfl : true = !false) rfl rfl <| sOff 66 (rfl : true = !false) rfl rfl <| sOff 66 (rfl : true = !false) rfl rfl <| sOff 66 (rfl : true = !false) rfl rfl ?_
       refine sOff 66 (rfl : true = !false) rfl rfl <| sOff 66 (rfl : true = !false) rfl rfl <| sOff 66 (rfl : true = !false) rfl rfl <| st_val (ex_pick1 (b := true) rfl (rfl : true = true) (v := (.bool true)) rfl) <| mv (.bool true) rfl <| sOff 75 (rfl : true = !false) rfl rfl <| sOff 75 (rfl : true = !false) rfl rfl <| sOff 75 (rfl : true = !false) rfl rfl <| sOff 75 (rfl : true = !false) rfl rfl <| sOff 75 (rfl : true = !false) rfl rfl ?_
       refine sOff 75 (rfl : true = !false) rfl rfl <| sOff 75 (rfl : true = !false) rfl rfl <| st_val (ex_pick1 (b := true) rfl (rfl : true = true) (v := (.bool true)) rfl) <| mv (.bool true) rfl <| sOff 84 (rfl : true = !false) rfl rfl <| sOff 84 (rfl : true = !false) rfl rfl <| sOff 84 (rfl : true = !false) rfl rfl <| sOff 84 (rfl : true = !false) rfl rfl <| st_val (ex_pick1 (b := true) rfl (rfl : true = true) (v := (.bool true)) rfl) <| wl_nil ?_
       exact then_n ⟨true, _, rfl, mk_upds' (ae rfl (ae rfl ae0)), h⟩
      ·rw [if_neg hc6] at h
       refine sOn 60 (decide_eq_false hc6) rfl rfl <| st_val (ex_fa fa53_1 (p := (⟨b2, 0, none⟩ : Addr)) rfl) <| sOn 60 (decide_eq_false hc6) rfl rfl ?_
       refine st_rn (fun r => ex_load rfl r) h ?_; clear h; intro t62 w h
       refine sOn 60 (decide_eq_false hc6) rfl rfl <| st_val (ex_len (s := t62) Try.underlying51 rfl) <| sOn 60 (decide_eq_false hc6) rfl rfl <| st_val (ex_neq (a := (t62.n : Int)) (b := 1) rfl rfl) <| st_val (ex_pick0 (b := (decide (t57 ≠ 3))) rfl (decide_eq_false hc6) (v := (.bool (decide ((t62.n : Int) ≠ 1)))) rfl) <| mv (.bool (decide ((t62.n : Int) ≠ 1))) rfl ?_
       by_cases hc7 : (t62.n : Int) ≠ 1
       ·rw [if_pos hc7] at h
        refine sOff 66 (decide_eq_true hc7) rfl rfl <| sOff 66 (decide_eq_true hc7) rfl rfl <| sOff 66 (decide_eq_true hc7) rfl rfl <| sOff 66 (decide_eq_true hc7) rfl rfl <| sOff 66 (decide_eq_true hc7) rfl rfl <| sOff 66 (decide_eq_true hc7) rfl rfl <| sOff 66 (decide_eq_true hc7) rfl rfl <| st_val (ex_pick1 (b := (decide ((t62.n : Int) ≠ 1))) rfl (decide_eq_true hc7) (v := (.bool true)) rfl) <| mv (.bool true) rfl <| sOff 75 (rfl : true = !false) rfl rfl ?_
        refine sOff 75 (rfl : true = !false) rfl rfl <| sOff 75 (rfl : true = !false) rfl rfl <| sOff 75 (rfl : true = !false) rfl rfl <| sOff 75 (rfl : true = !false) rfl rfl <| sOff 75 (rfl : true = !false) rfl rfl <| sOff 75 (rfl : true = !false) rfl rfl <| st_val (ex_pick1 (b := true) rfl (rfl : true = true) (v := (.bool true)) rfl) <| mv (.bool true) rfl <| sOff 84 (rfl : true = !false) rfl rfl <| sOff 84 (rfl : true = !false) rfl rfl ?_
        refine sOff 84 (rfl : true = !false) rfl rfl <| sOff 84 (rfl : true = !false) rfl rfl <| st_val (ex_pick1 (b := true) rfl (rfl : true = true) (v := (.bool true)) rfl) <| wl_nil ?_
        exact then_n ⟨true, _, rfl, mk_upds' (ae rfl (ae rfl ae0)), h⟩
       ·rw [if_neg hc7] at h
        refine sOn 66 (decide_eq_false hc7) rfl rfl <| st_val (ex_fa fa53_1 (p := (⟨b2, 0, none⟩ : Addr)) rfl) <| sOn 66 (decide_eq_false hc7) rfl rfl ?_
        refine st_rn (fun r => ex_load rfl r) h ?_; clear h; intro t68 w h
        refine sOn 66 (decide_eq_false hc7) rfl rfl ?_
        refine st_rnp (fun r => ex_indexAddr rfl rfl r) h ?_; clear h; intro t69 h
        refine sOn 66 (decide_eq_false hc7) rfl rfl <| st_val (ex_fa fa59_2 (p := t69) rfl) <| sOn 66 (decide_eq_false hc7) rfl rfl ?_
        refine st_rn (fun r => ex_load rfl r) h ?_; clear h; intro t71 w h
        refine sOn 66 (decide_eq_false hc7) rfl rfl <| st_val (ex_len (s := t71) Try.underlying56 rfl) <| sOn 66 (decide_eq_false hc7) rfl rfl <| st_val (ex_neq (a := (t71.n : Int)) (b := 1) rfl rfl) <| st_val (ex_pick0 (b := (decide ((t62.n : Int) ≠ 1))) rfl (decide_eq_false hc7) (v := (.bool (decide ((t71.n : Int) ≠ 1)))) rfl) <| mv (.bool (decide ((t71.n : Int) ≠ 1))) rfl ?_
        by_cases hc8 : (t71.n : Int) ≠ 1
        ·rw [if_pos hc8] at h
         refine sOff 75 (decide_eq_true hc8) rfl rfl <| sOff 75 (decide_eq_true hc8) rfl rfl <| sOff 75 (decide_eq_true hc8) rfl rfl <| sOff 75 (decide_eq_true hc8) rfl rfl <| sOff 75 (decide_eq_true hc8) rfl rfl <| sOff 75 (decide_eq_true hc8) rfl rfl <| sOff 75 (decide_eq_true hc8) rfl rfl <| st_val (ex_pick1 (b := (decide ((t71.n : Int) ≠ 1))) rfl (decide_eq_true hc8) (v := (.bool true)) rfl) <| mv (.bool true) rfl <| sOff 84 (rfl : true = !false) rfl rfl ?_
         refine sOff 84 (rfl : true = !false) rfl rfl <| sOff 84 (rfl : true = !false) rfl rfl <| sOff 84 (rfl : true = !false) rfl rfl <| st_val (ex_pick1 (b := true) rfl (rfl : true = true) (v := (.bool true)) rfl) <| wl_nil ?_
         exact then_n ⟨true, _, rfl, mk_upds' (ae rfl (ae rfl ae0)), h⟩
        ·rw [if_neg hc8] at h
         refine sOn 75 (decide_eq_false hc8) rfl rfl <| st_val (ex_fa fa53_1 (p := (⟨b2, 0, none⟩ : Addr)) rfl) <| sOn 75 (decide_eq_false hc8) rfl rfl ?_
         refine st_rn (fun r => ex_load rfl r) h ?_; clear h; intro t77 w h
         refine sOn 75 (decide_eq_false hc8) rfl rfl ?_
         refine st_rnp (fun r => ex_indexAddr rfl rfl r) h ?_; clear h; intro t78 h
         refine sOn 75 (decide_eq_false hc8) rfl rfl <| st_val (ex_fa fa59_3 (p := t78) rfl) <| sOn 75 (decide_eq_false hc8) rfl rfl ?_
         refine st_rn (fun r => ex_load rfl r) h ?_; clear h; intro t80 w h
         refine sOn 75 (decide_eq_false hc8) rfl rfl <| st_val (ex_len (s := t80) Try.underlying57 rfl) <| sOn 75 (decide_eq_false hc8) rfl rfl <| st_val (ex_neq (a := (t80.n : Int)) (b := 1) rfl rfl) <| st_val (ex_pick0 (b := (decide ((t71.n : Int) ≠ 1))) rfl (decide_eq_false hc8) (v := (.bool (decide ((t80.n : Int) ≠ 1)))) rfl) <| mv (.bool (decide ((t80.n : Int) ≠ 1))) rfl ?_
         by_cases hc9 : (t80.n : Int) ≠ 1
         ·rw [if_pos hc9] at h
          refine sOff 84 (decide_eq_true hc9) rfl rfl <| sOff 84 (decide_eq_true hc9) rfl rfl <| sOff 84 (decide_eq_true hc9) rfl rfl <| sOff 84 (decide_eq_true hc9) rfl rfl <| st_val (ex_pick1 (b := (decide ((t80.n : Int) ≠ 1))) rfl (decide_eq_true hc9) (v := (.bool true)) rfl) <| wl_nil ?_
          exact then_n ⟨true, _, rfl, mk_upds' (ae rfl (ae rfl ae0)), h⟩
         ·rw [if_neg hc9] at h
          refine sOn 84 (decide_eq_false hc9) rfl rfl <| st_val (ex_fa fa53_2 (p := (⟨b2, 0, none⟩ : Addr)) rfl) <| sOn 84 (decide_eq_false hc9) rfl rfl ?_
          refine st_rn (fun r => ex_load rfl r) h ?_; clear h; intro t86 w h
          refine sOn 84 (decide_eq_false hc9) rfl rfl <| st_val (ex_len (s := t86) Try.underlying44 rfl) <| sOn 84 (decide_eq_false hc9) rfl rfl <| st_val (ex_neq (a := (t86.n : Int)) (b := 2) rfl rfl) <| st_val (ex_pick0 (b := (decide ((t80.n : Int) ≠ 1))) rfl (decide_eq_false hc9) (v := (.bool (decide ((t86.n : Int) ≠ 2)))) rfl) <| wl_nil ?_
          exact then_n ⟨(decide ((t86.n : Int) ≠ 2)), _, rfl, mk_upds' (ae rfl (ae rfl ae0)), h⟩

def f34 (t0 : Int) (t1 : Sl) (R : (TTables × Int) → World → Prop) (w : World) : Prop :=
 New 53 (TTables.cells (⟨0, Sl.nil, Sl.nil⟩ : TTables)) w fun b4 w =>
 Jn (σ := Bool) (fun k1 =>
  if t0 < 1 then
   k1 true w
  else
   k1 (decide (1048576 < t0)) w
 ) fun s1 w =>
  if s1 = true then
   RnU Try.prog (Instr.storeAt 53 (Ptr (⟨b4, 0, none⟩ : Addr)) (TTables.v (⟨0, Sl.nil, Sl.nil⟩ : TTables))) w fun w =>
   RnR Try.prog TTables.v (loadVar 53 (⟨b4, 0, none⟩ : Addr)) w fun r0 =>
   R (r0, 2) w
  else
   Cal Try.prog (fun x : Sl × TFault => Value.tuple #[(Sl.v x.1), (TFault.v x.2)]) 46 #[(Sl.v t1)] w fun t23 w =>
   New 80 (TFault.cells (⟨0, 0, 0⟩ : TFault)) w fun b7 w =>
   RnU Try.prog (Instr.storeAt 80 (Ptr (⟨b7, 0, none⟩ : Addr)) (TFault.v t23.2)) w fun w =>
   Rn Try.prog (Value.int .i64) (Instr.loadAt 25 (Ptr ((⟨b7, 0, none⟩ : Addr).add 2))) w fun t27 w =>
   if t27 ≠ 0 then
    Dr w fun w5 w =>
     RnC Try.prog (fun k => k = b4) (Value.int .i64) (Instr.loadAt 25 (Ptr ((⟨b7, 0, none⟩ : Addr).add 2))) w5 fun t31_1 =>
     RnU Try.prog (Instr.storeAt 53 (Ptr (⟨b4, 0, none⟩ : Addr)) (TTables.v (⟨0, Sl.nil, Sl.nil⟩ : TTables))) w (fun w' => Chg (fun k => k = b4) w5 w' ∧ (fun w =>
      RnR Try.prog TTables.v (loadVar 53 (⟨b4, 0, none⟩ : Addr)) w fun r0_2 =>
      R (r0_2, t31_1) w
     ) w')
   else
    New 53 (TTables.cells (⟨0, Sl.nil, Sl.nil⟩ : TTables)) w fun b8 w =>
    RnU Try.prog (Instr.storeAt 53 (Ptr (⟨b8, 0, none⟩ : Addr)) (TTables.v (⟨t0, Sl.nil, Sl.nil⟩ : TTables))) w fun w =>
    Cal Try.prog Value.map 57 #[(Sl.v t1)] w fun t35 w =>
    Cal Try.prog Sl.v 54 #[(Sl.v t1), (.int .i64 3)] w fun t37 w =>
    Lp (σ := Int) (fun s6 w n6 =>
     if s6 < (t37.n : Int) then
      RnP Try.prog Ptr (Instr.indexAt 22 (Sl.v t37) (.int .i64 s6)) fun t41 =>
      Rn Try.prog TResource.v (Instr.loadAt 48 (Ptr t41)) w fun t42 w =>
      New 48 (TResource.cells (⟨0, ⟨#[]⟩, Sl.nil, Sl.nil, ⟨#[]⟩, Sl.nil, ⟨#[]⟩, false⟩ : TResource)) w fun b11 w =>
      RnU Try.prog (Instr.storeAt 48 (Ptr (⟨b11, 0, none⟩ : Addr)) (TResource.v t42)) w fun w =>
      Dr w fun w8 w =>
       RnL Try.prog Sl.v (Instr.loadAt 51 (Ptr ((⟨b8, 0, none⟩ : Addr).add 1))) w8 fun t44 =>
       RnL Try.prog TResource.v (Instr.loadAt 48 (Ptr (⟨b11, 0, none⟩ : Addr))) w8 fun t47 =>
       Cal Try.prog THost.v 76 #[(Sl.v t1), (.map t35), (TResource.v t47)] w (ExtK w8 fun t48 w =>
        New 59 ((THost.cells t48)) w fun b49 w =>
        Rn Try.prog Sl.v (Builtin.append_ #[51, 51] 51 #[(Sl.v t44), (Sl.v (⟨some ⟨b49, 0, none⟩, 1, 1⟩ : Sl))]) w fun t50 w =>
        RnU Try.prog (Instr.storeAt 51 (Ptr ((⟨b8, 0, none⟩ : Addr).add 1)) (Sl.v t50)) w fun w =>
        n6 (IntKind.i64.wrap (s6 + 1)) w
       )
     else
      Rn Try.prog Sl.v (Instr.loadAt 51 (Ptr ((⟨b8, 0, none⟩ : Addr).add 1))) w fun t54 w =>
      Cal Try.prog (fun _ : Unit => Value.tuple #[]) 77 #[(Sl.v t54), (Value.func (.func 78) #[] #[])] w fun t55 w =>
      Cal Try.prog Sl.v 54 #[(Sl.v t1), (.int .i64 1)] w fun t57 w =>
      Lp (σ := Int) (fun s9 w n9 =>
       if s9 < (t57.n : Int) then
        RnP Try.prog Ptr (Instr.indexAt 22 (Sl.v t57) (.int .i64 s9)) fun t61 =>
        Rn Try.prog TResource.v (Instr.loadAt 48 (Ptr t61)) w fun t62 w =>
        New 48 (TResource.cells (⟨0, ⟨#[]⟩, Sl.nil, Sl.nil, ⟨#[]⟩, Sl.nil, ⟨#[]⟩, false⟩ : TResource)) w fun b13 w =>
        RnU Try.prog (Instr.storeAt 48 (Ptr (⟨b13, 0, none⟩ : Addr)) (TResource.v t62)) w fun w =>
        Rn Try.prog Sl.v (Instr.loadAt 44 (Ptr ((⟨b8, 0, none⟩ : Addr).add 2))) w fun t64 w =>
        Rn Try.prog Value.string (Instr.loadAt 9 (Ptr ((⟨b13, 0, none⟩ : Addr).add 1))) w fun t66 w =>
        New 9 ([(.string t66)]) w fun b67 w =>
        Rn Try.prog Sl.v (Builtin.append_ #[44, 44] 44 #[(Sl.v t64), (Sl.v (⟨some ⟨b67, 0, none⟩, 1, 1⟩ : Sl))]) w fun t68 w =>
        RnU Try.prog (Instr.storeAt 44 (Ptr ((⟨b8, 0, none⟩ : Addr).add 2)) (Sl.v t68)) w fun w =>
        n9 (IntKind.i64.wrap (s9 + 1)) w
       else
        Rn Try.prog TTables.v (Instr.loadAt 53 (Ptr (⟨b8, 0, none⟩ : Addr))) w fun t71 w =>
        RnU Try.prog (Instr.storeAt 53 (Ptr (⟨b4, 0, none⟩ : Addr)) (TTables.v t71)) w fun w =>
        RnR Try.prog TTables.v (loadVar 53 (⟨b4, 0, none⟩ : Addr)) w fun r0_3 =>
        R (r0_3, 0) w
      ) 0 w
    ) 0 w
theorem c34 {t0 : Int} {t1 : Sl} {R : (TTables × Int) → World → Prop} {w : World} (h : f34 t0 t1 R w) :
  Cal Try.prog (fun x : TTables × Int => Value.tuple #[(TTables.v x.1), (.int .i64 x.2)]) 34 #[(.int .i64 t0), (Sl.v t1)] w R := by
 unfold f34 at h
 refine calls_ Try.func34 Try.ntmps34 rfl rfl <| seq_ <| region_ ?_
 refine st_new (f := (fun b => Ptr ⟨b, 0, none⟩)) (ex_allocN zero53 rfl) h ?_; clear h; intro b4 w h
 refine asg (.int .i64 0) rfl <| wl_nil <| then_n <| seq_ ?_
 refine wp_jn (σ := Bool) (fun s1 l => ∃ j, l = upds j [(0, (.int .i64 t0)), (1, (Sl.v t1)), (4, (Ptr (⟨b4, 0, none⟩ : Addr))), (19, (.bool s1))]) h ?_ ?_
 ·clear h; rintro s1 _ w ⟨j, rfl⟩ h
  by_cases hc3 : s1 = true
  ·rw [if_pos hc3] at h; refine cond_1 (b := s1) rfl hc3 ?_
   refine seq_ <| region_ <| st_val (ex_build (a' := []) (v := TTables.v (⟨0, Sl.nil, Sl.nil⟩ : TTables)) rfl (e_build Try.underlying53 zero53 rfl pl53 rfl _)) ?_
   refine st_rnu (fun r => ex_store rfl rfl r) h ?_; clear h; intro w h
   refine asg (.int .i64 2) rfl <| wl_nil <| then_n <| wp_ret <| then_r ?_
   obtain ⟨r0, hr0, h⟩ := h
   refine ret_ct rfl rfl hr0 rfl ⟨(r0, 2), rfl, h⟩
  ·rw [if_neg hc3] at h; refine cond_0 (b := s1) rfl (Bool.eq_false_iff.2 hc3) ?_
   refine wp_skip <| then_n <| seq_ <| seq_ <| region_ <| mv (Sl.v t1) rfl ?_
   refine st_cal en46 rfl h ?_; clear h; intro t23 w h
   refine mv (.tuple #[(Sl.v t23.1), (TFault.v t23.2)]) rfl <| st_val (ex_extract (u := (.tuple #[(Sl.v t23.1), (TFault.v t23.2)])) rfl (v := (Sl.v t23.1)) rfl) <| st_val (ex_extract (u := (.tuple #[(Sl.v t23.1), (TFault.v t23.2)])) rfl (v := (TFault.v t23.2)) rfl) ?_
   refine st_new (f := (fun b => Ptr ⟨b, 0, none⟩)) (ex_allocN zero80 rfl) h ?_; clear h; intro b7 w h
   refine asg (Sl.v t23.1) rfl ?_
   refine st_rnu (fun r => ex_store rfl rfl r) h ?_; clear h; intro w h
   refine wl_nil <| then_n <| seq_ <| region_ <| st_val (ex_fa fa80_2 (p := (⟨b7, 0, none⟩ : Addr)) rfl) ?_
   refine st_rn (fun r => ex_load rfl r) h ?_; clear h; intro t27 w h
   refine st_val (ex_neq (a := t27) (b := 0) rfl rfl) <| wl_nil <| then_n ?_
   by_cases hc4 : t27 ≠ 0
   ·rw [if_pos hc4] at h; refine cond_1 (b := (decide (t27 ≠ 0))) rfl (decide_eq_true hc4) ?_
    refine seq_ ?_
    refine dr_beginC (fun k => k = b4) mixed [] (listed := #[false, false, false, false, false]) rfl (n := 5) rfl h ?_; clear h; intro w5 h
    have hE : Chg (fun k => k = b4) w5 w5 := Chg.refl _ _
    refine tP 0 rfl (fun _ => hE) (fun _ => ex_build (a' := []) (v := TTables.v (⟨0, Sl.nil, Sl.nil⟩ : TTables)) rfl (e_build Try.underlying53 zero53 rfl pl53 rfl _)) <| tP 1 rfl (fun _ => hE) (fun _ => ex_fa fa80_2 (p := (⟨b7, 0, none⟩ : Addr)) rfl) ?_
    obtain ⟨t31_1, ht31_1, h⟩ := h
    refine tK 2 rfl hE (fun _ hw => (fun r => ex_load rfl r) (ht31_1 _ hw)) <| dr_only (i := 3) (by kernel_rfl) rfl rfl ?_
    refine o_rnu (fun r => ex_store rfl rfl r) h ?_; clear h; intro w h; obtain ⟨hx, h⟩ := h; clear hE; have hE := hx; clear hx; refine ⟨fun _ => hE, ?_⟩
    refine tP 4 rfl (fun _ => hE) (fun _ => ex_assign (v := (.int .i64 t31_1)) rfl) <| dr_end (by kernel_rfl) <| then_n <| wp_ret <| then_r ?_
    obtain ⟨r0_2, hr0_2, h⟩ := h
    refine ret_ct rfl rfl hr0_2 rfl ⟨(r0_2, t31_1), rfl, h⟩
   ·rw [if_neg hc4] at h; refine cond_0 (b := (decide (t27 ≠ 0))) rfl (decide_eq_false hc4) ?_
    refine wp_skip <| then_n <| seq_ <| region_ <| mv (.int .i64 t0) rfl <| st_val (ex_build (a' := [(0, (.int .i64 t0))]) (v := TTables.v (⟨t0, Sl.nil, Sl.nil⟩ : TTables)) rfl (e_build Try.underlying53 zero53 rfl pl53 rfl _)) ?_
    refine st_new (f := (fun b => Ptr ⟨b, 0, none⟩)) (ex_allocN zero53 rfl) h ?_; clear h; intro b8 w h
    refine st_rnu (fun r => ex_store rfl rfl r) h ?_; clear h; intro w h
    refine wl_nil <| then_n <| seq_ <| region_ <| mv (Sl.v t1) rfl ?_
    refine st_cal en57 rfl h ?_; clear h; intro t35 w h
    refine asg (.map t35) rfl <| wl_nil <| then_n <| seq_ <| seq_ <| region_ <| mv (Sl.v t1) rfl ?_
    refine st_cal en54 rfl h ?_; clear h; intro t37 w h
    refine st_val (ex_len (s := t37) Try.underlying22 rfl) <| mv (.int .i64 0) rfl <| wl_nil <| then_n <| wp_block <| wp_lp (σ := Int) (fun s6 a => ∃ j, a = F 72 (upds j [(1, (Sl.v t1)), (4, (Ptr (⟨b4, 0, none⟩ : Addr))), (8, (Ptr (⟨b8, 0, none⟩ : Addr))), (9, (.map t35)), (37, (Sl.v t37)), (38, (.int .i64 (t37.n : Int))), (39, (.int .i64 s6))])) h (mk_upds (ae rfl (ae rfl (ae rfl (ae rfl (ae rfl (ae rfl (ae rfl ae0)))))))) ?_
    clear h; rintro s6 _ w n6 ⟨j, rfl⟩ h
    refine seq_ <| region_ <| st_val (ex_lss (a := s6) (b := (t37.n : Int)) rfl rfl) <| wl_nil <| then_n <| seq_ ?_
    by_cases hc7 : s6 < (t37.n : Int)
    ·rw [if_pos hc7] at h; refine cond_1 (b := (decide (s6 < (t37.n : Int)))) rfl (decide_eq_true hc7) ?_
     refine wp_skip <| then_n <| seq_ <| wp_block <| seq_ <| region_ ?_
     refine st_rnp (fun r => ex_indexAddr rfl rfl r) h ?_; clear h; intro t41 h
     refine st_rn (fun r => ex_load rfl r) h ?_; clear h; intro t42 w h
     refine st_new (f := (fun b => Ptr ⟨b, 0, none⟩)) (ex_allocN zero48 rfl) h ?_; clear h; intro b11 w h
     refine st_rnu (fun r => ex_store rfl rfl r) h ?_; clear h; intro w h
     refine wl_nil <| then_n ?_
     refine dr_begin mixed [7, 9] (listed := #[false, false, false, false, false, false, false, false, false, false]) rfl (n := 10) rfl h ?_; clear h; intro w8 h
     have hE : Ext w8 w8 := Ext.refl _
     refine tP 0 rfl (fun _ => hE) (fun _ => ex_fa fa53_1 (p := (⟨b8, 0, none⟩ : Addr)) rfl) ?_
     obtain ⟨t44, ht44, h⟩ := h
     refine tK 1 rfl hE (fun _ hw => (fun r => ex_load rfl r) (ht44 _ hw)) <| tP 2 rfl (fun _ => hE) (fun _ => ex_move (v := (Sl.v t1)) rfl) <| tP 3 rfl (fun _ => hE) (fun _ => ex_move (v := (.map t35)) rfl) ?_
     obtain ⟨t47, ht47, h⟩ := h
     refine tK 4 rfl hE (fun _ hw => (fun r => ex_load rfl r) (ht47 _ hw)) <| dr_only (i := 5) (by kernel_rfl) rfl rfl ?_
     refine o_cal en76 rfl h ?_; clear h; intro t48 w h; obtain ⟨hx, h⟩ := h; clear hE; have hE := hx; clear hx; refine ⟨fun _ => hE, ?_⟩
     refine dr_only (i := 6) (by kernel_rfl) rfl rfl ?_
     refine o_new (f := (fun b => Sl.v ⟨some ⟨b, 0, none⟩, 1, 1⟩)) (ex_buildSlice (a' := [(0, (THost.v t48))]) rfl (e_buildSlice (cs := ((THost.cells t48))) Try.underlying51 info59 iz59 (by decide +kernel) (by decide +kernel) (by kernel_rfl) _)) h ?_; clear h; intro b49 w hx h; replace hE := hE.trans hx; clear hx; refine ⟨fun _ => hE, ?_⟩
     refine dr_only (i := 7) (by kernel_rfl) rfl rfl ?_
     refine o_rn (fun r => ex_builtin rfl (fun _ => rfl) r) h ?_; clear h; intro t50 w h; refine ⟨noG (by kernel_rfl), ?_⟩
     refine tP 8 rfl (noG (by kernel_rfl)) (fun _ => ex_fa fa53_1 (p := (⟨b8, 0, none⟩ : Addr)) rfl) <| dr_only (i := 9) (by kernel_rfl) rfl rfl ?_
     refine o_rnu (fun r => ex_store rfl rfl r) h ?_; clear h; intro w h; refine ⟨noG (by kernel_rfl), ?_⟩
     refine dr_end (by kernel_rfl) <| inb_n <| then_n <| region_ <| st_val (ex_add (a := s6) (b := 1) rfl rfl) <| mv (.int .i64 (IntKind.i64.wrap (s6 + 1))) rfl <| wl_nil ?_
     exact then_n ⟨(IntKind.i64.wrap (s6 + 1)), mk_upds (ae rfl (ae rfl (ae rfl (ae rfl (ae rfl (ae rfl (ae rfl ae0))))))), h⟩
    ·rw [if_neg hc7] at h; refine cond_0 (b := (decide (s6 < (t37.n : Int)))) rfl (decide_eq_false hc7) ?_
     refine wp_exit <| then_e <| then_e <| inb_e <| then_n <| seq_ <| region_ <| st_val (ex_fa fa53_1 (p := (⟨b8, 0, none⟩ : Addr)) rfl) ?_
     refine st_rn (fun r => ex_load rfl r) h ?_; clear h; intro t54 w h
     refine st_cal en77 rfl h ?_; clear h; intro t55 w h
     refine wl_nil <| then_n <| seq_ <| seq_ <| region_ <| mv (Sl.v t1) rfl ?_
     refine st_cal en54 rfl h ?_; clear h; intro t57 w h
     refine st_val (ex_len (s := t57) Try.underlying22 rfl) <| mv (.int .i64 0) rfl <| wl_nil <| then_n <| wp_block <| wp_lp (σ := Int) (fun s9 a => ∃ j, a = F 72 (upds j [(4, (Ptr (⟨b4, 0, none⟩ : Addr))), (8, (Ptr (⟨b8, 0, none⟩ : Addr))), (57, (Sl.v t57)), (58, (.int .i64 (t57.n : Int))), (59, (.int .i64 s9))])) h (mk_upds (ae rfl (ae rfl (ae rfl (ae rfl (ae rfl ae0)))))) ?_
     clear h; rintro s9 _ w n9 ⟨j, rfl⟩ h
     refine seq_ <| region_ <| st_val (ex_lss (a := s9) (b := (t57.n : Int)) rfl rfl) <| wl_nil <| then_n <| seq_ ?_
     by_cases hc10 : s9 < (t57.n : Int)
     ·rw [if_pos hc10] at h; refine cond_1 (b := (decide (s9 < (t57.n : Int)))) rfl (decide_eq_true hc10) ?_
      refine wp_skip <| then_n <| seq_ <| wp_block <| seq_ <| region_ ?_
      refine st_rnp (fun r => ex_indexAddr rfl rfl r) h ?_; clear h; intro t61 h
      refine st_rn (fun r => ex_load rfl r) h ?_; clear h; intro t62 w h
      refine st_new (f := (fun b => Ptr ⟨b, 0, none⟩)) (ex_allocN zero48 rfl) h ?_; clear h; intro b13 w h
      refine st_rnu (fun r => ex_store rfl rfl r) h ?_; clear h; intro w h
      refine wl_nil <| then_n <| region_ <| st_val (ex_fa fa53_2 (p := (⟨b8, 0, none⟩ : Addr)) rfl) ?_
      refine st_rn (fun r => ex_load rfl r) h ?_; clear h; intro t64 w h
      refine st_val (ex_fa fa48_1 (p := (⟨b13, 0, none⟩ : Addr)) rfl) ?_
      refine st_rn (fun r => ex_load rfl r) h ?_; clear h; intro t66 w h
      refine st_new (f := (fun b => Sl.v ⟨some ⟨b, 0, none⟩, 1, 1⟩)) (ex_buildSlice (a' := [(0, (.string t66))]) rfl (e_buildSlice (cs := ([(.string t66)])) Try.underlying44 info9 iz9 (by decide +kernel) (by decide +kernel) (by kernel_rfl) _)) h ?_; clear h; intro b67 w h
      refine st_rn (fun r => ex_builtin rfl (fun _ => rfl) r) h ?_; clear h; intro t68 w h
      refine st_val (ex_fa fa53_2 (p := (⟨b8, 0, none⟩ : Addr)) rfl) ?_
      refine st_rnu (fun r => ex_store rfl rfl r) h ?_; clear h; intro w h
      refine wl_nil <| inb_n <| then_n <| region_ <| st_val (ex_add (a := s9) (b := 1) rfl rfl) <| mv (.int .i64 (IntKind.i64.wrap (s9 + 1))) rfl <| wl_nil ?_
      exact then_n ⟨(IntKind.i64.wrap (s9 + 1)), mk_upds (ae rfl (ae rfl (ae rfl (ae rfl (ae rfl ae0))))), h⟩
     ·rw [if_neg hc10] at h; refine cond_0 (b := (decide (s9 < (t57.n : Int)))) rfl (decide_eq_false hc10) ?_
      refine wp_exit <| then_e <| then_e <| inb_e <| then_n <| seq_ <| region_ ?_
      refine st_rn (fun r => ex_load rfl r) h ?_; clear h; intro t71 w h
      refine st_rnu (fun r => ex_store rfl rfl r) h ?_; clear h; intro w h
      refine asg (.int .i64 0) rfl <| wl_nil <| then_n <| wp_ret ?_
      obtain ⟨r0_3, hr0_3, h⟩ := h
      refine ret_ct rfl rfl hr0_3 rfl ⟨(r0_3, 0), rfl, h⟩
 ·clear h; intro k1 h
  refine region_ <| mv (.int .i64 t0) rfl <| st_val (ex_lss (a := t0) (b := 1) rfl rfl) <| mv (.bool (decide (t0 < 1))) rfl ?_
  by_cases hc2 : t0 < 1
  ·rw [if_pos hc2] at h
   refine sOff 16 (decide_eq_true hc2) rfl rfl <| sOff 16 (decide_eq_true hc2) rfl rfl <| st_val (ex_pick1 (b := (decide (t0 < 1))) rfl (decide_eq_true hc2) (v := (.bool true)) rfl) <| wl_nil ?_
   exact then_n ⟨true, _, rfl, mk_upds' (ae rfl (ae rfl (ae rfl (ae rfl ae0)))), h⟩
  ·rw [if_neg hc2] at h
   refine sOn 16 (decide_eq_false hc2) rfl rfl <| mv (.int .i64 t0) rfl <| sOn 16 (decide_eq_false hc2) rfl rfl <| st_val (ex_gtr (a := t0) (b := 1048576) rfl rfl) <| st_val (ex_pick0 (b := (decide (t0 < 1))) rfl (decide_eq_false hc2) (v := (.bool (decide (1048576 < t0)))) rfl) <| wl_nil ?_
   exact then_n ⟨(decide (1048576 < t0)), _, rfl, mk_upds' (ae rfl (ae rfl (ae rfl (ae rfl ae0)))), h⟩

def f35 (t0 : Sl) (t1 : ByteArray) (R : (Bool) → World → Prop) (w : World) : Prop :=
 Lp (σ := Int) (fun s1 w n1 =>
  if s1 < (t0.n : Int) then
   RnP Try.prog Ptr (Instr.indexAt 44 (Sl.v t0) (.int .i64 s1)) fun t14 =>
   Rn Try.prog Value.string (Instr.loadAt 9 (Ptr t14)) w fun t15 w =>
   if t15 = t1 then
    R true w
   else
    n1 (IntKind.i64.wrap (s1 + 1)) w
  else
   R false w
 ) 0 w
def f36 (t0 : Int) (t1 : Sl) (R : (TTables × Int) → World → Prop) (w : World) : Prop :=
 New 53 (TTables.cells (⟨0, Sl.nil, Sl.nil⟩ : TTables)) w fun b4 w =>
 Jn (σ := Bool) (fun k1 =>
  if t0 < 1 then
   k1 true w
  else
   k1 (decide (1048576 < t0)) w
 ) fun s1 w =>
  if s1 = true then
   RnU Try.prog (Instr.storeAt 53 (Ptr (⟨b4, 0, none⟩ : Addr)) (TTables.v (⟨0, Sl.nil, Sl.nil⟩ : TTables))) w fun w =>
   RnR Try.prog TTables.v (loadVar 53 (⟨b4, 0, none⟩ : Addr)) w fun r0 =>
   R (r0, 2) w
  else
   Cal Try.prog (fun x : Sl × TFault14 => Value.tuple #[(Sl.v x.1), (TFault14.v x.2)]) 58 #[(Sl.v t1)] w fun t28 w =>
   New 101 (TFault14.cells (⟨0, 0, 0⟩ : TFault14)) w fun b7 w =>
   RnU Try.prog (Instr.storeAt 101 (Ptr (⟨b7, 0, none⟩ : Addr)) (TFault14.v t28.2)) w fun w =>
   Rn Try.prog (Value.int .i64) (Instr.loadAt 3 (Ptr ((⟨b7, 0, none⟩ : Addr).add 2))) w fun t32 w =>
   if t32 ≠ 0 then
    Dr w fun w5 w =>
     RnC Try.prog (fun k => k = b4) (Value.int .i64) (Instr.loadAt 3 (Ptr ((⟨b7, 0, none⟩ : Addr).add 2))) w5 fun t36_1 =>
     RnU Try.prog (Instr.storeAt 53 (Ptr (⟨b4, 0, none⟩ : Addr)) (TTables.v (⟨0, Sl.nil, Sl.nil⟩ : TTables))) w (fun w' => Chg (fun k => k = b4) w5 w' ∧ (fun w =>
      RnR Try.prog TTables.v (loadVar 53 (⟨b4, 0, none⟩ : Addr)) w fun r0_2 =>
      R (r0_2, t36_1) w
     ) w')
   else
    Cal Try.prog Value.pointer 59 #[(Sl.v t1)] w fun t38 w =>
    New 53 (TTables.cells (⟨0, Sl.nil, Sl.nil⟩ : TTables)) w fun b9 w =>
    RnU Try.prog (Instr.storeAt 53 (Ptr (⟨b9, 0, none⟩ : Addr)) (TTables.v (⟨t0, Sl.nil, Sl.nil⟩ : TTables))) w fun w =>
    Lp (σ := Int) (fun s6 w n6 =>
     if s6 < (t1.n : Int) then
      Jn (σ := Unit) (fun k8 =>
       Jn (σ := Unit) (fun k9 =>
        RnP Try.prog Ptr (Instr.indexAt 22 (Sl.v t1) (.int .i64 s6)) fun t49 =>
        Rn Try.prog (Value.int .i64) (Instr.loadAt 3 (Ptr (t49.add 0))) w fun t51 w =>
        if t51 = 1 then
         Dr w fun w11 w =>
          RnL Try.prog Sl.v (Instr.loadAt 44 (Ptr ((⟨b9, 0, none⟩ : Addr).add 2))) w11 fun t54 =>
          RnP Try.prog Ptr (Instr.indexAt 22 (Sl.v t1) (.int .i64 s6)) fun t57 =>
          RnL Try.prog Value.string (Instr.loadAt 9 (Ptr (t57.add 1))) w11 fun t59 =>
          New 9 ([(.string t59)]) w fun b60 w =>
          Rn Try.prog Sl.v (Builtin.append_ #[44, 44] 44 #[(Sl.v t54), (Sl.v (⟨some ⟨b60, 0, none⟩, 1, 1⟩ : Sl))]) w fun t61 w =>
          RnU Try.prog (Instr.storeAt 44 (Ptr ((⟨b9, 0, none⟩ : Addr).add 2)) (Sl.v t61)) w fun w =>
          k9 () w
        else
         k9 () w
       ) fun s9 w =>
        RnP Try.prog Ptr (Instr.indexAt 22 (Sl.v t1) (.int .i64 s6)) fun t65 =>
        Rn Try.prog (Value.int .i64) (Instr.loadAt 3 (Ptr (t65.add 0))) w fun t67 w =>
        if t67 ≠ 3 then
         k8 () w
        else
         Dr w fun w13 w =>
          RnP Try.prog Ptr (Instr.indexAt 22 (Sl.v t1) (.int .i64 s6)) fun t71 =>
          RnL Try.prog Value.string (Instr.loadAt 9 (Ptr (t71.add 4))) w13 fun t73 =>
          RnP Try.prog Ptr (Instr.indexAt 22 (Sl.v t1) (.int .i64 s6)) fun t76 =>
          RnL Try.prog Value.string (Instr.loadAt 9 (Ptr (t76.add 1))) w13 fun t78 =>
          New 59 (THost.cells (⟨⟨#[]⟩, ⟨#[]⟩, Sl.nil, Sl.nil⟩ : THost)) w fun b11 w =>
          RnU Try.prog (Instr.storeAt 59 (Ptr (⟨b11, 0, none⟩ : Addr)) (THost.v (⟨t73, t78, Sl.nil, Sl.nil⟩ : THost))) w fun w =>
          Lp (σ := Int) (fun s14 w n14 =>
           RnP Try.prog Ptr (Instr.indexAt 22 (Sl.v t1) (.int .i64 s6)) fun t83 =>
           Rn Try.prog Sl.v (Instr.loadAt 46 (Ptr (t83.add 5))) w fun t85 w =>
           if s14 < (t85.n : Int) then
            RnP Try.prog Ptr (Instr.indexAt 22 (Sl.v t1) (.int .i64 s6)) fun t92 =>
            Rn Try.prog Sl.v (Instr.loadAt 46 (Ptr (t92.add 5))) w fun t94 w =>
            RnP Try.prog Ptr (Instr.indexAt 46 (Sl.v t94) (.int .i64 s14)) fun t96 =>
            Rn Try.prog TRule.v (Instr.loadAt 91 (Ptr t96)) w fun t97 w =>
            New 91 (TRule.cells (⟨⟨#[]⟩, ⟨#[]⟩, ⟨#[]⟩, false⟩ : TRule)) w fun b13 w =>
            RnU Try.prog (Instr.storeAt 91 (Ptr (⟨b13, 0, none⟩ : Addr)) (TRule.v t97)) w fun w =>
            Dr w fun w16 w =>
             RnL Try.prog Sl.v (Instr.loadAt 56 (Ptr ((⟨b11, 0, none⟩ : Addr).add 2))) w16 fun t99 =>
             RnL Try.prog Value.string (Instr.loadAt 9 (Ptr ((⟨b13, 0, none⟩ : Addr).add 0))) w16 fun t101 =>
             RnL Try.prog Value.string (Instr.loadAt 9 (Ptr ((⟨b13, 0, none⟩ : Addr).add 1))) w16 fun t103 =>
             NotNil t38 fun t105 =>
             RnL Try.prog Sl.v (Instr.loadAt 107 (Ptr (t105.add 1))) w16 fun t107 =>
             RnL Try.prog Value.string (Instr.loadAt 9 (Ptr ((⟨b13, 0, none⟩ : Addr).add 2))) w16 fun t110 =>
             Cal Try.prog (Value.int .i64) 60 #[(.pointer t38), (.string t110)] w (ExtK w16 fun t111 w =>
              RnP Try.prog Ptr (Instr.indexAt 107 (Sl.v t107) (.int .i64 t111)) fun t112 =>
              Rn Try.prog Sl.v (Instr.loadAt 23 (Ptr t112)) w (ExtK w16 fun t113 w =>
               Cal Try.prog Sl.v 22 #[(Sl.v t113)] w (ExtK w16 fun t114 w =>
                New 61 ((TEntry.cells (⟨t101, t103, t114⟩ : TEntry))) w fun b116 w =>
                Rn Try.prog Sl.v (Builtin.append_ #[56, 56] 56 #[(Sl.v t99), (Sl.v (⟨some ⟨b116, 0, none⟩, 1, 1⟩ : Sl))]) w fun t117 w =>
                RnU Try.prog (Instr.storeAt 56 (Ptr ((⟨b11, 0, none⟩ : Addr).add 2)) (Sl.v t117)) w fun w =>
                n14 (IntKind.i64.wrap (s14 + 1)) w
               )
              )
             )
           else
            Lp (σ := Int) (fun s17 w n17 =>
             if s17 < (t1.n : Int) then
              Lp (σ := Int) (fun s19 w n19 =>
               Jn (σ := Bool) (fun k20 =>
                Dr w fun w21 w =>
                 RnP Try.prog Ptr (Instr.indexAt 22 (Sl.v t1) (.int .i64 s17)) fun t127 =>
                 RnL Try.prog (Value.int .i64) (Instr.loadAt 3 (Ptr (t127.add 0))) w21 fun t129 =>
                 if t129 = 4 then
                  RnP Try.prog Ptr (Instr.indexAt 22 (Sl.v t1) (.int .i64 s17)) fun t134 =>
                  RnL Try.prog Value.string (Instr.loadAt 9 (Ptr (t134.add 6))) w21 fun t136 =>
                  RnP Try.prog Ptr (Instr.indexAt 22 (Sl.v t1) (.int .i64 s6)) fun t139 =>
                  RnL Try.prog Value.string (Instr.loadAt 9 (Ptr (t139.add 1))) w21 fun t141 =>
                  if t136 = t141 then
                   RnP Try.prog Ptr (Instr.indexAt 22 (Sl.v t1) (.int .i64 s17)) fun t148 =>
                   RnL Try.prog Sl.v (Instr.loadAt 46 (Ptr (t148.add 5))) w21 fun t150 =>
                   k20 (decide (s19 < (t150.n : Int))) w
                  else
                   k20 false w
                 else
                  k20 false w
               ) fun s20 w =>
                if s20 = true then
                 RnP Try.prog Ptr (Instr.indexAt 22 (Sl.v t1) (.int .i64 s17)) fun t158 =>
                 Rn Try.prog Sl.v (Instr.loadAt 46 (Ptr (t158.add 5))) w fun t160 w =>
                 RnP Try.prog Ptr (Instr.indexAt 46 (Sl.v t160) (.int .i64 s19)) fun t162 =>
                 Rn Try.prog TRule.v (Instr.loadAt 91 (Ptr t162)) w fun t163 w =>
                 New 91 (TRule.cells (⟨⟨#[]⟩, ⟨#[]⟩, ⟨#[]⟩, false⟩ : TRule)) w fun b16 w =>
                 RnU Try.prog (Instr.storeAt 91 (Ptr (⟨b16, 0, none⟩ : Addr)) (TRule.v t163)) w fun w =>
                 Rn Try.prog Sl.v (Instr.loadAt 57 (Ptr ((⟨b11, 0, none⟩ : Addr).add 3))) w fun t165 w =>
                 Rn Try.prog Value.string (Instr.loadAt 9 (Ptr ((⟨b16, 0, none⟩ : Addr).add 0))) w fun t167 w =>
                 Rn Try.prog Value.string (Instr.loadAt 9 (Ptr ((⟨b16, 0, none⟩ : Addr).add 1))) w fun t169 w =>
                 Rn Try.prog Value.bool (Instr.loadAt 4 (Ptr ((⟨b16, 0, none⟩ : Addr).add 3))) w fun t171 w =>
                 New 89 ((TPermit.cells (⟨t167, t169, t171⟩ : TPermit))) w fun b173 w =>
                 Rn Try.prog Sl.v (Builtin.append_ #[57, 57] 57 #[(Sl.v t165), (Sl.v (⟨some ⟨b173, 0, none⟩, 1, 1⟩ : Sl))]) w fun t174 w =>
                 RnU Try.prog (Instr.storeAt 57 (Ptr ((⟨b11, 0, none⟩ : Addr).add 3)) (Sl.v t174)) w fun w =>
                 n19 (IntKind.i64.wrap (s19 + 1)) w
                else
                 n17 (IntKind.i64.wrap (s17 + 1)) w
              ) 0 w
             else
              Rn Try.prog Sl.v (Instr.loadAt 51 (Ptr ((⟨b9, 0, none⟩ : Addr).add 1))) w fun t177 w =>
              Lp (σ := Int) (fun s25 w n25 =>
               Jn (σ := Bool) (fun k26 =>
                Dr w fun w27 w =>
                 if 0 < s25 then
                  RnL Try.prog Sl.v (Instr.loadAt 51 (Ptr ((⟨b9, 0, none⟩ : Addr).add 1))) w27 fun t183 =>
                  RnP Try.prog Ptr (Instr.indexAt 51 (Sl.v t183) (.int .i64 (IntKind.i64.wrap (s25 - 1)))) fun t186 =>
                  RnL Try.prog Value.string (Instr.loadAt 9 (Ptr (t186.add 0))) w27 fun t188 =>
                  RnL Try.prog Value.string (Instr.loadAt 9 (Ptr ((⟨b11, 0, none⟩ : Addr).add 0))) w27 fun t190 =>
                  Cal Try.prog (Value.int .i64) 79 #[(.string t188), (.string t190)] w fun t191 w =>
                  k26 (decide (0 < t191)) w
                 else
                  k26 false w
               ) fun s26 w =>
                if s26 = true then
                 n25 (IntKind.i64.wrap (s25 - 1)) w
                else
                 Rn Try.prog Sl.v (Instr.loadAt 51 (Ptr ((⟨b9, 0, none⟩ : Addr).add 1))) w fun t198 w =>
                 RnP Try.prog Sl.v (Instr.sliceAt 51 (Sl.v t198) none (some (.int .i64 s25)) none) fun t200 =>
                 Rn Try.prog Sl.v (Builtin.append_ #[51, 51] 51 #[(Sl.v Sl.nil), (Sl.v t200)]) w fun t201 w =>
                 Rn Try.prog THost.v (Instr.loadAt 59 (Ptr (⟨b11, 0, none⟩ : Addr))) w fun t203 w =>
                 New 59 ((THost.cells t203)) w fun b204 w =>
                 Rn Try.prog Sl.v (Builtin.append_ #[51, 51] 51 #[(Sl.v t201), (Sl.v (⟨some ⟨b204, 0, none⟩, 1, 1⟩ : Sl))]) w fun t205 w =>
                 Rn Try.prog Sl.v (Instr.loadAt 51 (Ptr ((⟨b9, 0, none⟩ : Addr).add 1))) w fun t208 w =>
                 RnP Try.prog Sl.v (Instr.sliceAt 51 (Sl.v t208) (some (.int .i64 s25)) none none) fun t210 =>
                 Rn Try.prog Sl.v (Builtin.append_ #[51, 51] 51 #[(Sl.v t205), (Sl.v t210)]) w fun t211 w =>
                 RnU Try.prog (Instr.storeAt 51 (Ptr ((⟨b9, 0, none⟩ : Addr).add 1)) (Sl.v t211)) w fun w =>
                 k8 () w
              ) (t177.n : Int) w
            ) 0 w
          ) 0 w
      ) fun s8 w =>
       n6 (IntKind.i64.wrap (s6 + 1)) w
     else
      Rn Try.prog TTables.v (Instr.loadAt 53 (Ptr (⟨b9, 0, none⟩ : Addr))) w fun t213 w =>
      RnU Try.prog (Instr.storeAt 53 (Ptr (⟨b4, 0, none⟩ : Addr)) (TTables.v t213)) w fun w =>
      RnR Try.prog TTables.v (loadVar 53 (⟨b4, 0, none⟩ : Addr)) w fun r0_3 =>
      R (r0_3, 0) w
    ) 0 w
def f37 (t0 : TTables) (t1 : TTables) (R : (Bool) → World → Prop) (w : World) : Prop :=
 New 53 (TTables.cells t0) w fun b2 w =>
 New 53 (TTables.cells t1) w fun b3 w =>
 Jn (σ := Bool) (fun k1 =>
  Rn Try.prog (Value.int .i64) (Instr.loadAt 3 (Ptr ((⟨b2, 0, none⟩ : Addr).add 0))) w fun t8 w =>
  Rn Try.prog (Value.int .i64) (Instr.loadAt 3 (Ptr ((⟨b3, 0, none⟩ : Addr).add 0))) w fun t10 w =>
  if t8 ≠ t10 then
   k1 true w
  else
   Rn Try.prog Sl.v (Instr.loadAt 51 (Ptr ((⟨b2, 0, none⟩ : Addr).add 1))) w fun t14 w =>
   Rn Try.prog Sl.v (Instr.loadAt 51 (Ptr ((⟨b3, 0, none⟩ : Addr).add 1))) w fun t17 w =>
   if (t14.n : Int) ≠ (t17.n : Int) then
    k1 true w
   else
    Rn Try.prog Sl.v (Instr.loadAt 44 (Ptr ((⟨b2, 0, none⟩ : Addr).add 2))) w fun t23 w =>
    Rn Try.prog Sl.v (Instr.loadAt 44 (Ptr ((⟨b3, 0, none⟩ : Addr).add 2))) w fun t25 w =>
    Cal Try.prog Value.bool 80 #[(Sl.v t23), (Sl.v t25)] w fun t26 w =>
    k1 (!t26) w
 ) fun s1 w =>
  if s1 = true then
   R false w
  else
   Lp (σ := Int) (fun s5 w n5 =>
    Rn Try.prog Sl.v (Instr.loadAt 51 (Ptr ((⟨b2, 0, none⟩ : Addr).add 1))) w fun t31 w =>
    if s5 < (t31.n : Int) then
     Dr w fun w7 w =>
      RnL Try.prog Sl.v (Instr.loadAt 51 (Ptr ((⟨b2, 0, none⟩ : Addr).add 1))) w7 fun t37 =>
      RnP Try.prog Ptr (Instr.indexAt 51 (Sl.v t37) (.int .i64 s5)) fun t39 =>
      RnL Try.prog THost.v (Instr.loadAt 59 (Ptr t39)) w7 fun t40 =>
      RnL Try.prog Sl.v (Instr.loadAt 51 (Ptr ((⟨b3, 0, none⟩ : Addr).add 1))) w7 fun t42 =>
      RnP Try.prog Ptr (Instr.indexAt 51 (Sl.v t42) (.int .i64 s5)) fun t44 =>
      RnL Try.prog THost.v (Instr.loadAt 59 (Ptr t44)) w7 fun t45 =>
      Cal Try.prog Value.bool 81 #[(THost.v t40), (THost.v t45)] w fun t46 w =>
      if (!t46) = true then
       R false w
      else
       n5 (IntKind.i64.wrap (s5 + 1)) w
    else
     R true w
   ) 0 w
end Go.Proofs.Ytdoeegfcmbcbkaa.Tr


namespace Go.Proofs.Ytdoeegfcmbcbkaa.Tr
open Go Go.Eng
set_option linter.unusedVariables false
set_option maxRecDepth 100000
set_option maxHeartbeats 4000000
def f38 (t0 : TTables) (R : (TTables) → World → Prop) (w : World) : Prop :=
 New 53 (TTables.cells t0) w fun b1 w =>
 New 53 (TTables.cells (⟨0, Sl.nil, Sl.nil⟩ : TTables)) w fun b2 w =>
 Rn Try.prog Sl.v (Instr.loadAt 44 (Ptr ((⟨b1, 0, none⟩ : Addr).add 2))) w fun t7 w =>
 Cal Try.prog Sl.v 82 #[(Sl.v t7)] w fun t8 w =>
 RnU Try.prog (Instr.storeAt 44 (Ptr ((⟨b1, 0, none⟩ : Addr).add 2)) (Sl.v t8)) w fun w =>
 Rn Try.prog Sl.v (Instr.loadAt 51 (Ptr ((⟨b1, 0, none⟩ : Addr).add 1))) w fun t11 w =>
 Cal Try.prog Sl.v 83 #[(Sl.v t11)] w fun t12 w =>
 RnU Try.prog (Instr.storeAt 51 (Ptr ((⟨b1, 0, none⟩ : Addr).add 1)) (Sl.v t12)) w fun w =>
 Rn Try.prog Sl.v (Instr.loadAt 51 (Ptr ((⟨b1, 0, none⟩ : Addr).add 1))) w fun t15 w =>
 Lp (σ := Int) (fun s1 w n1 =>
  if s1 < (t15.n : Int) then
   Rn Try.prog Sl.v (Instr.loadAt 51 (Ptr ((⟨b1, 0, none⟩ : Addr).add 1))) w fun t21 w =>
   RnP Try.prog Ptr (Instr.indexAt 51 (Sl.v t21) (.int .i64 s1)) fun t23 =>
   Rn Try.prog Sl.v (Instr.loadAt 57 (Ptr (t23.add 3))) w fun t28 w =>
   Cal Try.prog Sl.v 84 #[(Sl.v t28)] w fun t29 w =>
   RnU Try.prog (Instr.storeAt 57 (Ptr (t23.add 3)) (Sl.v t29)) w fun w =>
   Rn Try.prog Sl.v (Instr.loadAt 56 (Ptr (t23.add 2))) w fun t36 w =>
   Cal Try.prog Sl.v 85 #[(Sl.v t36)] w fun t37 w =>
   RnU Try.prog (Instr.storeAt 56 (Ptr (t23.add 2)) (Sl.v t37)) w fun w =>
   Rn Try.prog Sl.v (Instr.loadAt 56 (Ptr (t23.add 2))) w fun t43 w =>
   Lp (σ := Int) (fun s3 w n3 =>
    if s3 < (t43.n : Int) then
     Dr w fun w5 w =>
      RnL Try.prog Sl.v (Instr.loadAt 56 (Ptr (t23.add 2))) w5 fun t51 =>
      RnL Try.prog Sl.v (Instr.loadAt 56 (Ptr (t23.add 2))) w5 fun t56 =>
      RnP Try.prog Ptr (Instr.indexAt 56 (Sl.v t56) (.int .i64 s3)) fun t58 =>
      RnL Try.prog Sl.v (Instr.loadAt 23 (Ptr (t58.add 2))) w5 fun t60 =>
      Cal Try.prog Sl.v 56 #[(Sl.v t60)] w (ExtK w5 fun t61 w =>
       RnP Try.prog Ptr (Instr.indexAt 56 (Sl.v t51) (.int .i64 s3)) fun t62 =>
       RnU Try.prog (Instr.storeAt 23 (Ptr (t62.add 2)) (Sl.v t61)) w fun w =>
       n3 (IntKind.i64.wrap (s3 + 1)) w
      )
    else
     n1 (IntKind.i64.wrap (s1 + 1)) w
   ) 0 w
  else
   Rn Try.prog TTables.v (Instr.loadAt 53 (Ptr (⟨b1, 0, none⟩ : Addr))) w fun t66 w =>
   RnU Try.prog (Instr.storeAt 53 (Ptr (⟨b2, 0, none⟩ : Addr)) (TTables.v t66)) w fun w =>
   RnR Try.prog TTables.v (loadVar 53 (⟨b2, 0, none⟩ : Addr)) w fun r0 =>
   R r0 w
 ) 0 w
def f39 (t0 : Sl) (R : (Unit) → World → Prop) (w : World) : Prop :=
 Lp (σ := Int) (fun s1 w n1 =>
  if s1 < (t0.n : Int) then
   Lp (σ := Int) (fun s3 w n3 =>
    RnP Try.prog Ptr (Instr.indexAt 22 (Sl.v t0) (.int .i64 s1)) fun t14 =>
    Rn Try.prog Sl.v (Instr.loadAt 45 (Ptr (t14.add 3))) w fun t16 w =>
    if s3 < (t16.n : Int) then
     RnP Try.prog Ptr (Instr.indexAt 22 (Sl.v t0) (.int .i64 s1)) fun t23 =>
     Rn Try.prog Sl.v (Instr.loadAt 45 (Ptr (t23.add 3))) w fun t25 w =>
     RnP Try.prog Ptr (Instr.indexAt 45 (Sl.v t25) (.int .i64 s3)) fun t28 =>
     RnU Try.prog (Instr.storeAt 84 (Ptr t28) (TTarget.v (⟨(⟨#[103, 111, 110, 101]⟩ : ByteArray), ⟨#[]⟩, 0⟩ : TTarget))) w fun w =>
     n3 (IntKind.i64.wrap (s3 + 1)) w
    else
     Lp (σ := Int) (fun s5 w n5 =>
      RnP Try.prog Ptr (Instr.indexAt 22 (Sl.v t0) (.int .i64 s1)) fun t32 =>
      Rn Try.prog Sl.v (Instr.loadAt 46 (Ptr (t32.add 5))) w fun t34 w =>
      if s5 < (t34.n : Int) then
       RnP Try.prog Ptr (Instr.indexAt 22 (Sl.v t0) (.int .i64 s1)) fun t41 =>
       Rn Try.prog Sl.v (Instr.loadAt 46 (Ptr (t41.add 5))) w fun t43 w =>
       RnP Try.prog Ptr (Instr.indexAt 46 (Sl.v t43) (.int .i64 s5)) fun t46 =>
       RnU Try.prog (Instr.storeAt 91 (Ptr t46) (TRule.v (⟨(⟨#[103, 111, 110, 101]⟩ : ByteArray), ⟨#[]⟩, ⟨#[]⟩, false⟩ : TRule))) w fun w =>
       n5 (IntKind.i64.wrap (s5 + 1)) w
      else
       RnP Try.prog Ptr (Instr.indexAt 22 (Sl.v t0) (.int .i64 s1)) fun t50 =>
       RnU Try.prog (Instr.storeAt 48 (Ptr t50) (TResource.v (⟨(-9), ⟨#[]⟩, Sl.nil, Sl.nil, ⟨#[]⟩, Sl.nil, ⟨#[]⟩, false⟩ : TResource))) w fun w =>
       n1 (IntKind.i64.wrap (s1 + 1)) w
     ) 0 w
   ) 0 w
  else
   R () w
 ) 0 w
def f40 (t0 : ByteArray) (t1 : ByteArray) (R : (Int) → World → Prop) (w : World) : Prop :=
 Cal Try.prog (fun x : Int × ByteArray => Value.tuple #[(.int .i64 x.1), (.string x.2)]) 86 #[(.string t0)] w fun t12 w =>
 Cal Try.prog (fun x : Int × ByteArray => Value.tuple #[(.int .i64 x.1), (.string x.2)]) 86 #[(.string t1)] w fun t17 w =>
 Jn (σ := Int) (fun k1 =>
  if t12.1 = 1 then
   Cal Try.prog (Value.int .i64) 87 #[(.int .i64 (t17.2.size : Int)), (.int .i64 (t12.2.size : Int))] w fun t26 w =>
   k1 t26 w
  else
   k1 0 w
 ) fun s1 w =>
  Jn (σ := Int) (fun k3 =>
   if t12.1 ≠ t17.1 then
    k3 0 w
   else
    k3 s1 w
  ) fun s3 w =>
   Cal Try.prog (Value.int .i64) 87 #[(.int .i64 t12.1), (.int .i64 t17.1)] w fun t32 w =>
   Cal Try.prog (Value.int .i64) 89 #[(.string t12.2), (.string t17.2)] w fun t36 w =>
   New 3 ([(.int .i64 t32)] ++ [(.int .i64 s3)] ++ [(.int .i64 t36)]) w fun b37 w =>
   Cal Try.prog (Value.int .i64) 88 #[(Sl.v (⟨some ⟨b37, 0, none⟩, 3, 3⟩ : Sl))] w fun t38 w =>
   R t38 w
theorem c40 {t0 : ByteArray} {t1 : ByteArray} {R : (Int) → World → Prop} {w : World} (h : f40 t0 t1 R w) :
  Cal Try.prog (Value.int .i64) 40 #[(.string t0), (.string t1)] w R := by
 unfold f40 at h
 refine calls_ Try.func40 Try.ntmps40 rfl rfl <| seq_ <| region_ <| asg (.int .i64 0) rfl <| wl_nil <| then_n <| seq_ <| region_ <| mv (.string t0) rfl ?_
 refine st_cal en86 rfl h ?_; clear h; intro t12 w h
 refine mv (.tuple #[(.int .i64 t12.1), (.string t12.2)]) rfl <| st_val (ex_extract (u := (.tuple #[(.int .i64 t12.1), (.string t12.2)])) rfl (v := (.int .i64 t12.1)) rfl) <| st_val (ex_extract (u := (.tuple #[(.int .i64 t12.1), (.string t12.2)])) rfl (v := (.string t12.2)) rfl) <| asg (.int .i64 t12.1) rfl <| asg (.string t12.2) rfl <| wl_nil <| then_n <| seq_ <| region_ <| mv (.string t1) rfl ?_
 refine st_cal en86 rfl h ?_; clear h; intro t17 w h
 refine mv (.tuple #[(.int .i64 t17.1), (.string t17.2)]) rfl <| st_val (ex_extract (u := (.tuple #[(.int .i64 t17.1), (.string t17.2)])) rfl (v := (.int .i64 t17.1)) rfl) <| st_val (ex_extract (u := (.tuple #[(.int .i64 t17.1), (.string t17.2)])) rfl (v := (.string t17.2)) rfl) <| asg (.int .i64 t17.1) rfl <| asg (.string t17.2) rfl <| wl_nil <| then_n <| seq_ <| region_ <| asg (.int .i64 0) rfl ?_
 refine wl_nil <| then_n ?_
 refine wp_jn (σ := Int) (fun s1 l => ∃ j, l = upds j [(5, (.int .i64 t12.1)), (6, (.string t12.2)), (7, (.int .i64 t17.1)), (8, (.string t17.2)), (9, (.int .i64 s1))]) h ?_ ?_
 ·clear h; rintro s1 _ w ⟨j, rfl⟩ h
  refine wp_jn (σ := Int) (fun s3 l => ∃ j, l = upds j [(5, (.int .i64 t12.1)), (6, (.string t12.2)), (7, (.int .i64 t17.1)), (8, (.string t17.2)), (9, (.int .i64 s3))]) h ?_ ?_
  ·clear h; rintro s3 _ w ⟨j, rfl⟩ h
   refine seq_ <| region_ <| mv (.int .i64 t12.1) rfl <| mv (.int .i64 t17.1) rfl ?_
   refine st_cal en87 rfl h ?_; clear h; intro t32 w h
   refine mv (.int .i64 s3) rfl <| mv (.string t12.2) rfl <| mv (.string t17.2) rfl ?_
   refine st_cal en89 rfl h ?_; clear h; intro t36 w h
   refine st_new (f := (fun b => Sl.v ⟨some ⟨b, 0, none⟩, 3, 3⟩)) (ex_buildSlice (a' := [(0, (.int .i64 t32)), (1, (.int .i64 s3)), (2, (.int .i64 t36))]) rfl (e_buildSlice (cs := ([(.int .i64 t32)] ++ [(.int .i64 s3)] ++ [(.int .i64 t36)])) Try.underlying77 info3 iz3 (by decide +kernel) (by decide +kernel) (by kernel_rfl) _)) h ?_; clear h; intro b37 w h
   refine st_cal en88 rfl h ?_; clear h; intro t38 w h
   refine asg (.int .i64 t38) rfl <| wl_nil <| then_n <| wp_ret ?_
   refine ret_1 rfl rfl ⟨t38, rfl, h⟩
  ·clear h; intro k3 h
   refine seq_ <| region_ <| mv (.int .i64 t12.1) rfl <| mv (.int .i64 t17.1) rfl <| st_val (ex_neq (a := t12.1) (b := t17.1) rfl rfl) <| wl_nil <| then_n ?_
   by_cases hc4 : t12.1 ≠ t17.1
   ·rw [if_pos hc4] at h; refine cond_1 (b := (decide (t12.1 ≠ t17.1))) rfl (decide_eq_true hc4) ?_
    refine region_ <| asg (.int .i64 0) rfl <| wl_nil ?_
    exact then_n ⟨0, _, rfl, mk_upds' (ae rfl (ae rfl (ae rfl (ae rfl (ae rfl ae0))))), h⟩
   ·rw [if_neg hc4] at h; refine cond_0 (b := (decide (t12.1 ≠ t17.1))) rfl (decide_eq_false hc4) ?_
    refine wp_skip ?_
    exact then_n ⟨s1, _, rfl, mk_upds' (ae rfl (ae rfl (ae rfl (ae rfl (ae rfl ae0))))), h⟩
 ·clear h; intro k1 h
  refine seq_ <| region_ <| mv (.int .i64 t12.1) rfl <| st_val (ex_eql (a := t12.1) (b := 1) rfl rfl) <| wl_nil <| then_n ?_
  by_cases hc2 : t12.1 = 1
  ·rw [if_pos hc2] at h; refine cond_1 (b := (decide (t12.1 = 1))) rfl (decide_eq_true hc2) ?_
   refine region_ <| mv (.string t17.2) rfl <| st_val (ex_lenS (s := t17.2) Try.underlying9 rfl) <| mv (.string t12.2) rfl <| st_val (ex_lenS (s := t12.2) Try.underlying9 rfl) ?_
   refine st_cal en87 rfl h ?_; clear h; intro t26 w h
   refine asg (.int .i64 t26) rfl <| wl_nil ?_
   exact then_n ⟨t26, _, rfl, mk_upds' (ae rfl (ae rfl (ae rfl (ae rfl (ae rfl ae0))))), h⟩
  ·rw [if_neg hc2] at h; refine cond_0 (b := (decide (t12.1 = 1))) rfl (decide_eq_false hc2) ?_
   refine wp_skip ?_
   exact then_n ⟨0, _, rfl, mk_upds' (ae rfl (ae rfl (ae rfl (ae rfl (ae rfl ae0))))), h⟩

def f41 (t0 : TTables) (t1 : ByteArray) (R : (Int × Bool) → World → Prop) (w : World) : Prop :=
 New 53 (TTables.cells t0) w fun b2 w =>
 New 9 [(.string t1)] w fun b3 w =>
 Rn Try.prog Sl.v (Instr.loadAt 51 (Ptr ((⟨b2, 0, none⟩ : Addr).add 1))) w fun t8 w =>
 Cal Try.prog (Value.int .i64) 90 #[(Sl.v t8), (Value.func (.func 91) #[] #[(Ptr (⟨b3, 0, none⟩ : Addr))])] w fun t10 w =>
 R ((max t10 0), (decide (0 ≤ t10))) w
theorem c41 {t0 : TTables} {t1 : ByteArray} {R : (Int × Bool) → World → Prop} {w : World} (h : f41 t0 t1 R w) :
  Cal Try.prog (fun x : Int × Bool => Value.tuple #[(.int .i64 x.1), (.bool x.2)]) 41 #[(TTables.v t0), (.string t1)] w R := by
 unfold f41 at h
 refine calls_ Try.func41 Try.ntmps41 rfl rfl <| seq_ <| region_ ?_
 refine st_new (f := (fun b => Ptr ⟨b, 0, none⟩)) (ex_boxN rfl rfl) h ?_; clear h; intro b2 w h
 refine st_new (f := (fun b => Ptr ⟨b, 0, none⟩)) (ex_boxN rfl rfl) h ?_; clear h; intro b3 w h
 refine asg (.int .i64 0) rfl <| asg (.bool false) rfl <| wl_nil <| then_n <| seq_ <| region_ <| st_val (ex_fa fa53_1 (p := (⟨b2, 0, none⟩ : Addr)) rfl) ?_
 refine st_rn (fun r => ex_load rfl r) h ?_; clear h; intro t8 w h
 refine st_val (ex_makeFunc rfl rfl) ?_
 refine st_cal en90 rfl h ?_; clear h; intro t10 w h
 refine asg (.int .i64 t10) rfl <| wl_nil <| then_n <| seq_ <| region_ <| mv (.int .i64 t10) rfl <| st_val (ex_max (a := t10) (b := 0) rfl rfl) <| mv (.int .i64 t10) rfl <| st_val (ex_geq (a := t10) (b := 0) rfl rfl) <| asg (.int .i64 (max t10 0)) rfl ?_
 refine asg (.bool (decide (0 ≤ t10))) rfl <| wl_nil <| then_n <| wp_ret ?_
 refine ret_2 rfl rfl rfl ⟨((max t10 0), (decide (0 ≤ t10))), rfl, h⟩

def f42 (t0 : Sl) (t1 : ByteArray) (R : (Int × Bool) → World → Prop) (w : World) : Prop :=
 Lp (σ := Int × Bool × Int) (fun s1 w n1 =>
  if s1.2.2 < (t0.n : Int) then
   Jn (σ := Int × Bool) (fun k3 =>
    RnP Try.prog Ptr (Instr.indexAt 44 (Sl.v t0) (.int .i64 s1.2.2)) fun t15 =>
    Rn Try.prog Value.string (Instr.loadAt 9 (Ptr t15)) w fun t16 w =>
    Jn (σ := Bool) (fun k4 =>
     Cal Try.prog Value.bool 92 #[(.string t16), (.string t1)] w fun t19 w =>
     if t19 = true then
      if (!s1.2.1) = true then
       k4 true w
      else
       RnP Try.prog Ptr (Instr.indexAt 44 (Sl.v t0) (.int .i64 s1.1)) fun t27 =>
       Rn Try.prog Value.string (Instr.loadAt 9 (Ptr t27)) w fun t28 w =>
       Cal Try.prog (Value.int .i64) 40 #[(.string t16), (.string t28)] w fun t29 w =>
       k4 (decide (t29 < 0)) w
     else
      k4 false w
    ) fun s4 w =>
     if s4 = true then
      k3 (s1.2.2, true) w
     else
      k3 (s1.1, s1.2.1) w
   ) fun s3 w =>
    n1 (s3.1, s3.2, (IntKind.i64.wrap (s1.2.2 + 1))) w
  else
   R (s1.1, s1.2.1) w
 ) (0, false, 0) w
theorem c42 {t0 : Sl} {t1 : ByteArray} {R : (Int × Bool) → World → Prop} {w : World} (h : f42 t0 t1 R w) :
  Cal Try.prog (fun x : Int × Bool => Value.tuple #[(.int .i64 x.1), (.bool x.2)]) 42 #[(Sl.v t0), (.string t1)] w R := by
 unfold f42 at h
 refine calls_ Try.func42 Try.ntmps42 rfl rfl <| seq_ <| region_ <| asg (.int .i64 0) rfl <| asg (.bool false) rfl <| wl_nil <| then_n <| seq_ <| region_ <| asg (.int .i64 0) rfl ?_
 refine asg (.bool false) rfl <| wl_nil <| then_n <| seq_ <| seq_ <| region_ <| mv (Sl.v t0) rfl <| st_val (ex_len (s := t0) Try.underlying44 rfl) <| mv (.int .i64 0) rfl <| wl_nil ?_
 refine then_n <| wp_block <| wp_lp (σ := Int × Bool × Int) (fun s1 a => ∃ j, a = F 37 (upds j [(0, (Sl.v t0)), (1, (.string t1)), (6, (.int .i64 s1.1)), (7, (.bool s1.2.1)), (10, (Sl.v t0)), (11, (.int .i64 (t0.n : Int))), (12, (.int .i64 s1.2.2))])) h (mk_upds (ae rfl (ae rfl (ae rfl (ae rfl (ae rfl (ae rfl (ae rfl ae0)))))))) ?_
 clear h; rintro s1 _ w n1 ⟨j, rfl⟩ h
 refine seq_ <| region_ <| st_val (ex_lss (a := s1.2.2) (b := (t0.n : Int)) rfl rfl) <| wl_nil <| then_n <| seq_ ?_
 by_cases hc2 : s1.2.2 < (t0.n : Int)
 ·rw [if_pos hc2] at h; refine cond_1 (b := (decide (s1.2.2 < (t0.n : Int)))) rfl (decide_eq_true hc2) ?_
  refine wp_skip <| then_n ?_
  refine wp_jn (σ := Int × Bool) (fun s3 l => ∃ j, l = upds j [(0, (Sl.v t0)), (1, (.string t1)), (6, (.int .i64 s3.1)), (7, (.bool s3.2)), (10, (Sl.v t0)), (11, (.int .i64 (t0.n : Int))), (12, (.int .i64 s1.2.2))]) h ?_ ?_
  ·clear h; rintro s3 _ w ⟨j, rfl⟩ h
   refine region_ <| st_val (ex_add (a := s1.2.2) (b := 1) rfl rfl) <| mv (.int .i64 (IntKind.i64.wrap (s1.2.2 + 1))) rfl <| wl_nil ?_
   exact then_n ⟨(s3.1, s3.2, (IntKind.i64.wrap (s1.2.2 + 1))), mk_upds (ae rfl (ae rfl (ae rfl (ae rfl (ae rfl (ae rfl (ae rfl ae0))))))), h⟩
  ·clear h; intro k3 h
   refine wp_block <| seq_ <| region_ <| mv (.int .i64 s1.2.2) rfl ?_
   refine st_rnp (fun r => ex_indexAddr rfl rfl r) h ?_; clear h; intro t15 h
   refine st_rn (fun r => ex_load rfl r) h ?_; clear h; intro t16 w h
   refine asg (.int .i64 s1.2.2) rfl <| asg (.string t16) rfl <| wl_nil <| then_n ?_
   refine wp_jn (σ := Bool) (fun s4 l => ∃ j, l = upds j [(0, (Sl.v t0)), (1, (.string t1)), (6, (.int .i64 s1.1)), (7, (.bool s1.2.1)), (8, (.int .i64 s1.2.2)), (10, (Sl.v t0)), (11, (.int .i64 (t0.n : Int))), (12, (.int .i64 s1.2.2)), (32, (.bool s4))]) h ?_ ?_
   ·clear h; rintro s4 _ w ⟨j, rfl⟩ h
    by_cases hc7 : s4 = true
    ·rw [if_pos hc7] at h; refine cond_1 (b := s4) rfl hc7 ?_
     refine region_ <| mv (.int .i64 s1.2.2) rfl <| asg (.int .i64 s1.2.2) rfl <| asg (.bool true) rfl <| wl_nil <| inb_n ?_
     exact then_n ⟨(s1.2.2, true), _, rfl, mk_upds' (ae rfl (ae rfl (ae rfl (ae rfl (ae rfl (ae rfl (ae rfl ae0))))))), h⟩
    ·rw [if_neg hc7] at h; refine cond_0 (b := s4) rfl (Bool.eq_false_iff.2 hc7) ?_
     refine wp_skip <| inb_n ?_
     exact then_n ⟨(s1.1, s1.2.1), _, rfl, mk_upds' (ae rfl (ae rfl (ae rfl (ae rfl (ae rfl (ae rfl (ae rfl ae0))))))), h⟩
   ·clear h; intro k4 h
    refine region_ <| mv (.string t16) rfl <| mv (.string t1) rfl ?_
    refine st_cal en92 rfl h ?_; clear h; intro t19 w h
    refine mv (.bool t19) rfl ?_
    by_cases hc5 : t19 = true
    ·rw [if_pos hc5] at h
     refine sOn 20 hc5 rfl rfl <| mv (.bool s1.2.1) rfl <| sOn 20 hc5 rfl rfl <| st_val (ex_not (b := s1.2.1) rfl) <| sOn 20 hc5 rfl rfl <| mv (.bool (!s1.2.1)) rfl ?_
     by_cases hc6 : (!s1.2.1) = true
     ·rw [if_pos hc6] at h
      refine sOff 23 hc6 rfl rfl <| sOff 23 hc6 rfl rfl <| sOff 23 hc6 rfl rfl <| sOff 23 hc6 rfl rfl <| sOff 23 hc6 rfl rfl <| sOff 23 hc6 rfl rfl <| sOff 23 hc6 rfl rfl <| sOn 20 hc5 rfl rfl <| st_val (ex_pick1 (b := (!s1.2.1)) rfl hc6 (v := (.bool true)) rfl) <| st_val (ex_pick1 (b := t19) rfl hc5 (v := (.bool true)) rfl) ?_
      refine wl_nil ?_
      exact then_n ⟨true, _, rfl, mk_upds' (ae rfl (ae rfl (ae rfl (ae rfl (ae rfl (ae rfl (ae rfl (ae rfl (ae rfl ae0))))))))), h⟩
     ·rw [if_neg hc6] at h
      refine sOn 23 (Bool.eq_false_iff.2 hc6) rfl rfl <| mv (.string t16) rfl <| sOn 23 (Bool.eq_false_iff.2 hc6) rfl rfl <| mv (Sl.v t0) rfl <| sOn 23 (Bool.eq_false_iff.2 hc6) rfl rfl <| mv (.int .i64 s1.1) rfl <| sOn 23 (Bool.eq_false_iff.2 hc6) rfl rfl ?_
      refine st_rnp (fun r => ex_indexAddr rfl rfl r) h ?_; clear h; intro t27 h
      refine sOn 23 (Bool.eq_false_iff.2 hc6) rfl rfl ?_
      refine st_rn (fun r => ex_load rfl r) h ?_; clear h; intro t28 w h
      refine sOn 23 (Bool.eq_false_iff.2 hc6) rfl rfl ?_
      refine st_cal en40 rfl h ?_; clear h; intro t29 w h
      refine sOn 23 (Bool.eq_false_iff.2 hc6) rfl rfl <| st_val (ex_lss (a := t29) (b := 0) rfl rfl) <| sOn 20 hc5 rfl rfl <| st_val (ex_pick0 (b := (!s1.2.1)) rfl (Bool.eq_false_iff.2 hc6) (v := (.bool (decide (t29 < 0)))) rfl) <| st_val (ex_pick1 (b := t19) rfl hc5 (v := (.bool (decide (t29 < 0)))) rfl) <| wl_nil ?_
      exact then_n ⟨(decide (t29 < 0)), _, rfl, mk_upds' (ae rfl (ae rfl (ae rfl (ae rfl (ae rfl (ae rfl (ae rfl (ae rfl (ae rfl ae0))))))))), h⟩
    ·rw [if_neg hc5] at h
     refine sOff 20 (Bool.eq_false_iff.2 hc5) rfl rfl <| sOff 20 (Bool.eq_false_iff.2 hc5) rfl rfl <| sOff 20 (Bool.eq_false_iff.2 hc5) rfl rfl <| st_offu (t := 23) rfl rfl <| st_offu (t := 23) rfl rfl <| st_offu (t := 23) rfl rfl <| st_offu (t := 23) rfl rfl <| st_offu (t := 23) rfl rfl <| st_offu (t := 23) rfl rfl <| st_offu (t := 23) rfl rfl ?_
     refine sOff 20 (Bool.eq_false_iff.2 hc5) rfl rfl <| st_val (ex_pick0 (b := t19) rfl (Bool.eq_false_iff.2 hc5) (v := (.bool false)) rfl) <| wl_nil ?_
     exact then_n ⟨false, _, rfl, mk_upds' (ae rfl (ae rfl (ae rfl (ae rfl (ae rfl (ae rfl (ae rfl (ae rfl (ae rfl ae0))))))))), h⟩
 ·rw [if_neg hc2] at h; refine cond_0 (b := (decide (s1.2.2 < (t0.n : Int)))) rfl (decide_eq_false hc2) ?_
  refine wp_exit <| then_e <| then_e <| inb_e <| then_n <| seq_ <| region_ <| mv (.int .i64 s1.1) rfl <| mv (.bool s1.2.1) rfl <| asg (.int .i64 s1.1) rfl ?_
  refine asg (.bool s1.2.1) rfl <| wl_nil <| then_n <| wp_ret ?_
  refine ret_2 rfl rfl rfl ⟨(s1.1, s1.2.1), rfl, h⟩


end Go.Proofs.Ytdoeegfcmbcbkaa.Tr


