/- A part of the proof whose last text is YtdoeegfcmbcbkaaAZ6. -/
import Derived.Test.YtdoeegfcmbcbkaaAZ3
import Derived.Lib.Bytealg
import Derived.Maps.RangeRun
import Derived.Laws.MakeOwn
import Derived.Laws.Slices
import Derived.Laws.Strings
set_option linter.all false
/- Contracts: the comparisons of the verifier's package for layer 15 (what reads alike is told alike). -/
namespace Go.Proofs.Ytdoeegfcmbcbkaa.Ct
open Go Go.Eng Tr
set_option linter.unusedVariables false
set_option maxRecDepth 100000

noncomputable abbrev PP := Try.prog
def bs (x : ByteArray) : List Value := [.string x]
def fl (x : Nat) : List Value := [.float .f64 x]
/-- a call that makes nothing of what stood another thing, and answers r -/
def Ans {α : Type} (enc : α → Value) (f : FuncId) (args : Array Value) (w : World) (r : α) : Prop := Cal PP enc f args w fun x w' => Ext w w' ∧ x = r

theorem bits_run (x : Nat) (w : World) : (callFunc 105 #[.float .f64 x]).run PP w = .ok (.value (.int .u64 (x : Int))) w := by
  rw [run_callFunc_extern Try.func105 rfl rfl (e := Extern.MathFloatBits.float64bits) (by kernel_rfl) (by kernel_rfl)]
  rfl
theorem rx_bits {x : Nat} {w : World} {K : Int → World → Prop} (h : K (x : Int) w) : Rx PP (Value.int .u64) 105 #[.float .f64 x] w K := ⟨_, _, bits_run x w, h⟩
theorem alike_ok (x : Nat) (w : World) : Ans Value.bool 61 #[.float .f64 x, .float .f64 x] w true := by
  refine c61 ?_
  unfold f61
  refine Jn.dup ?_
  refine rx_bits (rx_bits ?_)
  rw [if_pos rfl]
  exact ⟨Ext.refl _, rfl⟩
section
variable {w : World} {F G : Nat → Prop} {s s' : Sl}
theorem texts_ok {l : List ByteArray} (h0 : Rd bs 1 F w s l) (h1 : Rd bs 1 G w s' l) : Ans Value.bool 80 #[s.v, s'.v] w true := by
  refine c80 ?_
  unfold f80
  rw [if_neg (by rw [h0.len, h1.len]; simp)]
  refine Lp.mk (fun i w' => ∃ k : Nat, i = k ∧ k ≤ l.length ∧ Ext w w') (fun i => l.length - i.toNat) ⟨0, rfl, Nat.zero_le _, Ext.refl _⟩ ?_
  rintro i w' K ⟨k, rfl, hk, hE⟩ hK
  by_cases hlt : k < l.length
  · rw [if_pos (by rw [h0.len]; omega)]
    refine Dr.mk fun w1 hD _ => ?_
    replace hE := hE.trans hD
    refine rnp_idx sl44 (h0.ext hE) hlt rfl fun p _ hp => ?_
    refine rnl_at0 one9 hp ?_
    refine rnp_idx sl44 (h1.ext hE) hlt rfl fun q _ hq => ?_
    refine rnl_at0 one9 hq ?_
    rw [if_neg (by simp), h0.wr hlt]
    exact hK _ _ ⟨k + 1, rfl, hlt, hE⟩ (by omega)
  · rw [if_neg (by rw [h0.len]; omega)]
    exact ⟨hE, rfl⟩
theorem shares_ok {l : List TShare} (h0 : Rd TShare.cells 2 F w s l) (h1 : Rd TShare.cells 2 G w s' l) : Ans Value.bool 20 #[s.v, s'.v] w true := by
  refine c20 ?_
  unfold f20
  rw [if_neg (by rw [h0.len, h1.len]; simp)]
  refine Lp.mk (fun i w' => ∃ k : Nat, i = k ∧ k ≤ l.length ∧ Ext w w') (fun i => l.length - i.toNat) ⟨0, rfl, Nat.zero_le _, Ext.refl _⟩ ?_
  rintro i w' K ⟨k, rfl, hk, hE⟩ hK
  by_cases hlt : k < l.length
  · rw [if_pos (by rw [h0.len]; omega)]
    refine Jn.dup ?_
    refine Dr.mk fun w1 hD _ => ?_
    replace hE := hE.trans hD
    refine rnp_idx sl23 (h0.ext hE) hlt rfl fun p _ hp => ?_
    refine rnl_at one9 hp rfl ?_
    refine rnp_idx sl23 (h1.ext hE) hlt rfl fun q _ hq => ?_
    refine rnl_at one9 hq rfl ?_
    rw [if_neg (by simp)]
    refine rnp_idx sl23 (h0.ext hE) hlt rfl fun p _ hp => ?_
    refine rnl_at one30 hp rfl ?_
    refine rnp_idx sl23 (h1.ext hE) hlt rfl fun q _ hq => ?_
    refine rnl_at one30 hq rfl ?_
    refine (alike_ok _ _).mono ?_
    rintro _ w2 ⟨hE2, rfl⟩
    dsimp only
    rw [if_neg (by simp), h0.wr hlt]
    exact hK _ _ ⟨k + 1, rfl, hlt, hE.trans hE2⟩ (by omega)
  · rw [if_neg (by rw [h0.len]; omega)]
    exact ⟨hE, rfl⟩
theorem targets_ok {l : List TTarget} (h0 : Rd TTarget.cells 3 F w s l) (h1 : Rd TTarget.cells 3 G w s' l) : Ans Value.bool 106 #[s.v, s'.v] w true := by
  refine c106 ?_
  unfold f106
  rw [if_neg (by rw [h0.len, h1.len]; simp)]
  refine Lp.mk (fun i w' => ∃ k : Nat, i = k ∧ k ≤ l.length ∧ Ext w w') (fun i => l.length - i.toNat) ⟨0, rfl, Nat.zero_le _, Ext.refl _⟩ ?_
  rintro i w' K ⟨k, rfl, hk, hE⟩ hK
  by_cases hlt : k < l.length
  · rw [if_pos (by rw [h0.len]; omega)]
    refine Jn.dup ?_
    refine Dr.mk fun w1 hD _ => ?_
    replace hE := hE.trans hD
    refine rnp_idx sl45 (h0.ext hE) hlt rfl fun p _ hp => ?_
    refine rnl_at one9 hp rfl ?_
    refine rnp_idx sl45 (h1.ext hE) hlt rfl fun q _ hq => ?_
    refine rnl_at one9 hq rfl ?_
    rw [if_neg (by simp)]
    refine rnp_idx sl45 (h0.ext hE) hlt rfl fun p _ hp => ?_
    refine rnl_at one9 hp rfl ?_
    refine rnp_idx sl45 (h1.ext hE) hlt rfl fun q _ hq => ?_
    refine rnl_at one9 hq rfl ?_
    rw [if_neg (by simp)]
    refine rnp_idx sl45 (h0.ext hE) hlt rfl fun p _ hp => ?_
    refine rnl_at one30 hp rfl ?_
    refine rnp_idx sl45 (h1.ext hE) hlt rfl fun q _ hq => ?_
    refine rnl_at one30 hq rfl ?_
    refine (alike_ok _ _).mono ?_
    rintro _ w2 ⟨hE2, rfl⟩
    dsimp only
    rw [if_neg (by simp), h0.wr hlt]
    exact hK _ _ ⟨k + 1, rfl, hlt, hE.trans hE2⟩ (by omega)
  · rw [if_neg (by rw [h0.len]; omega)]
    exact ⟨hE, rfl⟩
end
end Go.Proofs.Ytdoeegfcmbcbkaa.Ct

/- Contracts: resources held against each other, copied and looked at again (the verifier's package for layer 15). -/
namespace Go.Proofs.Ytdoeegfcmbcbkaa.Ct
open Go Go.Eng Tr
set_option linter.unusedVariables false
set_option maxRecDepth 100000

/-- a resource, read to the bottom -/
structure DRes where
  kind : Int
  name : ByteArray
  ends : List ByteArray
  targets : List TTarget
  host : ByteArray
  rules : List TRule
  route : ByteArray
  del : Bool
/-- what a resource's cells lead to -/
structure ResD (F : Nat → Prop) (w : World) (r : TResource) (d : DRes) : Prop where
  kind : r.Kind = d.kind
  name : r.Name = d.name
  ends : Rd bs 1 F w r.Endpoints d.ends
  targets : Rd TTarget.cells 3 F w r.Targets d.targets
  host : r.Host = d.host
  rules : Rd TRule.cells 4 F w r.Rules d.rules
  route : r.Route = d.route
  del : r.Delete = d.del
/-- a list of resources, read to the bottom -/
structure ConfD (F : Nat → Prop) (w : World) (s : Sl) (rs : List TResource) (l : List DRes) : Prop where
  rd : Rd TResource.cells 8 F w s rs
  len : rs.length = l.length
  el : ∀ k (h : k < rs.length) (h' : k < l.length), ResD F w rs[k] l[k]
section
variable {F G S : Nat → Prop} {w w' : World} {r : TResource} {d : DRes} {s : Sl} {rs : List TResource} {l : List DRes}
theorem ResD.ext (h : ResD F w r d) (k : Ext w w') : ResD F w' r d := ⟨h.kind, h.name, h.ends.ext k, h.targets.ext k, h.host, h.rules.ext k, h.route, h.del⟩
theorem ResD.chg (h : ResD F w r d) (k : Chg S w w') (hs : ∀ b, F b → b < w.heap.size → ¬ S b) : ResD F w' r d := ⟨h.kind, h.name, h.ends.chg k hs, h.targets.chg k hs, h.host, h.rules.chg k hs, h.route, h.del⟩
theorem ResD.mono (h : ResD F w r d) (hF : ∀ b, F b → G b) : ResD G w r d := ⟨h.kind, h.name, h.ends.mono hF, h.targets.mono hF, h.host, h.rules.mono hF, h.route, h.del⟩
theorem ConfD.ext (h : ConfD F w s rs l) (k : Ext w w') : ConfD F w' s rs l := ⟨h.rd.ext k, h.len, fun i a b => (h.el i a b).ext k⟩
theorem ConfD.chg (h : ConfD F w s rs l) (k : Chg S w w') (hs : ∀ b, F b → b < w.heap.size → ¬ S b) : ConfD F w' s rs l := ⟨h.rd.chg k hs, h.len, fun i a b => (h.el i a b).chg k hs⟩
theorem ConfD.mono (h : ConfD F w s rs l) (hF : ∀ b, F b → G b) : ConfD G w s rs l := ⟨h.rd.mono hF, h.len, fun i a b => (h.el i a b).mono hF⟩
theorem ConfD.n (h : ConfD F w s rs l) : s.n = l.length := h.rd.len.trans h.len
theorem ConfD.wr (h : ConfD F w s rs l) {k : Nat} (hk : k < l.length) : IntKind.i64.wrap ((k : Int) + 1) = ((k + 1 : Nat) : Int) := h.rd.wr (by rw [h.len]; exact hk)
/-- at an index: the cells, and what they lead to -/
theorem ConfD.idx (h : ConfD F w s rs l) {k : Nat} (hk : k < l.length) {i : Int} (hi : i = k) {K : Addr → Prop} (hK : ∀ p r, F p.block → At w p (TResource.cells r) → ResD F w r l[k] → K p) :
    RnP PP Ptr (Instr.indexAt 22 (Sl.v s) (.int .i64 i)) K :=
  rnp_idx sl22 h.rd (by rw [h.len]; exact hk) hi fun p hF hp => hK p _ hF hp (h.el k (by rw [h.len]; exact hk) hk)
end

/-! ### Equality of rules -/
theorem eqRule_run (x y : TRule) (w : World) : (Op.equal 91 x.v y.v).run PP w = .ok (x.Path == y.Path && (x.Method == y.Method && (x.Split == y.Split && x.Allow == y.Allow))) w := by
  have h1 : ∀ (w : World) (a b : ByteArray), (Op.equalIn (9998 + 1) 9 (.string a) (.string b)).run PP w = .ok (a == b) w := fun w a b => by
    rw [run_equalIn_string w 9998 9 a b Try.underlying9, beq_toListBytes]
  have h2 : ∀ (w : World) (a b : Bool), (Op.equalIn (9998 + 1) 4 (.bool a) (.bool b)).run PP w = .ok (a == b) w := fun w a b => run_equalIn_bool' w 9998 4 a b Try.underlying4
  have hp : ∀ (w : World) (o : Nat) (t : TypeId) (v : Value) (cs : Array Value), One PP t → cs[o]? = some v → (part t cs o).run PP w = .ok v w := fun w o t v cs h hv => part_one h hv
  show (Op.equalIn (9999 + 1) 91 (.agg (Array.mk x.cells)) (.agg (Array.mk y.cells))).run PP w = _
  rw [run_equalIn_struct w 9999 91 _ _ (by kernel_rfl) (by kernel_rfl)]
  have hf : (Program.fieldsOf PP 91).toList = [⟨ "Path", 9, 0, false, "", "", 0⟩, ⟨ "Method", 9, 1, false, "", "", 16⟩, ⟨ "Split", 9, 2, false, "", "", 32⟩, ⟨ "Allow", 4, 3, false, "", "", 48⟩] := by kernel_rfl
  rw [hf]
  have n1 : ("Path" : String) ≠ "_" := by decide
  have n2 : ("Method" : String) ≠ "_" := by decide
  have n3 : ("Split" : String) ≠ "_" := by decide
  have n4 : ("Allow" : String) ≠ "_" := by decide
  simp only [Op.eqFields, if_pos n1, if_pos n2, if_pos n3, if_pos n4, Sem.run_bind]
  rw [hp w 0 9 (.string x.Path) _ one9 rfl, Result.andThen_ok, hp w 0 9 (.string y.Path) _ one9 rfl, Result.andThen_ok, h1, Result.andThen_ok]
  cases x.Path == y.Path
  · rfl
  rw [if_neg (by simp), Sem.run_bind, hp w 1 9 (.string x.Method) _ one9 rfl, Result.andThen_ok, Sem.run_bind, hp w 1 9 (.string y.Method) _ one9 rfl, Result.andThen_ok, Sem.run_bind, h1, Result.andThen_ok]
  cases x.Method == y.Method
  · rfl
  rw [if_neg (by simp), Sem.run_bind, hp w 2 9 (.string x.Split) _ one9 rfl, Result.andThen_ok, Sem.run_bind, hp w 2 9 (.string y.Split) _ one9 rfl, Result.andThen_ok, Sem.run_bind, h1, Result.andThen_ok]
  cases x.Split == y.Split
  · rfl
  rw [if_neg (by simp), Sem.run_bind, hp w 3 4 (.bool x.Allow) _ one4 rfl, Result.andThen_ok, Sem.run_bind, hp w 3 4 (.bool y.Allow) _ one4 rfl, Result.andThen_ok, Sem.run_bind, h2, Result.andThen_ok]
  cases x.Allow == y.Allow <;> rfl
theorem eqRule_self (x : TRule) (w : World) : (Op.equal 91 x.v x.v).run PP w = .ok true w := by
  rw [eqRule_run]; simp [beq_bytes]
section
variable {w : World} {F G : Nat → Prop} {s s' : Sl}
theorem rules_ok {l : List TRule} (h0 : Rd TRule.cells 4 F w s l) (h1 : Rd TRule.cells 4 G w s' l) : Ans Value.bool 107 #[s.v, s'.v] w true := by
  refine c107 ?_
  unfold f107
  rw [if_neg (by rw [h0.len, h1.len]; simp)]
  refine Lp.mk (fun i w' => ∃ k : Nat, i = k ∧ k ≤ l.length ∧ Ext w w') (fun i => l.length - i.toNat) ⟨0, rfl, Nat.zero_le _, Ext.refl _⟩ ?_
  rintro i w' K ⟨k, rfl, hk, hE⟩ hK
  by_cases hlt : k < l.length
  · rw [if_pos (by rw [h0.len]; omega)]
    refine Dr.mk fun w1 hD _ => ?_
    replace hE := hE.trans hD
    refine rnp_idx sl46 (h0.ext hE) hlt rfl fun p _ hp => ?_
    refine rnl_ldN (x := l[k]) many91 hp rfl rfl ?_
    refine rnp_idx sl46 (h1.ext hE) hlt rfl fun q _ hq => ?_
    refine rnl_ldN (x := l[k]) many91 hq rfl rfl ?_
    refine RnP.of (x := false) (fun w => by simp only [Sem.run_bind, eqRule_self, Result.andThen_ok, Sem.run_pure]; rfl) ?_
    rw [if_neg (by simp), h0.wr hlt]
    exact hK _ _ ⟨k + 1, rfl, hlt, hE⟩ (by omega)
  · rw [if_neg (by rw [h0.len]; omega)]
    exact ⟨hE, rfl⟩
end
theorem resource_ok {w : World} {F G : Nat → Prop} {r r' : TResource} {d : DRes} (h0 : ResD F w r d) (h1 : ResD G w r' d) : Ans Value.bool 62 #[r.v, r'.v] w true := by
  refine c62 ?_
  unfold f62
  refine New.mk fun b w1 e1 hb _ _ => ?_
  refine New.mk fun b' w2 e2 hb' _ _ => ?_
  replace hb := hb.ext e2
  replace h0 := h0.ext (e1.trans e2); replace h1 := h1.ext (e1.trans e2)
  replace e1 := e1.trans e2
  refine Jn.dup ?_
  refine rn_blk one3 hb rfl rfl ?_
  refine rn_blk one3 hb' rfl rfl ?_
  rw [if_pos (by rw [h0.kind, h1.kind])]
  refine rn_blk one9 hb rfl rfl ?_
  refine rn_blk one9 hb' rfl rfl ?_
  rw [if_pos (by rw [h0.name, h1.name])]
  refine rn_blk one44 hb rfl rfl ?_
  refine rn_blk one44 hb' rfl rfl ?_
  refine (texts_ok h0.ends h1.ends).mono ?_
  rintro _ w3 ⟨e3, rfl⟩
  rw [if_pos rfl]
  replace hb := hb.ext e3; replace hb' := hb'.ext e3; replace h0 := h0.ext e3; replace h1 := h1.ext e3; replace e1 := e1.trans e3
  refine rn_blk one45 hb rfl rfl ?_
  refine rn_blk one45 hb' rfl rfl ?_
  refine (targets_ok h0.targets h1.targets).mono ?_
  rintro _ w4 ⟨e4, rfl⟩
  rw [if_pos rfl]
  replace hb := hb.ext e4; replace hb' := hb'.ext e4; replace h0 := h0.ext e4; replace h1 := h1.ext e4; replace e1 := e1.trans e4
  refine rn_blk one9 hb rfl rfl ?_
  refine rn_blk one9 hb' rfl rfl ?_
  rw [if_pos (by rw [h0.host, h1.host])]
  refine rn_blk one46 hb rfl rfl ?_
  refine rn_blk one46 hb' rfl rfl ?_
  refine (rules_ok h0.rules h1.rules).mono ?_
  rintro _ w5 ⟨e5, rfl⟩
  rw [if_pos rfl]
  replace hb := hb.ext e5; replace hb' := hb'.ext e5; replace h0 := h0.ext e5; replace h1 := h1.ext e5; replace e1 := e1.trans e5
  refine rn_blk one9 hb rfl rfl ?_
  refine rn_blk one9 hb' rfl rfl ?_
  rw [if_pos (by rw [h0.route, h1.route])]
  refine rn_blk one4 hb rfl rfl ?_
  refine rn_blk one4 hb' rfl rfl ?_
  exact ⟨e1, by rw [h0.del, h1.del]; simp⟩
/-- the mark behind what was lent -/
def Marked (w : World) (s : Sl) (n : Nat) : Prop := n + 1 ≤ s.c ∧ ∃ a, s.a = some a ∧ w.cell? (a.add (n * 8)) = some (.int .i64 (-77))
theorem stay_ok {w : World} {F G : Nat → Prop} {s s' : Sl} {rs rs' : List TResource} {l : List DRes} (h0 : ConfD F w s rs l) (h1 : ConfD G w s' rs' l) (hm : Marked w s l.length) : Ans Value.bool 21 #[s.v, s'.v] w true := by
  refine c21 ?_
  unfold f21
  refine Jn.dup ?_
  have hn0 := h0.n; have hn1 := h1.n; have hl := h0.rd.lim
  obtain ⟨hc, a, ha, hcell⟩ := hm
  unfold maxLen at hl
  rw [if_neg (by rw [hn0, hn1]; simp)]
  have e1 : (IntKind.i64.wrap ((s'.n : Int) + 1)) = ((l.length + 1 : Nat) : Int) := by
    rw [hn1, wrap_in ⟨by omega, by omega⟩]; rfl
  rw [e1]
  refine rnp_slice sl22 none (some (l.length + 1)) rfl rfl (Nat.zero_le _) hc ?_
  simp only [Option.getD_none, Option.getD_some, Sl.cut_zero]
  rw [hn1]
  refine ⟨_, fun w => idx_run (s := ⟨s.a, l.length + 1, s.c⟩) sl22 ha (Nat.lt_succ_self l.length) w, ?_⟩
  refine rn_ld1 (x := -77) one3 (by rw [add_zero]; exact hcell) ?_
  rw [if_neg (by decide)]
  refine Lp.mk (fun i w' => ∃ k : Nat, i = k ∧ k ≤ l.length ∧ Ext w w') (fun i => l.length - i.toNat) ⟨0, rfl, Nat.zero_le _, Ext.refl _⟩ ?_
  rintro i w' K ⟨k, rfl, hk, hE⟩ hK
  by_cases hlt : k < l.length
  · rw [if_pos (by omega)]
    refine Dr.mk fun w1 hD _ => ?_
    replace hE := hE.trans hD
    refine (h0.ext hE).idx hlt rfl fun p r _ hp hr => ?_
    refine rnl_ldN (x := r) many48 hp rfl rfl ?_
    refine (h1.ext hE).idx hlt rfl fun p' r' _ hp' hr' => ?_
    refine rnl_ldN (x := r') many48 hp' rfl rfl ?_
    refine (resource_ok hr hr').mono ?_
    rintro _ w2 ⟨hE2, rfl⟩
    rw [if_neg (by simp), h0.wr hlt]
    exact hK _ _ ⟨k + 1, rfl, hlt, hE.trans hE2⟩ (by omega)
  · rw [if_neg (by omega)]
    exact ⟨hE, trivial⟩
/-- sizes: what may be copied with one more behind it -/
structure Small (d : DRes) : Prop where
  ends : d.ends.length * 16 ≤ 140737488355328
  targets : d.targets.length * 40 ≤ 140737488355328
  rules : d.rules.length * 56 ≤ 140737488355328
theorem one_bs (x : ByteArray) : (bs x).length = 1 := rfl
theorem oc_bs (x : ByteArray) : ∀ u ∈ bs x, u.oneCell' = true := by simp [bs, Value.oneCell']
theorem oc_target (x : TTarget) : ∀ u ∈ TTarget.cells x, u.oneCell' = true := by simp [TTarget.cells, Value.oneCell']
theorem oc_rule (x : TRule) : ∀ u ∈ TRule.cells x, u.oneCell' = true := by simp [TRule.cells, Value.oneCell']
theorem oc_res (x : TResource) : ∀ u ∈ TResource.cells x, u.oneCell' = true := by simp [TResource.cells, Value.oneCell', Sl.v]
theorem oc_share (x : TShare) : ∀ u ∈ TShare.cells x, u.oneCell' = true := by simp [TShare.cells, Value.oneCell']
theorem twin_ok {w : World} {F : Nat → Prop} {s : Sl} {rs : List TResource} {l : List DRes} (h : ConfD F w s rs l) (hs : ∀ d ∈ l, Small d) (hb : (l.length + 1) * 136 ≤ 140737488355328) :
    Cal PP Sl.v 16 #[s.v] w fun x w' => Ext w w' ∧ ∃ rs', ConfD (fun b => w.heap.size ≤ b) w' x rs' l ∧ Marked w' x l.length := by
  refine c16 ?_
  unfold f16
  refine Lp.mk (fun (x : Sl × Int) w' => ∃ k rs', x.2 = (k : Nat) ∧ k ≤ l.length ∧ Ext w w' ∧ Own TResource.cells 8 48 w.heap.size w' x.1 rs' ∧ rs'.length = k ∧
    ∀ j (h1 : j < rs'.length) (h2 : j < l.length), ResD (fun b => w.heap.size ≤ b ∧ b < w'.heap.size ∧ ¬ own? x.1 b) w' rs'[j] l[j]) (fun x => l.length - x.2.toNat)
    ⟨0, [], rfl, Nat.zero_le _, Ext.refl _, Own.nil_ _ _, rfl, fun j h1 => absurd h1 (Nat.not_lt_zero _)⟩ ?_
  rintro ⟨out, i⟩ w1 K ⟨k, rs', rfl, hk, hE, hO, hl', hR⟩ hK
  dsimp only at hO hR ⊢
  by_cases hlt : k < l.length
  · rw [if_pos (by rw [h.n]; omega)]
    refine (h.ext hE).idx hlt rfl fun p r _ hp hr => ?_
    refine rn_ldN (x := r) many48 hp rfl rfl ?_
    refine New.mk fun b5 w2 e2 hb5 hn5 _ => ?_
    refine rnu_st (b := b5) (o := 0) rfl hb5 (TResource.cells r) sz48 rfl (oc_res r) (Nat.le_refl _) fun w3 e3 _ hb5 => ?_
    replace hb5 : Blk w3 b5 48 (TResource.cells r) := hb5
    have hB := hE.size
    -- what stood below b5 stands; b5 is our own
    have hw5 : w.heap.size ≤ b5 := by omega
    have C : Chg (fun b => b = b5) w1 w3 := (e2.chg _).trans e3
    have E : Ext w1 w3 := C.ext (fun b hb he => by omega)
    clear e2 e3 C
    have q5 : b5 < w3.heap.size := hb5.lt
    refine New.mk fun b16 w4 e4 hb16 hn16 s4 => ?_
    replace hb5 := hb5.ext e4; replace E := E.trans e4
    refine rn_blk one44 hb5 rfl rfl ?_
    refine rn_copy el44 hb16 (hr.ends.ext E) one_bs oc_bs (hs _ (List.getElem_mem hlt)).ends (by decide) fun x1 w5 c1 r1 => ?_
    replace hb5 := hb5.chg c1 (by omega)
    have g4 := c1.size
    have E5 : Ext w1 w5 := E.then c1 (fun b hb => by omega)
    clear E c1
    refine rnu_st (b := b5) (o := 2) rfl hb5 [Sl.v x1] sz44 rfl (by simp [Sl.v, Value.oneCell']) (by simp [TResource.cells]) fun w6 c6 s6 hb5 => ?_
    replace hb5 : Blk w6 b5 48 (TResource.cells { r with Endpoints := x1 }) := hb5
    have E := E5.then c6 (fun b hb => by omega)
    replace r1 := r1.chg c6 (fun b hb _ => by have := hb.1; omega)
    have g6 : w5.heap.size ≤ w6.heap.size := c6.size
    have g5 := E5.size
    clear E5 c6
    refine New.mk fun b21 w7 e7 hb21 hn21 s7 => ?_
    replace hb5 := hb5.ext e7; replace E := E.trans e7; replace r1 := r1.ext e7
    refine rn_blk one45 hb5 rfl rfl ?_
    refine rn_copy el45 hb21 (hr.targets.ext E) (fun _ => rfl) oc_target (hs _ (List.getElem_mem hlt)).targets (by decide) fun x2 w8 c2 r2 => ?_
    replace hb5 := hb5.chg c2 (by omega)
    have g8 := c2.size
    replace r1 := r1.chg c2 (fun b hb _ => by have := hb.2; omega)
    replace E := E.then c2 (fun b hb => by omega)
    clear c2
    refine rnu_st (b := b5) (o := 3) rfl hb5 [Sl.v x2] sz45 rfl (by simp [Sl.v, Value.oneCell']) (by simp [TResource.cells]) fun w9 c9 s9 hb5 => ?_
    replace hb5 : Blk w9 b5 48 (TResource.cells { r with Endpoints := x1, Targets := x2 }) := hb5
    replace E := E.then c9 (fun b hb => by omega)
    replace r1 := r1.chg c9 (fun b hb _ => by have := hb.1; omega)
    replace r2 := r2.chg c9 (fun b hb _ => by have := hb.1; omega)
    have g9 := c9.size
    clear c9
    refine New.mk fun b26 w10 e10 hb26 hn26 s10 => ?_
    replace hb5 := hb5.ext e10; replace E := E.trans e10; replace r1 := r1.ext e10; replace r2 := r2.ext e10
    refine rn_blk one46 hb5 rfl rfl ?_
    refine rn_copy el46 hb26 (hr.rules.ext E) (fun _ => rfl) oc_rule (hs _ (List.getElem_mem hlt)).rules (by decide) fun x3 w11 c3 r3 => ?_
    replace hb5 := hb5.chg c3 (by omega)
    have g11 := c3.size
    replace r1 := r1.chg c3 (fun b hb _ => by have := hb.2; omega)
    replace r2 := r2.chg c3 (fun b hb _ => by have := hb.2; omega)
    replace E := E.then c3 (fun b hb => by omega)
    clear c3
    refine rnu_st (b := b5) (o := 5) rfl hb5 [Sl.v x3] sz46 rfl (by simp [Sl.v, Value.oneCell']) (by simp [TResource.cells]) fun w12 c12 s12 hb5 => ?_
    replace hb5 : Blk w12 b5 48 (TResource.cells { r with Endpoints := x1, Targets := x2, Rules := x3 }) := hb5
    replace E := E.then c12 (fun b hb => by omega)
    replace r1 := r1.chg c12 (fun b hb _ => by have := hb.1; omega)
    replace r2 := r2.chg c12 (fun b hb _ => by have := hb.1; omega)
    replace r3 := r3.chg c12 (fun b hb _ => by have := hb.1; omega)
    clear c12
    refine rn_blkN (x := { r with Endpoints := x1, Targets := x2, Rules := x3 }) many48 hb5 rfl rfl ?_
    refine New.mk fun b33 w13 e13 hb33 hn33 s13 => ?_
    replace E := E.trans e13; replace r1 := r1.ext e13; replace r2 := r2.ext e13; replace r3 := r3.ext e13
    have O13 := hO.ext E
    refine rn_app1 el22 O13 hb33 rfl rfl (oc_res _) (by rw [hl']; omega) (by decide) (by have := E.size; omega) fun out' w14 O14 c14 n14 => ?_
    have hown : ∀ b, own? out b → b < w1.heap.size := fun b hb => (hO.ge hb).2
    have E14 : Ext w w14 := (hE.trans E).then c14 (fun b hb => (hO.ge hb).1)
    have g1 := E.size
    have g14 := c14.size
    rw [h.wr hlt]
    refine hK _ _ ⟨k + 1, rs' ++ [{ r with Endpoints := x1, Targets := x2, Rules := x3 }], rfl, hlt, E14, O14, by simp [hl'], fun j h1 h2 => ?_⟩ (by dsimp only; omega)
    have fin : ∀ b, b < w13.heap.size → ¬ own? out b → b < w14.heap.size ∧ ¬ own? out' b := fun b hb hn => ⟨by omega, fun ho => by
      rcases n14 b ho with h' | h'
      · exact hn h'
      · omega⟩
    by_cases hj : j < rs'.length
    · rw [List.getElem_append_left hj]
      refine ((hR j hj h2).ext E).chg c14 (fun b hb _ => hb.2.2) |>.mono fun b hb => ?_
      exact ⟨hb.1, fin b (by have := hb.2.1; omega) hb.2.2⟩
    · obtain rfl : j = rs'.length := by simp at h1; omega
      rw [List.getElem_append_right (Nat.le_refl _)]
      simp only [Nat.sub_self, List.getElem_cons_zero]
      have hno : ∀ b, w1.heap.size ≤ b → ¬ own? out b := fun b hb ho => by have := hown b ho; omega
      have r1' := (r1.chg c14 (fun b hb _ => hno b (by have := hb.1; omega))).mono (G := fun b => w.heap.size ≤ b ∧ b < w14.heap.size ∧ ¬ own? out' b) (fun b hb => ⟨by have := hb.1; omega, fin b (by have := hb.2; omega) (hno b (by have := hb.1; omega))⟩)
      have r2' := (r2.chg c14 (fun b hb _ => hno b (by have := hb.1; omega))).mono (G := fun b => w.heap.size ≤ b ∧ b < w14.heap.size ∧ ¬ own? out' b) (fun b hb => ⟨by have := hb.1; omega, fin b (by have := hb.2; omega) (hno b (by have := hb.1; omega))⟩)
      have r3' := (r3.chg c14 (fun b hb _ => hno b (by have := hb.1; omega))).mono (G := fun b => w.heap.size ≤ b ∧ b < w14.heap.size ∧ ¬ own? out' b) (fun b hb => ⟨by have := hb.1; omega, fin b (by have := hb.2; omega) (hno b (by have := hb.1; omega))⟩)
      subst hl'
      exact ⟨hr.kind, hr.name, r1', r2', hr.host, r3', hr.route, hr.del⟩
  · rw [if_neg (by rw [h.n]; omega)]
    obtain rfl : k = l.length := by omega
    refine New.mk fun b37 w2 e2 hb37 hn37 s2 => ?_
    have O2 := hO.ext e2
    refine rn_app1 el22 O2 hb37 rfl rfl (oc_res _) (by rw [hl']; omega) (by decide) (by have := hE.size; omega) fun out' w3 O3 c3 n3 => ?_
    have E3 : Ext w w3 := (hE.trans e2).then c3 (fun b hb => (hO.ge hb).1)
    have hrd := O3.rd (F := fun b => w.heap.size ≤ b) (fun b hb => (O3.ge hb).1)
    have hlen := hrd.len
    simp only [List.length_append, List.length_cons, List.length_nil, hl'] at hlen
    refine rnp_slice sl22 none (some s.n) rfl rfl (Nat.zero_le _) (by rw [h.n]; have := hrd.cap; simp; omega) ?_
    simp only [Option.getD_none, Option.getD_some, Sl.cut_zero]
    rw [h.n]
    refine ⟨E3, rs', ⟨?_, hl', fun j h1 h2 => ?_⟩, ?_⟩
    · have := hrd.take (n := l.length) (by simp [hl'])
      simpa [← hl'] using this
    · exact (((hR j h1 h2).ext e2).chg c3 (fun b hb _ => hb.2.2)).mono fun b hb => hb.1
    · refine ⟨by have := hrd.cap; show l.length + 1 ≤ out'.c; omega, ?_⟩
      obtain ⟨a, ha, _, hat⟩ := hrd.el l.length (by simp [hl'])
      refine ⟨a, ha, ?_⟩
      have := hat 0 (by simp [← hl', TResource.cells])
      rw [add_add, Nat.add_zero] at this
      simpa [← hl', TResource.cells] using this
end Go.Proofs.Ytdoeegfcmbcbkaa.Ct

/- Memory: maps of our own, as lists of pairs with keys apart. -/
namespace Go.Eng
open Go
set_option linter.unusedVariables false
set_option linter.unusedSectionVars false

section
variable {κ ν : Type} [DecidableEq κ]
/-- what a map answers for a key -/
def mget : List (κ × ν) → κ → Option ν
  | [], _ => none
  | x :: l, k => if x.1 = k then some x.2 else mget l k
/-- a map with one key laid anew -/
def mput : List (κ × ν) → κ → ν → List (κ × ν)
  | [], k, v => [(k, v)]
  | x :: l, k, v => if x.1 = k then (k, v) :: l else x :: mput l k v
/-- a map without a key -/
def mdel : List (κ × ν) → κ → List (κ × ν)
  | [], _ => []
  | x :: l, k => if x.1 = k then l else x :: mdel l k
def mkeys (l : List (κ × ν)) : List κ := l.map (·.1)
theorem mget_put (l : List (κ × ν)) (k k' : κ) (v : ν) : mget (mput l k v) k' = if k = k' then some v else mget l k' := by
  induction l with
  | nil => simp [mput, mget]
  | cons x l ih =>
    unfold mput
    by_cases h : x.1 = k
    · rw [if_pos h]; simp only [mget]; subst h
      by_cases h' : x.1 = k' <;> simp [h']
    · rw [if_neg h]; simp only [mget, ih]
      by_cases h' : x.1 = k'
      · subst h'; rw [if_pos rfl, if_pos rfl, if_neg (fun e => h e.symm)]
      · rw [if_neg h', if_neg h']
theorem mget_none {l : List (κ × ν)} {k : κ} : mget l k = none ↔ k ∉ mkeys l := by
  induction l with
  | nil => simp [mget, mkeys]
  | cons x l ih =>
    simp only [mget, mkeys, List.map_cons, List.mem_cons, not_or] at ih ⊢
    by_cases h : x.1 = k
    · simp [h]
    · rw [if_neg h, ih]; constructor
      · exact fun h' => ⟨fun e => h e.symm, h'⟩
      · exact fun h' => h'.2
theorem mget_mem {l : List (κ × ν)} {k : κ} {v : ν} (h : mget l k = some v) : (k, v) ∈ l := by
  induction l with
  | nil => cases h
  | cons x l ih =>
    unfold mget at h
    by_cases hk : x.1 = k
    · rw [if_pos hk] at h; cases h; subst hk; simp
    · rw [if_neg hk] at h; exact List.mem_cons_of_mem _ (ih h)
theorem mget_of_mem {l : List (κ × ν)} (hn : (mkeys l).Nodup) {k : κ} {v : ν} (h : (k, v) ∈ l) : mget l k = some v := by
  induction l with
  | nil => cases h
  | cons x l ih =>
    simp only [mkeys, List.map_cons, List.nodup_cons] at hn
    unfold mget
    rcases List.mem_cons.1 h with rfl | h
    · simp
    · rw [if_neg (fun e => hn.1 (by rw [e]; exact List.mem_map.2 ⟨_, h, rfl⟩))]; exact ih hn.2 h
theorem mem_mkeys_put {l : List (κ × ν)} {k k' : κ} {v : ν} : k' ∈ mkeys (mput l k v) ↔ k' = k ∨ k' ∈ mkeys l := by
  have h1 := mget_none (l := mput l k v) (k := k')
  have h2 := mget_none (l := l) (k := k')
  rw [mget_put] at h1
  by_cases h : k = k'
  · subst h; simp at h1; simp [h1]
  · rw [if_neg h, h2] at h1
    constructor
    · intro h3; exact .inr (by by_cases h4 : k' ∈ mkeys l; exact h4; exact absurd h3 (h1.1 h4))
    · rintro (rfl | h3)
      · exact absurd rfl h
      · by_cases h4 : k' ∈ mkeys (mput l k v); exact h4; exact absurd h3 (h1.2 h4)
theorem mput_nodup {l : List (κ × ν)} (hn : (mkeys l).Nodup) (k : κ) (v : ν) : (mkeys (mput l k v)).Nodup := by
  induction l with
  | nil => simp [mput, mkeys]
  | cons x l ih =>
    simp only [mkeys, List.map_cons, List.nodup_cons] at hn
    unfold mput
    by_cases h : x.1 = k
    · rw [if_pos h]; simp only [mkeys, List.map_cons, List.nodup_cons, ← h]; exact hn
    · rw [if_neg h]; simp only [mkeys, List.map_cons, List.nodup_cons]
      refine ⟨fun h' => ?_, ih hn.2⟩
      rcases mem_mkeys_put.1 h' with h' | h'
      · exact h h'
      · exact hn.1 h'
theorem mdel_sub (l : List (κ × ν)) (k : κ) : (mdel l k).Sublist l := by
  induction l with
  | nil => exact .slnil
  | cons x l ih =>
    unfold mdel
    by_cases h : x.1 = k
    · rw [if_pos h]; exact List.sublist_cons_self _ _
    · rw [if_neg h]; exact ih.cons_cons _
theorem mget_del {l : List (κ × ν)} (hn : (mkeys l).Nodup) (k k' : κ) : mget (mdel l k) k' = if k = k' then none else mget l k' := by
  induction l with
  | nil => simp [mdel, mget]
  | cons x l ih =>
    simp only [mkeys, List.map_cons, List.nodup_cons] at hn
    unfold mdel
    by_cases h : x.1 = k
    · rw [if_pos h]
      by_cases h' : k = k'
      · subst h'; rw [if_pos rfl]; exact mget_none.2 (by rw [← h]; exact hn.1)
      · rw [if_neg h']; conv => rhs; unfold mget
        rw [if_neg (by rw [h]; exact h')]
    · rw [if_neg h]; simp only [mget, ih hn.2]
      by_cases h' : x.1 = k'
      · subst h'; rw [if_pos rfl, if_pos rfl, if_neg (fun e => h e.symm)]
      · rw [if_neg h', if_neg h']

/-- the entry of a key among a map's entries -/
def look : κ → List κ → List MapEntry → Nat → Option (Nat × Value)
  | k, k' :: ks, e :: es, i => if k' = k then some (i, e.val) else look k ks es (i + 1)
  | _, _, _, _ => none
end

/-! ### What a type of keys does -/
structure KeyT (P : Program) {κ : Type} [DecidableEq κ] (kt : TypeId) (ek : κ → Value) : Prop where
  chk : ∀ (e : Bool) (k : κ) (w : World), (Instr.checkKey e 10000 kt (ek k)).run P w = .ok () w
  find : ∀ (k : κ) (ks : List κ) (es : List MapEntry) (w : World), es.map (·.key) = ks.map ek → (Instr.findKey kt (ek k) es).run P w = .ok (look k ks es 0) w
  same : ∀ k : κ, Instr.sameBits 10000 (ek k) (ek k) = true
  inj : ∀ a b : κ, ek a = ek b → a = b
structure MapT (P : Program) {κ ν : Type} [DecidableEq κ] (mt kt et : TypeId) (ek : κ → Value) (ev : ν → Value) (z : ν) : Prop where
  und : P.underlying mt = some (.map kt et)
  key : KeyT P kt ek
  zero : (P.info? et).map (·.zero) = some (some (ev z))
section
variable {P : Program}
theorem findNow_string (k : ByteArray) : ∀ (ks : List ByteArray) (es : List MapEntry) (i : Nat), es.map (·.key) = ks.map Value.string → Instr.findNow .string (.string k) es i = some (look k ks es i)
  | [], [], i, _ => rfl
  | k' :: ks, e :: es, i, h => by
    simp only [List.map_cons, List.cons.injEq] at h
    unfold Instr.findNow look
    rw [h.1]
    simp only [Instr.sameNow]
    by_cases hk : k' = k
    · subst hk; simp [beq_bytes]
    · rw [if_neg hk, beq_bytes, decide_eq_false (fun e => hk e.symm)]
      exact findNow_string k ks es (i + 1) h.2
  | [], e :: es, i, h => by cases h
  | k' :: ks, [], i, h => by cases h
theorem sameBits_string (n : Nat) (k : ByteArray) : Instr.sameBits n (.string k) (.string k) = true := by cases n <;> simp [Instr.sameBits, beq_bytes]
theorem checkKey_string {kt : TypeId} (h : P.underlying kt = some .string) (e : Bool) (k : ByteArray) (n : Nat) (w : World) : (Instr.checkKey e (n + 1) kt (.string k)).run P w = .ok () w := by simp [Instr.checkKey, run_underlying h]
theorem keyT_string {kt : TypeId} (h : P.underlying kt = some .string) : KeyT P kt Value.string where
  chk e k w := checkKey_string h e k 9999 w
  find k ks es w he := by simp [Instr.findKey, run_underlying h, findNow_string k ks es 0 he]
  same k := sameBits_string _ k
  inj a b h := by cases h; rfl
/-- keys that are compared one by one -/
theorem findAsking_run {κ : Type} [DecidableEq κ] {kt : TypeId} {ek : κ → Value} (heq : ∀ a b w, (Op.equal kt (ek a) (ek b)).run P w = .ok (decide (a = b)) w) (k : κ) (w : World) :
    ∀ (ks : List κ) (es : List MapEntry) (i : Nat), es.map (·.key) = ks.map ek → (Instr.findAsking kt (ek k) es i).run P w = .ok (look k ks es i) w
  | [], [], i, _ => rfl
  | k' :: ks, e :: es, i, h => by
    simp only [List.map_cons, List.cons.injEq] at h
    unfold Instr.findAsking look
    rw [h.1, Sem.run_bind, heq, Result.andThen_ok]
    by_cases hk : k' = k
    · subst hk; simp
    · rw [if_neg hk, decide_eq_false (fun e => hk e.symm), if_neg (by simp)]
      exact findAsking_run heq k w ks es (i + 1) h.2
  | [], e :: es, i, h => by cases h
  | k' :: ks, [], i, h => by cases h
end

/-! ### A map's block -/
section
variable {κ ν : Type} [DecidableEq κ] {ek : κ → Value} {ev : ν → Value} {P : Program} {S : Nat → Prop} {w w' : World} {b mt kt et : Nat} {l : List (κ × ν)} {z : ν}
/-- the entries of a map, as a list of pairs -/
structure Ents (ek : κ → Value) (ev : ν → Value) (es : List MapEntry) (clock : Nat) (l : List (κ × ν)) : Prop where
  eq : es.map (fun e => (e.key, e.val)) = l.map (fun x => (ek x.1, ev x.2))
  born : ∀ e ∈ es, e.born < clock
  nodup : (es.map (·.born)).Nodup
def Mp (ek : κ → Value) (ev : ν → Value) (w : World) (b : Nat) (l : List (κ × ν)) : Prop :=
  (mkeys l).Nodup ∧ ∃ es clock, w.heap[b]? = some (.map es clock) ∧ Ents ek ev es.toList clock l
theorem Mp.keys (h : Mp ek ev w b l) : (mkeys l).Nodup := h.1
theorem Mp.lt (h : Mp ek ev w b l) : b < w.heap.size := by obtain ⟨_, es, c, hb, _⟩ := h; exact (Array.getElem?_eq_some_iff.1 hb).1
theorem Mp.chg (h : Mp ek ev w b l) (k : Chg S w w') (hs : ¬ S b) : Mp ek ev w' b l := by
  have hl := h.lt
  obtain ⟨hn, es, c, hb, he⟩ := h
  exact ⟨hn, es, c, (k.block b hl hs).trans hb, he⟩
theorem Mp.ext (h : Mp ek ev w b l) (k : Ext w w') : Mp ek ev w' b l := h.chg (k.chg (fun _ => False)) (fun h => h)
theorem Mp.new (hb : w.heap[b]? = some (.map #[] 0)) : Mp ek ev w b ([] : List (κ × ν)) := ⟨List.nodup_nil, #[], 0, hb, rfl, by simp, by simp⟩
theorem Ents.keys {es : List MapEntry} {c : Nat} (h : Ents ek ev es c l) : es.map (·.key) = (mkeys l).map ek := by
  have := congrArg (List.map Prod.fst) h.eq
  simpa [mkeys, List.map_map, Function.comp_def] using this
/-- where a key is found: nowhere, or at a place -/
theorem look_spec (k : κ) : ∀ (es : List MapEntry) (l : List (κ × ν)) (i : Nat), es.map (fun e => (e.key, e.val)) = l.map (fun x => (ek x.1, ev x.2)) →
    (mget l k = none ∧ look k (mkeys l) es i = none ∧ mdel l k = l ∧ ∀ v, mput l k v = l ++ [(k, v)]) ∨
    ∃ j v e, mget l k = some v ∧ look k (mkeys l) es i = some (i + j, ev v) ∧ es[j]? = some e ∧ e.key = ek k ∧ (∀ v', mput l k v' = l.set j (k, v')) ∧ mdel l k = l.eraseIdx j
  | [], [], i, _ => .inl ⟨rfl, rfl, rfl, fun _ => rfl⟩
  | e :: es, x :: l, i, h => by
    simp only [List.map_cons, List.cons.injEq, Prod.mk.injEq] at h
    by_cases hk : x.1 = k
    · right
      refine ⟨0, x.2, e, by simp [mget, hk], by simp [look, mkeys, hk, h.1.2], rfl, by rw [h.1.1, hk], fun v' => by simp [mput, hk], by simp [mdel, hk]⟩
    · rcases look_spec k es l (i + 1) h.2 with ⟨h1, h2, h3, h4⟩ | ⟨j, v, e', h1, h2, h3, h4, h5, h6⟩
      · left
        exact ⟨by simp [mget, hk, h1], by simpa [look, mkeys, hk] using h2, by simp [mdel, hk, h3], fun v => by simp [mput, hk, h4]⟩
      · right
        refine ⟨j + 1, v, e', by simp [mget, hk, h1], ?_, by simpa using h3, h4, fun v' => by simp [mput, hk, h5], by simp [mdel, hk, h6]⟩
        have : look k (mkeys (x :: l)) (e :: es) i = look k (mkeys l) es (i + 1) := by simp [look, mkeys, hk]
        rw [this, h2]; congr 2; omega
  | [], x :: l, i, h => by cases h
  | e :: es, [], i, h => by cases h
theorem getMap_run {es : Array MapEntry} {c : Nat} (hb : w.heap[b]? = some (.map es c)) : (getObj b).run P w = .ok (.map es c) w := by simp [getObj, Sem.run, hb]
theorem zero_run {z : Value} (hz : (P.info? et).map (·.zero) = some (some z)) (w : World) : (zeroValue et).run P w = .ok z w := by
  cases hi : P.info? et with
  | none => rw [hi] at hz; cases hz
  | some i =>
    rw [hi] at hz
    have : i.zero = some z := by simpa using hz
    simp [zeroValue, typeInfo, prog_run, hi, this]
theorem lookup_run (ht : MapT P mt kt et ek ev z) (h : Mp ek ev w b l) (k : κ) : (Instr.lookup mt (.map (some b)) (ek k) false).run P w = .ok (ev ((mget l k).getD z)) w := by
  obtain ⟨_, es, c, hb, he⟩ := h
  have hf := ht.key.find k (mkeys l) es.toList w he.keys
  simp only [Instr.lookup, Sem.run_bind, run_underlying ht.und, Result.andThen_ok, getMap_run hb, Sem.run_pure, ht.key.chk, hf]
  rcases look_spec k es.toList l 0 he.eq with ⟨h1, h2, _⟩ | ⟨j, v, e, h1, h2, _⟩
  · rw [h2]; simp [h1, zero_run ht.zero]
  · rw [h2]; simp [h1]
theorem lookup_run2 (ht : MapT P mt kt et ek ev z) (h : Mp ek ev w b l) (k : κ) : (Instr.lookup mt (.map (some b)) (ek k) true).run P w = .ok (.tuple #[ev ((mget l k).getD z), .bool (mget l k).isSome]) w := by
  obtain ⟨_, es, c, hb, he⟩ := h
  have hf := ht.key.find k (mkeys l) es.toList w he.keys
  simp only [Instr.lookup, Sem.run_bind, run_underlying ht.und, Result.andThen_ok, getMap_run hb, Sem.run_pure, ht.key.chk, hf]
  rcases look_spec k es.toList l 0 he.eq with ⟨h1, h2, _⟩ | ⟨j, v, e, h1, h2, _⟩
  · rw [h2]; simp [h1, zero_run ht.zero]
  · rw [h2]; simp [h1]
theorem setMap_run {es : Array MapEntry} {c : Nat} (hb : w.heap[b]? = some (.map es c)) (es' : Array MapEntry) (c' : Nat) (hs : c ≤ c') :
    ∃ w', (setObj b (.map es' c')).run P w = .ok () w' ∧ Chg (fun x => x = b) w w' ∧ w'.heap[b]? = some (.map es' c') ∧ w'.heap.size = w.heap.size := by
  have hl := (Array.getElem?_eq_some_iff.1 hb).1
  refine ⟨ChangeMaps.setBlock w b (.map es' c'), by simp [setObj, Sem.run, hb, ChangeMaps.setBlock], ⟨rfl, rfl, rfl, by simp [ChangeMaps.setBlock], fun k hk hn => ?_⟩, ?_, by simp [ChangeMaps.setBlock]⟩
  · simp [ChangeMaps.setBlock, Array.getElem?_setIfInBounds, Ne.symm hn]
  · simp [ChangeMaps.setBlock, Array.getElem?_setIfInBounds, hl]
theorem Ents.size {es : List MapEntry} {c : Nat} (h : Ents ek ev es c l) : es.length = l.length := by have := congrArg List.length h.eq; simpa using this
theorem Ents.set {es : List MapEntry} {c j : Nat} (h : Ents ek ev es c l) {e : MapEntry} (he : es[j]? = some e) {k : κ} (hk : e.key = ek k) (v : ν) :
    Ents ek ev (es.set j { e with key := ek k, val := ev v }) c (l.set j (k, v)) := by
  refine ⟨?_, fun x hx => ?_, ?_⟩
  · rw [List.map_set, List.map_set, h.eq]
  · rcases List.mem_or_eq_of_mem_set hx with hx | rfl
    · exact h.born x hx
    · exact h.born e (List.mem_of_getElem? he)
  · rw [List.map_set]
    have : (es.map (·.born)).set j e.born = es.map (·.born) := by
      apply List.ext_getElem? ; intro i
      by_cases hi : j = i
      · subst hi
        have hl : j < es.length := (List.getElem?_eq_some_iff.1 he).1
        rw [List.getElem?_set_self (by simpa using hl)]; simp [he]
      · rw [List.getElem?_set_ne hi]
    rw [this]; exact h.nodup
theorem mapUpdate_run (ht : MapT P mt kt et ek ev z) (h : Mp ek ev w b l) (k : κ) (v : ν) :
    ∃ w', (Instr.mapUpdate mt (.map (some b)) (ek k) (ev v)).run P w = .ok () w' ∧ Chg (fun x => x = b) w w' ∧ Mp ek ev w' b (mput l k v) ∧ w'.heap.size = w.heap.size := by
  obtain ⟨hn, es, c, hb, he⟩ := h
  have hf := ht.key.find k (mkeys l) es.toList w he.keys
  simp only [Instr.mapUpdate, Sem.run_bind, run_underlying ht.und, Result.andThen_ok, getMap_run hb, ht.key.chk, hf]
  rcases look_spec k es.toList l 0 he.eq with ⟨h1, h2, h3, h4⟩ | ⟨j, v0, e, h1, h2, h3, h4, h5, h6⟩
  · obtain ⟨w', hr, hc, hb', hs⟩ := setMap_run (P := P) hb (es.push { key := ek k, val := ev v, born := c }) (c + 1) (by omega)
    refine ⟨w', by rw [h2]; simpa using hr, hc, ⟨mput_nodup hn k v, _, _, hb', ?_⟩, hs⟩
    rw [h4, Array.toList_push]
    refine ⟨by simp [he.eq], fun x hx => ?_, ?_⟩
    · rcases List.mem_append.1 hx with hx | hx
      · have := he.born x hx; omega
      · simp only [List.mem_singleton] at hx; subst hx; exact Nat.lt_succ_self c
    · rw [List.map_append, List.nodup_append]
      refine ⟨he.nodup, by simp, fun x hx y hy => ?_⟩
      simp only [List.map_cons, List.map_nil, List.mem_singleton] at hy
      obtain ⟨e, he', rfl⟩ := List.mem_map.1 hx
      have := he.born e he'; omega
  · obtain ⟨w', hr, hc, hb', hs⟩ := setMap_run (P := P) hb (es.modify j fun e => { e with key := ek k, val := ev v }) c (Nat.le_refl _)
    have hkey : (((es[j]?).map (·.key)).getD (ek k)) = ek k := by
      rw [← Array.getElem?_toList, h3]; exact h4
    refine ⟨w', ?_, hc, ⟨mput_nodup hn k v, _, _, hb', ?_⟩, hs⟩
    · rw [h2]
      simp only [Nat.zero_add, hkey, Instr.keyThatStays, ht.key.same, if_true, Sem.run_bind, Sem.run_pure, Result.andThen_ok]
      exact hr
    · rw [h5]
      have : (es.modify j fun e => { e with key := ek k, val := ev v }).toList = es.toList.set j { e with key := ek k, val := ev v } := by
        rw [Array.toList_modify]
        apply List.ext_getElem?; intro i
        have hl : j < es.toList.length := (List.getElem?_eq_some_iff.1 h3).1
        rw [List.getElem?_modify]
        by_cases hi : j = i
        · subst hi; rw [h3, List.getElem?_set_self hl]; simp
        · rw [List.getElem?_set_ne hi]; simp [hi]
      rw [this]
      exact he.set h3 h4 v
theorem map_erase {α β : Type} (f : α → β) : ∀ (l : List α) (j : Nat), (l.eraseIdx j).map f = (l.map f).eraseIdx j
  | [], _ => rfl
  | x :: l, 0 => rfl
  | x :: l, j + 1 => by simp [map_erase f l j]
theorem delete_run {ty : TypeId} (ht : MapT P mt kt et ek ev z) (h : Mp ek ev w b l) (k : κ) :
    ∃ w', (Builtin.delete_ #[mt, kt] ty #[.map (some b), ek k]).run P w = .ok (.tuple #[]) w' ∧ Chg (fun x => x = b) w w' ∧ Mp ek ev w' b (mdel l k) ∧ w'.heap.size = w.heap.size := by
  obtain ⟨hn, es, c, hb, he⟩ := h
  have hf := ht.key.find k (mkeys l) es.toList w he.keys
  have hnd : (mkeys (mdel l k)).Nodup := (List.Sublist.map _ (mdel_sub l k)).nodup hn
  simp only [Builtin.delete_, List.getElem?_toArray, List.getElem?_cons_zero, List.getElem?_cons_succ, Sem.run_bind, run_underlying ht.und, Result.andThen_ok, getMap_run hb, ht.key.chk, hf]
  rcases look_spec k es.toList l 0 he.eq with ⟨h1, h2, h3, h4⟩ | ⟨j, v0, e, h1, h2, h3, h4, h5, h6⟩
  · obtain ⟨w', hr, hc, hb', hs⟩ := setMap_run (P := P) hb es c (Nat.le_refl _)
    refine ⟨w', by rw [h2]; simp [hr, Sem.run_bind], hc, ⟨hnd, _, _, hb', ?_⟩, hs⟩
    rw [h3]; exact he
  · obtain ⟨w', hr, hc, hb', hs⟩ := setMap_run (P := P) hb (es.eraseIdxIfInBounds j) c (Nat.le_refl _)
    refine ⟨w', by rw [h2]; simp [hr, Sem.run_bind], hc, ⟨hnd, _, _, hb', ?_⟩, hs⟩
    have : (es.eraseIdxIfInBounds j).toList = es.toList.eraseIdx j := by simp
    rw [h6, this]
    refine ⟨by rw [map_erase, map_erase, he.eq], fun x hx => he.born x (List.mem_of_mem_eraseIdx hx), ?_⟩
    rw [map_erase]; exact (List.eraseIdx_sublist _ _).nodup he.nodup
theorem len_run {ty : TypeId} (ht : MapT P mt kt et ek ev z) (h : Mp ek ev w b l) : (Builtin.len_ #[mt] ty #[.map (some b)]).run P w = .ok (.int .i64 (l.length : Int)) w := by
  obtain ⟨hn, es, c, hb, he⟩ := h
  have := he.size
  simp only [Array.length_toList] at this
  simp [Builtin.len_, run_underlying ht.und, Sem.run_bind, getMap_run hb, this, goInt]
/-! ### A map gone through -/
/-- the iterator in block r goes through the map of block b, which stands; what is left to come -/
def Rg (ek : κ → Value) (ev : ν → Value) (w : World) (r b : Nat) (left : List (κ × ν)) : Prop :=
  ∃ es clock since seen c0, w.heap[r]? = some (.mapIter (some b) since seen c0) ∧ w.heap[b]? = some (.map es clock) ∧ (∀ x ∈ es.toList, x.born < since) ∧ since ≤ c0 ∧ since ≤ clock ∧ (es.toList.map (·.born)).Nodup ∧
    (leftOf es seen).toList.map (fun e => (e.key, e.val)) = left.map (fun x => (ek x.1, ev x.2))
theorem Rg.lt {r : Nat} (h : Rg ek ev w r b l) : r < w.heap.size ∧ b < w.heap.size := by
  obtain ⟨es, c, s, seen, c0, hr, hb, _⟩ := h; exact ⟨(Array.getElem?_eq_some_iff.1 hr).1, (Array.getElem?_eq_some_iff.1 hb).1⟩
theorem Rg.chg {r : Nat} (h : Rg ek ev w r b l) (k : Chg S w w') (h1 : ¬ S r) (h2 : ¬ S b) : Rg ek ev w' r b l := by
  have hl := h.lt
  obtain ⟨es, c, s, seen, c0, hr, hb, h'⟩ := h
  exact ⟨es, c, s, seen, c0, (k.block r hl.1 h1).trans hr, (k.block b hl.2 h2).trans hb, h'⟩
theorem Rg.ext {r : Nat} (h : Rg ek ev w r b l) (k : Ext w w') : Rg ek ev w' r b l := h.chg (k.chg (fun _ => False)) (fun h => h) (fun h => h)
theorem range_run (ht : MapT P mt kt et ek ev z) (h : Mp ek ev w b l) :
    ∃ r w', (Instr.range mt (.map (some b))).run P w = .ok (.pointer (some ⟨r, 0, none⟩)) w' ∧ Ext w w' ∧ r = w.heap.size ∧ Rg ek ev w' r b l := by
  have hlt := h.lt
  obtain ⟨hn, es, c, hb, he⟩ := h
  refine ⟨w.heap.size, w.alloc (.mapIter (some b) c #[] c), ?_, Ext.alloc _ _, rfl, es, c, c, #[], c, heap_alloc_new w _, ?_, he.born, Nat.le_refl _, Nat.le_refl _, he.nodup, ?_⟩
  · simp only [Instr.range, Sem.run_bind, run_underlying ht.und, Result.andThen_ok, getMap_run hb, Sem.run_pure]; rfl
  · exact ((Ext.alloc w _).block b hlt).trans hb
  · rw [← he.eq]; congr 1
    simp [leftOf]
/-! ### The forms -/
section
variable {K : ν → World → Prop} {k : κ} {v : ν}
theorem rn_get (ht : MapT P mt kt et ek ev z) (h : Mp ek ev w b l) (hk : K ((mget l k).getD z) w) : Rn P ev (Instr.lookup mt (.map (some b)) (ek k) false) w K := ⟨_, _, lookup_run ht h k, hk⟩

theorem rn_get2 {enc : ν × Bool → Value} {K : ν × Bool → World → Prop} (he : ∀ x, enc x = .tuple #[ev x.1, .bool x.2]) (ht : MapT P mt kt et ek ev z) (h : Mp ek ev w b l) (hk : K ((mget l k).getD z, (mget l k).isSome) w) :
    Rn P enc (Instr.lookup mt (.map (some b)) (ek k) true) w K := ⟨_, _, (lookup_run2 ht h k).trans (by rw [he]), hk⟩
theorem rnu_put {K : World → Prop} (ht : MapT P mt kt et ek ev z) (h : Mp ek ev w b l) (hk : ∀ w', Chg (fun x => x = b) w w' → Mp ek ev w' b (mput l k v) → w'.heap.size = w.heap.size → K w') :
    RnU P (Instr.mapUpdate mt (.map (some b)) (ek k) (ev v)) w K := let ⟨w', h1, h2, h3, h4⟩ := mapUpdate_run ht h k v; ⟨w', h1, hk w' h2 h3 h4⟩
theorem rn_del {K : Unit → World → Prop} {ty : TypeId} (ht : MapT P mt kt et ek ev z) (h : Mp ek ev w b l) (hk : ∀ w', Chg (fun x => x = b) w w' → Mp ek ev w' b (mdel l k) → w'.heap.size = w.heap.size → K () w') :
    Rn P (fun _ : Unit => Value.tuple #[]) (Builtin.delete_ #[mt, kt] ty #[.map (some b), ek k]) w K := let ⟨w', h1, h2, h3, h4⟩ := delete_run ht h k; ⟨(), w', h1, hk w' h2 h3 h4⟩
theorem rn_mlen {K : Int → World → Prop} {ty : TypeId} (ht : MapT P mt kt et ek ev z) (h : Mp ek ev w b l) (hk : K (l.length : Int) w) : Rn P (Value.int .i64) (Builtin.len_ #[mt] ty #[.map (some b)]) w K := ⟨_, _, len_run ht h, hk⟩
end
theorem drew_ext (w : World) : Ext w w.drew := Ext.drew w
theorem left_push (es : Array MapEntry) (seen : Array Nat) (hn : (es.toList.map (·.born)).Nodup) {e : MapEntry} {j : Nat} (hj : (leftOf es seen).toList[j]? = some e) :
    (leftOf es (seen.push e.born)).toList = (leftOf es seen).toList.eraseIdx j := by
  have e1 : (leftOf es seen).toList = es.toList.filter fun e => !seen.contains e.born := by simp [leftOf]
  have e2 : (leftOf es (seen.push e.born)).toList = (leftOf es seen).toList.filter fun x => !(x.born == e.born) := by
    rw [e1]; simp only [leftOf, Array.toList_filter, List.filter_filter]
    congr 1; funext x; by_cases h : x.born = e.born <;> simp [h]
  rw [e2]
  have hnd : ((leftOf es seen).toList.map (·.born)).Nodup := by rw [e1]; exact (List.Sublist.map _ List.filter_sublist).nodup hn
  generalize (leftOf es seen).toList = L at hj hnd
  clear e1 e2
  induction L generalizing j with
  | nil => simp at hj
  | cons x L ih =>
    simp only [List.map_cons, List.nodup_cons] at hnd
    cases j with
    | zero =>
      simp only [List.getElem?_cons_zero, Option.some.injEq] at hj
      subst hj
      rw [List.filter_cons_of_neg (by simp), List.eraseIdx_cons_zero]
      exact List.filter_eq_self.2 fun y hy => by
        have : y.born ≠ x.born := fun h => hnd.1 (by rw [← h]; exact List.mem_map.2 ⟨y, hy, rfl⟩)
        simp [this]
    | succ j =>
      simp only [List.getElem?_cons_succ] at hj
      have hne : x.born ≠ e.born := fun h => hnd.1 (by rw [h]; exact List.mem_map.2 ⟨e, List.mem_of_getElem? hj, rfl⟩)
      rw [List.filter_cons_of_pos (by simp [hne]), List.eraseIdx_cons_succ, ih hj hnd.2]
theorem next_run {r ty : Nat} (h : Rg ek ev w r b l) :
    (l = [] ∧ (Instr.next (.pointer (some ⟨r, 0, none⟩)) false ty).run P w = .ok (.tuple #[.bool false]) w) ∨
    ∃ j k v w', l[j]? = some (k, v) ∧ (Instr.next (.pointer (some ⟨r, 0, none⟩)) false ty).run P w = .ok (.tuple #[.bool true, ek k, ev v]) w' ∧ Chg (fun x => x = r) w w' ∧ w'.heap.size = w.heap.size ∧
      Rg ek ev w' r b (l.eraseIdx j) ∧ (Instr.entry (.pointer (some ⟨r, 0, none⟩))).run P w' = .ok (.tuple #[ek k, ev v]) w' := by
  have hlt := h.lt
  obtain ⟨es, c, since, seen, c0, hr, hb, hold, hsc, hcc, hn, heq⟩ := h
  rcases run_next_at (P := P) w ty r b since c0 seen es c hr hb hold hsc with ⟨h0, hrun⟩ | ⟨e, he, w1, hw1, hrun⟩
  · left
    refine ⟨?_, hrun⟩
    have : (leftOf es seen).toList = [] := by rw [← Array.length_toList] at h0; exact List.eq_nil_of_length_eq_zero h0
    rw [this] at heq
    exact (List.map_eq_nil_iff.1 heq.symm)
  · right
    obtain ⟨j, hj, hje⟩ := List.mem_iff_getElem.1 he
    have hj? : (leftOf es seen).toList[j]? = some e := by rw [List.getElem?_eq_getElem hj, hje]
    have hll : (leftOf es seen).toList.length = l.length := by have := congrArg List.length heq; simpa using this
    have hjl : j < l.length := by omega
    have hpair : (e.key, e.val) = (ek l[j].1, ev l[j].2) := by
      have := congrArg (fun x => x[j]?) heq
      simp only [List.getElem?_map, hj?, List.getElem?_eq_getElem hjl, Option.map_some, Option.some.injEq] at this
      exact this
    have hk1 : e.key = ek l[j].1 := congrArg Prod.fst hpair
    have hk2 : e.val = ev l[j].2 := congrArg Prod.snd hpair
    have hne : r ≠ b := fun h => by subst h; rw [hr] at hb; cases hb
    have hE : Ext w w1 := by
      rcases hw1 with rfl | rfl
      · exact Ext.refl _
      · exact Ext.drew _
    have hhe : w1.heap = w.heap := by rcases hw1 with rfl | rfl <;> rfl
    have hr' : (ChangeMaps.setBlock w1 r (.mapIter (some b) since (seen.push e.born) c)).heap[r]? = some (.mapIter (some b) since (seen.push e.born) c) := by
      simp [ChangeMaps.setBlock, Array.getElem?_setIfInBounds, hhe, hlt.1]
    have hb' : (ChangeMaps.setBlock w1 r (.mapIter (some b) since (seen.push e.born) c)).heap[b]? = some (.map es c) := by
      simp [ChangeMaps.setBlock, Array.getElem?_setIfInBounds, hhe, hne, hb]
    have hmem := mem_left he
    refine ⟨j, l[j].1, l[j].2, ChangeMaps.setBlock w1 r (.mapIter (some b) since (seen.push e.born) c), by rw [List.getElem?_eq_getElem hjl], by rw [hrun, hk1, hk2], ⟨hE.os, hE.tape, hE.output, by simp [ChangeMaps.setBlock, hhe], fun k hk hn' => ?_⟩, by simp [ChangeMaps.setBlock, hhe], ?_, ?_⟩
    · simp [ChangeMaps.setBlock, Array.getElem?_setIfInBounds, Ne.symm hn', hhe]
    · refine ⟨es, c, since, _, c, hr', hb', hold, hcc, hcc, hn, ?_⟩
      rw [left_push es seen hn hj?, map_erase, map_erase, heq]
    · rw [run_entry_at _ r b since seen es c e hr' hb' hmem.1 hn, hk1, hk2]
end

theorem iteT {p a b : Prop} [Decidable p] (h : p) (ha : a) : if p then a else b := by rw [if_pos h]; exact ha
theorem iteF {p a b : Prop} [Decidable p] (h : ¬ p) (hb : b) : if p then a else b := by rw [if_neg h]; exact hb
/-- a local variable that is laid at once -/
theorem New.var {P : Program} {T : TypeId} {zs : List Value} {v : Value} {w : World} {K : Nat → World → Prop} (cs : List Value) (hs : (P.info? T).map (·.size) = some cs.length) (hv : v.cells = cs.toArray)
    (h1 : ∀ u ∈ cs, u.oneCell' = true) (hl : cs.length = zs.length) (h : ∀ b w', Ext w w' → Blk w' b T cs → w.heap.size ≤ b → K b w') :
    New T zs w fun b w => RnU P (Instr.storeAt T (Ptr ⟨b, 0, none⟩) v) w fun w => K b w :=
  New.mk fun b w1 e1 hb hn s1 => rnu_st (b := b) (o := 0) rfl hb cs hs hv h1 (by omega) fun w2 c2 s2 hb2 => by
    have : over zs 0 cs = cs := by unfold over; simp [hl]
    rw [this] at hb2
    exact h b w2 (e1.then c2 (fun x hx => by omega)) hb2 (by omega)
end Go.Eng

/- Contracts: the order of keys, what is out of order, and where a resource stands (both packages for layer 14). -/
namespace Go.Proofs.Ytdoeegfcmbcbkaa.Ct
open Go Go.Eng Tr
set_option linter.unusedVariables false
set_option maxRecDepth 100000

/-! ### The order of texts -/
theorem cmp_less : ∀ a b : List UInt8, (0 ≤ Lib.compareBytes a b) ↔ Op.bytesLess a b = false
  | [], [] => by simp [Lib.compareBytes, Op.bytesLess]
  | [], _ :: _ => by simp [Lib.compareBytes, Op.bytesLess]
  | _ :: _, [] => by simp [Lib.compareBytes, Op.bytesLess]
  | x :: a, y :: b => by
    have ih := cmp_less a b
    unfold Lib.compareBytes Op.bytesLess
    by_cases h : x < y
    · simp [h]
    · by_cases h' : y < x
      · have : x ≠ y := fun e => by subst e; exact h h'
        simp [h, h', this]
      · have : x = y := UInt8.le_antisymm (UInt8.not_lt.1 h') (UInt8.not_lt.1 h)
        subst this
        simp [h, ih]
theorem less_irrefl : ∀ a : List UInt8, Op.bytesLess a a = false
  | [] => rfl
  | x :: a => by simp [Op.bytesLess, less_irrefl a]
theorem less_trans : ∀ a b c : List UInt8, Op.bytesLess a b = true → Op.bytesLess b c = true → Op.bytesLess a c = true
  | _, [], _, h, _ => by simp [Op.bytesLess] at h
  | _, _ :: _, [], _, h => by simp [Op.bytesLess] at h
  | [], _ :: _, _ :: _, _, _ => rfl
  | x :: a, y :: b, z :: c, h, k => by
    simp only [Op.bytesLess, Bool.or_eq_true, decide_eq_true_eq, Bool.and_eq_true, beq_iff_eq] at h k ⊢
    rcases h with h | ⟨rfl, h⟩
    · rcases k with k | ⟨rfl, k⟩
      · exact .inl (UInt8.lt_trans h k)
      · exact .inl h
    · rcases k with k | ⟨rfl, k⟩
      · exact .inl k
      · exact .inr ⟨rfl, less_trans a b c h k⟩
theorem less_total : ∀ a b : List UInt8, Op.bytesLess a b = false → Op.bytesLess b a = false → a = b
  | [], [], _, _ => rfl
  | [], _ :: _, h, _ => by simp [Op.bytesLess] at h
  | _ :: _, [], _, h => by simp [Op.bytesLess] at h
  | x :: a, y :: b, h, k => by
    simp only [Op.bytesLess, Bool.or_eq_false_iff, decide_eq_false_iff_not, Bool.and_eq_false_iff, beq_eq_false_iff_ne] at h k
    have : x = y := UInt8.le_antisymm (UInt8.not_lt.1 k.1) (UInt8.not_lt.1 h.1)
    subst this
    rw [less_total a b (h.2.resolve_left (by simp)) (k.2.resolve_left (by simp))]
theorem sLt_irrefl (a : ByteArray) : sLt a a = false := less_irrefl _
theorem sLt_trans {a b c : ByteArray} (h : sLt a b = true) (k : sLt b c = true) : sLt a c = true := less_trans _ _ _ h k
theorem sLt_total {a b : ByteArray} (h : sLt a b = false) (k : sLt b a = false) : a = b := by
  have := less_total _ _ h k
  cases a; cases b; simp only [ByteArray.mk.injEq]; exact Array.ext' this

/-! ### Keys -/
/-- key (k, n) ahead of (k', n') -/
def kLt (k : Int) (n : ByteArray) (k' : Int) (n' : ByteArray) : Bool := decide (k < k') || (decide (k = k') && sLt n n')
section
variable {w : World} {F G : Nat → Prop}
theorem compare_ok (a b : ByteArray) : Ans (Value.int .i64) 134 #[.string a, .string b] w (Lib.compareBytes a.data.toList b.data.toList) := by
  refine c134 ?_
  unfold f134
  refine (c154 (R := fun x w' => Ext w w' ∧ x = Lib.compareBytes a.data.toList b.data.toList) ?_).mono ?_
  · unfold f154
    refine ⟨_, w, ?_, Ext.refl _, rfl⟩
    rw [run_callFunc_extern Try.func163 rfl rfl (e := Extern.BytealgCompare.compare) (by kernel_rfl) (by kernel_rfl), Lib.run_compareString]; rfl
  · exact fun x w' h => h
theorem nan_int (a : Int) : Ans Value.bool 118 #[.int .i64 a] w false := c118 (by unfold f118; exact ⟨Ext.refl _, by simp⟩)
theorem nan_string (a : ByteArray) : Ans Value.bool 119 #[.string a] w false := c119 (by unfold f119; exact ⟨Ext.refl _, by simp⟩)
theorem cmpInt_ok (a b : Int) : Ans (Value.int .i64) 87 #[.int .i64 a, .int .i64 b] w (if a < b then -1 else if b < a then 1 else 0) := by
  refine c87 ?_
  unfold f87
  refine (nan_int a).mono ?_; rintro _ w1 ⟨e1, rfl⟩
  refine (nan_int b).mono ?_; rintro _ w2 ⟨e2, rfl⟩
  rw [if_neg (by simp), if_neg (by simp)]
  by_cases h : a < b
  · rw [if_pos h, if_pos h]; exact ⟨e1.trans e2, rfl⟩
  · rw [if_neg h, if_neg h]
    by_cases h' : b < a
    · rw [if_pos h', if_pos h']; exact ⟨e1.trans e2, rfl⟩
    · rw [if_neg h', if_neg h']; exact ⟨e1.trans e2, rfl⟩
theorem order_ok (a b : TKey) : Cal PP (Value.int .i64) 111 #[a.v, b.v] w fun x w' => Ext w w' ∧ (decide (0 ≤ x) = !kLt a.kind a.name b.kind b.name) := by
  refine c111 ?_
  unfold f111
  refine New.mk fun b2 w1 e1 h2 _ _ => ?_
  refine New.mk fun b3 w2 e2 h3 _ _ => ?_
  replace h2 := h2.ext e2; replace e1 := e1.trans e2
  refine rn_blk one3 h2 rfl rfl ?_
  refine rn_blk one3 h3 rfl rfl ?_
  refine (cmpInt_ok _ _).mono ?_; rintro _ w3 ⟨e3, rfl⟩
  replace h2 := h2.ext e3; replace h3 := h3.ext e3; replace e1 := e1.trans e3
  unfold kLt
  by_cases h : a.kind < b.kind
  · simp only [if_pos h]
    rw [if_pos (by decide)]; exact ⟨e1, by simp [h]⟩
  · simp only [if_neg h]
    by_cases h' : b.kind < a.kind
    · rw [if_pos h', if_pos (by decide)]; exact ⟨e1, by simp [h]; omega⟩
    · rw [if_neg h', if_neg (by simp)]
      refine rn_blk one9 h2 rfl rfl ?_
      refine rn_blk one9 h3 rfl rfl ?_
      refine (compare_ok _ _).mono ?_; rintro _ w4 ⟨e4, rfl⟩
      refine ⟨e1.trans e4, ?_⟩
      have : a.kind = b.kind := by omega
      have h2 := cmp_less a.name.data.toList b.name.data.toList
      simp only [this, Int.lt_irrefl, decide_false, decide_true, Bool.false_or, Bool.true_and, sLt]
      cases hb : Op.bytesLess a.name.data.toList b.name.data.toList with
      | false => simp [h2.2 hb]
      | true => rw [hb] at h2; simpa using h2
theorem of_ok (r : TResource) : Ans TKey.v 63 #[r.v] w ⟨r.Kind, r.Name⟩ := by
  refine c63 ?_
  unfold f63
  refine New.mk fun b1 w1 e1 h1 _ s1 => ?_
  refine New.mk fun b2 w2 e2 h2 hn _ => ?_
  replace h1 := h1.ext e2; replace e1 := e1.trans e2
  refine rn_blk one3 h1 rfl rfl ?_
  refine rn_blk one9 h1 rfl rfl ?_
  refine rnu_st (b := b2) (o := 0) rfl h2 (TKey.cells ⟨r.Kind, r.Name⟩) sz113 rfl (by simp [TKey.cells, Value.oneCell']) (by simp [TKey.cells]) fun w3 c3 s3 h2 => ?_
  replace h2 : Blk w3 b2 113 (TKey.cells ⟨r.Kind, r.Name⟩) := h2
  refine rnr_ldN (x := ⟨r.Kind, r.Name⟩) many113 h2.whole rfl rfl ?_
  exact ⟨e1.then c3 (fun b hb => by omega), rfl⟩
/-- the resource at place i is out of place -/
def outAt (l : List DRes) (i : Nat) : Bool :=
  match l[i]? with
  | none => false
  | some d => decide (d.kind < 1) || (decide (4 < d.kind) || (d.del || (decide (0 < i) && match l[i - 1]? with
    | none => false
    | some c => !kLt c.kind c.name d.kind d.name)))
/-- the first number below n of which p holds, or -1 -/
def fst? (p : Nat → Bool) (n : Nat) : Int := match (List.range n).find? p with
  | some i => (i : Int)
  | none => -1
theorem fst?_some {p : Nat → Bool} {n k : Nat} (hk : k < n) (hp : p k = true) (hj : ∀ j, j < k → p j = false) : fst? p n = k := by
  unfold fst?
  have : (List.range n).find? p = some k := by
    rw [List.find?_range_eq_some]
    exact ⟨hp, by simpa using hk, fun j hj' => by simp [hj j hj']⟩
  rw [this]
theorem fst?_none {p : Nat → Bool} {n : Nat} (hj : ∀ j, j < n → p j = false) : fst? p n = -1 := by
  unfold fst?
  have : (List.range n).find? p = none := by
    rw [List.find?_range_eq_none]
    exact fun j hj' => by simp [hj j hj']
  rw [this]
theorem outs_ok {s : Sl} {rs : List TResource} {l : List DRes} (h : ConfD F w s rs l) : Ans (Value.int .i64) 93 #[s.v] w (fst? (outAt l) l.length) := by
  refine c93 ?_
  unfold f93
  refine Lp.mk (fun i w' => ∃ k : Nat, i = k ∧ k ≤ l.length ∧ Ext w w' ∧ ∀ j, j < k → outAt l j = false) (fun i => l.length - i.toNat) ⟨0, rfl, Nat.zero_le _, Ext.refl _, fun j hj => absurd hj (Nat.not_lt_zero _)⟩ ?_
  rintro i w1 K ⟨k, rfl, hk, hE, hall⟩ hK
  by_cases hlt : k < l.length
  · rw [if_pos (by rw [h.n]; omega)]
    refine (h.ext hE).idx hlt rfl fun p r _ hp hr => ?_
    refine rn_ldN (x := r) many48 hp rfl rfl ?_
    refine New.var (TResource.cells r) sz48 rfl (oc_res r) rfl fun b4 w2 e2 hb hn => ?_
    replace hE := hE.trans e2; replace hr := hr.ext e2
    refine Jn.dup ?_
    have hout : outAt l k = (decide (l[k].kind < 1) || (decide (4 < l[k].kind) || (l[k].del || (decide (0 < k) && match l[k - 1]? with
        | none => false
        | some c => !kLt c.kind c.name l[k].kind l[k].name)))) := by
      unfold outAt; rw [List.getElem?_eq_getElem hlt]
    have yes : ∀ w', outAt l k = true → Ext w w' → Ext w w' ∧ ((k : Int) = fst? (outAt l) l.length) := fun w' ho hE => ⟨hE, (fst?_some hlt ho hall).symm⟩
    have no : ∀ w', outAt l k = false → Ext w w' → K (IntKind.i64.wrap ((k : Int) + 1)) w' := fun w' ho hE => by
      rw [h.wr hlt]
      refine hK _ _ ⟨k + 1, rfl, hlt, hE, fun j hj => ?_⟩ (by omega)
      by_cases e : j = k
      · subst e; exact ho
      · exact hall j (by omega)
    refine Dr.mk fun w3 hD _ => ?_
    replace hE := hE.trans hD; replace hb := hb.ext hD; replace hr := hr.ext hD
    refine rnl_blk one3 hb rfl rfl ?_
    rw [hr.kind]
    by_cases c1 : l[k].kind < 1
    · rw [if_pos c1]; exact iteT rfl (yes _ (by rw [hout]; simp [c1]) hE)
    rw [if_neg c1]
    refine rnl_blk one3 hb rfl rfl ?_
    rw [hr.kind]
    by_cases c2 : 4 < l[k].kind
    · rw [if_pos c2]; exact iteT rfl (yes _ (by rw [hout]; simp [c2]) hE)
    rw [if_neg c2]
    refine rnl_blk one4 hb rfl rfl ?_
    rw [hr.del]
    by_cases c3 : l[k].del = true
    · rw [if_pos c3]; exact iteT rfl (yes _ (by rw [hout]; simp [c3]) hE)
    rw [if_neg c3]
    by_cases c4 : 0 < k
    · rw [if_pos (by omega)]
      have e1 : IntKind.i64.wrap ((k : Int) - 1) = ((k - 1 : Nat) : Int) := by
        have := h.rd.lim; have := h.n; have := h.rd.cap; unfold maxLen at *
        rw [wrap_in ⟨by omega, by omega⟩]; omega
      rw [e1]
      refine (h.ext hE).idx (k := k - 1) (by omega) rfl fun q r' _ hq hr' => ?_
      refine rnl_ldN (x := r') many48 hq rfl rfl ?_
      refine rnl_ldN (x := r) many48 hb.whole rfl rfl ?_
      refine (of_ok r').mono ?_; rintro _ w4 ⟨e4, rfl⟩
      refine ⟨e4, ?_⟩
      refine (of_ok r).mono ?_; rintro _ w5 ⟨e5, rfl⟩
      refine ⟨e5, ?_⟩
      refine (order_ok _ _).mono ?_; rintro x w6 ⟨e6, hx⟩
      refine ⟨e6, ?_⟩
      show if decide (0 ≤ x) = true then _ else _
      rw [hx, hr.kind, hr.name, hr'.kind, hr'.name]
      have hE := hE.trans (e4.trans (e5.trans e6))
      have hout' : outAt l k = !kLt l[k - 1].kind l[k - 1].name l[k].kind l[k].name := by
        rw [hout, List.getElem?_eq_getElem (by omega : k - 1 < l.length)]; simp [c1, c2, c3, c4]
      rw [← hout']
      cases ho : outAt l k with
      | true => exact iteT rfl (yes _ ho hE)
      | false => exact iteF (by simp) (no _ ho hE)
    · rw [if_neg (by omega)]
      exact iteF (by simp) (no _ (by rw [hout]; simp [c1, c2, c3, c4]) hE)
  · rw [if_neg (by rw [h.n]; omega)]
    exact ⟨hE, (fst?_none fun j hj => hall j (by omega)).symm⟩
end
end Go.Proofs.Ytdoeegfcmbcbkaa.Ct

/- Contracts: what is out of order and where a resource stands, as the document's package says it; keys in maps. -/
namespace Go.Proofs.Ytdoeegfcmbcbkaa.Ct
open Go Go.Eng Tr
set_option linter.unusedVariables false
set_option maxRecDepth 100000

section
variable {w : World} {F G : Nat → Prop} {s : Sl} {rs : List TResource} {l : List DRes}
theorem less_ok (a b : TResource) : Ans Value.bool 47 #[a.v, b.v] w (kLt a.Kind a.Name b.Kind b.Name) := by
  refine c47 ?_
  unfold f47
  refine New.mk fun b2 w1 e1 h2 _ _ => ?_
  refine New.mk fun b3 w2 e2 h3 _ _ => ?_
  replace h2 := h2.ext e2; replace e1 := e1.trans e2
  refine Jn.dup ?_
  refine rn_blk one3 h2 rfl rfl ?_
  refine rn_blk one3 h3 rfl rfl ?_
  unfold kLt
  by_cases h : a.Kind < b.Kind
  · rw [if_pos h]; exact ⟨e1, by simp [h]⟩
  · rw [if_neg h]
    refine rn_blk one3 h2 rfl rfl ?_
    refine rn_blk one3 h3 rfl rfl ?_
    by_cases h' : a.Kind = b.Kind
    · rw [if_pos h']
      refine rn_blk one9 h2 rfl rfl ?_
      refine rn_blk one9 h3 rfl rfl ?_
      exact ⟨e1, by simp [h']⟩
    · rw [if_neg h']; exact ⟨e1, by simp [h, h']⟩
theorem ConfD.wr1 (h : ConfD F w s rs l) {k : Nat} (hk : k ≤ l.length) (h0 : 0 < k) : IntKind.i64.wrap ((k : Int) - 1) = ((k - 1 : Nat) : Int) := by
  have := h.rd.lim; have := h.n; have := h.rd.cap; unfold maxLen at *
  rw [wrap_in ⟨by omega, by omega⟩]; omega
theorem outAt_eq {k : Nat} (hlt : k < l.length) : outAt l k = (decide (l[k].kind < 1) || (decide (4 < l[k].kind) || (l[k].del || (decide (0 < k) && match l[k - 1]? with
        | none => false
        | some c => !kLt c.kind c.name l[k].kind l[k].name)))) := by
  simp only [outAt, List.getElem?_eq_getElem hlt]
  all_goals (cases l[k - 1]? <;> rfl)
/-- one more number of which p does not hold -/
theorem all_succ {p : Nat → Bool} {k : Nat} (h : ∀ j, j < k → p j = false) (hk : p k = false) : ∀ j, j < k + 1 → p j = false := fun j hj => by
  by_cases e : j = k
  · subst e; exact hk
  · exact h j (by omega)
theorem refOut_ok (h : ConfD F w s rs l) : Ans (Value.int .i64) 65 #[s.v] w (fst? (outAt l) l.length) := by
  refine c65 ?_
  unfold f65
  refine Lp.mk (fun i w' => ∃ k : Nat, i = k ∧ k ≤ l.length ∧ Ext w w' ∧ ∀ j, j < k → outAt l j = false) (fun i => l.length - i.toNat) ⟨0, rfl, Nat.zero_le _, Ext.refl _, fun j hj => absurd hj (Nat.not_lt_zero _)⟩ ?_
  rintro i w1 K ⟨k, rfl, hk, hE, hall⟩ hK
  by_cases hlt : k < l.length
  · rw [if_pos (by rw [h.n]; omega)]
    refine Jn.dup ?_
    have hout := outAt_eq hlt
    have yes : ∀ w', outAt l k = true → Ext w w' → Ext w w' ∧ ((k : Int) = fst? (outAt l) l.length) := fun w' ho hE => ⟨hE, (fst?_some hlt ho hall).symm⟩
    have no : ∀ w', outAt l k = false → Ext w w' → K (IntKind.i64.wrap ((k : Int) + 1)) w' := fun w' ho hE => by
      rw [h.wr hlt]
      exact hK _ _ ⟨k + 1, rfl, hlt, hE, all_succ hall ho⟩ (by omega)
    refine Dr.mk fun w3 hD _ => ?_
    replace hE := hE.trans hD
    refine (h.ext hE).idx hlt rfl fun p r _ hp hr => ?_
    refine rnl_at one3 hp rfl ?_
    rw [hr.kind]
    by_cases c1 : l[k].kind < 1
    · rw [if_pos c1]; exact iteT rfl (yes _ (by rw [hout]; simp [c1]) hE)
    rw [if_neg c1]
    refine (h.ext hE).idx hlt rfl fun p r _ hp hr => ?_
    refine rnl_at one3 hp rfl ?_
    rw [hr.kind]
    by_cases c2 : 4 < l[k].kind
    · rw [if_pos c2]; exact iteT rfl (yes _ (by rw [hout]; simp [c2]) hE)
    rw [if_neg c2]
    refine (h.ext hE).idx hlt rfl fun p r _ hp hr => ?_
    refine rnl_at one4 hp rfl ?_
    rw [hr.del]
    by_cases c3 : l[k].del = true
    · rw [if_pos c3]; exact iteT rfl (yes _ (by rw [hout]; simp [c3]) hE)
    rw [if_neg c3]
    by_cases c4 : 0 < k
    · rw [if_pos (by omega), h.wr1 hk c4]
      refine (h.ext hE).idx (k := k - 1) (by omega) rfl fun q r' _ hq hr' => ?_
      refine rnl_ldN (x := r') many48 hq rfl rfl ?_
      refine (h.ext hE).idx hlt rfl fun p r _ hp hr => ?_
      refine rnl_ldN (x := r) many48 hp rfl rfl ?_
      refine (less_ok r' r).mono ?_; rintro _ w4 ⟨e4, rfl⟩
      refine ⟨e4, ?_⟩
      rw [hr.kind, hr.name, hr'.kind, hr'.name]
      have hE := hE.trans e4
      have hout' : outAt l k = !kLt l[k - 1].kind l[k - 1].name l[k].kind l[k].name := by
        rw [hout, List.getElem?_eq_getElem (by omega : k - 1 < l.length)]; simp [c1, c2, c3, c4]
      show if (!kLt l[k - 1].kind l[k - 1].name l[k].kind l[k].name) = true then _ else _
      rw [← hout']
      cases ho : outAt l k with
      | true => exact iteT rfl (yes _ ho hE)
      | false => exact iteF (by simp) (no _ ho hE)
    · rw [if_neg (by omega)]
      exact iteF (by simp) (no _ (by rw [hout]; simp [c1, c2, c3, c4]) hE)
  · rw [if_neg (by rw [h.n]; omega)]
    exact ⟨hE, (fst?_none fun j hj => hall j (by omega)).symm⟩
/-- the resource at place i has the key -/
def isAt (l : List DRes) (kind : Int) (name : ByteArray) (i : Nat) : Bool :=
  match l[i]? with
  | none => false
  | some d => decide (d.kind = kind) && decide (d.name = name)
theorem isAt_eq {k : Nat} (hlt : k < l.length) (kind : Int) (name : ByteArray) : isAt l kind name k = (decide (l[k].kind = kind) && decide (l[k].name = name)) := by
  simp only [isAt, List.getElem?_eq_getElem hlt]
theorem find_ok (h : ConfD F w s rs l) (kind : Int) (name : ByteArray) : Ans (Value.int .i64) 66 #[s.v, .int .i64 kind, .string name] w (fst? (isAt l kind name) l.length) := by
  refine c66 ?_
  unfold f66
  refine Lp.mk (fun i w' => ∃ k : Nat, i = k ∧ k ≤ l.length ∧ Ext w w' ∧ ∀ j, j < k → isAt l kind name j = false) (fun i => l.length - i.toNat) ⟨0, rfl, Nat.zero_le _, Ext.refl _, fun j hj => absurd hj (Nat.not_lt_zero _)⟩ ?_
  rintro i w1 K ⟨k, rfl, hk, hE, hall⟩ hK
  by_cases hlt : k < l.length
  · rw [if_pos (by rw [h.n]; omega)]
    refine Jn.dup ?_
    have hout := isAt_eq hlt kind name
    have yes : ∀ w', isAt l kind name k = true → Ext w w' → Ext w w' ∧ ((k : Int) = fst? (isAt l kind name) l.length) := fun w' ho hE => ⟨hE, (fst?_some hlt ho hall).symm⟩
    have no : ∀ w', isAt l kind name k = false → Ext w w' → K (IntKind.i64.wrap ((k : Int) + 1)) w' := fun w' ho hE => by
      rw [h.wr hlt]
      exact hK _ _ ⟨k + 1, rfl, hlt, hE, all_succ hall ho⟩ (by omega)
    refine (h.ext hE).idx hlt rfl fun p r _ hp hr => ?_
    refine rn_at one3 hp rfl ?_
    rw [hr.kind]
    by_cases c1 : l[k].kind = kind
    · rw [if_pos c1]
      refine (h.ext hE).idx hlt rfl fun p r _ hp hr => ?_
      refine rn_at one9 hp rfl ?_
      rw [hr.name]
      by_cases c2 : l[k].name = name
      · exact iteT (by simp [c2]) (yes _ (by rw [hout]; simp [c1, c2]) hE)
      · exact iteF (by simp [c2]) (no _ (by rw [hout]; simp [c1, c2]) hE)
    · rw [if_neg c1]; exact iteF (by simp) (no _ (by rw [hout]; simp [c1]) hE)
  · rw [if_neg (by rw [h.n]; omega)]
    exact ⟨hE, (fst?_none fun j hj => hall j (by omega)).symm⟩
end
/-! ### Keys in maps -/
instance : DecidableEq TKey := fun a b => match a, b with
  | ⟨k, n⟩, ⟨k', n'⟩ => if h : k = k' ∧ n = n' then isTrue (by rw [h.1, h.2]) else isFalse (fun e => h (by cases e; exact ⟨rfl, rfl⟩))
theorem eqKey_run (x y : TKey) (w : World) : (Op.equal 113 x.v y.v).run PP w = .ok (decide (x = y)) w := by
  have h1 : ∀ (w : World) (a b : ByteArray), (Op.equalIn (9998 + 1) 9 (.string a) (.string b)).run PP w = .ok (a == b) w := fun w a b => by
    rw [run_equalIn_string w 9998 9 a b Try.underlying9, beq_toListBytes]
  have hp : ∀ (w : World) (o : Nat) (t : TypeId) (v : Value) (cs : Array Value), One PP t → cs[o]? = some v → (part t cs o).run PP w = .ok v w := fun w o t v cs h hv => part_one h hv
  show (Op.equalIn (9999 + 1) 113 (.agg (Array.mk x.cells)) (.agg (Array.mk y.cells))).run PP w = _
  rw [run_equalIn_struct w 9999 113 _ _ (by kernel_rfl) (by kernel_rfl)]
  have h0 : ∀ (w : World) (a b : Int), (Op.equalIn (9998 + 1) 3 (.int .i64 a) (.int .i64 b)).run PP w = .ok (a == b) w := fun w a b => run_equalIn_int w 9998 3 .i64 .i64 a b Try.underlying3
  have hf : (Program.fieldsOf PP 113).toList = [⟨ "kind", 3, 0, false, "", "turnpike/check", 0⟩, ⟨ "name", 9, 1, false, "", "turnpike/check", 8⟩] := by kernel_rfl
  rw [hf]
  have n1 : ("kind" : String) ≠ "_" := by decide
  have n2 : ("name" : String) ≠ "_" := by decide
  simp only [Op.eqFields, if_pos n1, if_pos n2, Sem.run_bind]
  rw [hp w 0 3 (.int .i64 x.kind) _ one3 rfl, Result.andThen_ok, hp w 0 3 (.int .i64 y.kind) _ one3 rfl, Result.andThen_ok, h0, Result.andThen_ok]
  obtain ⟨k, n⟩ := x
  obtain ⟨k', n'⟩ := y
  by_cases hk : k = k'
  · subst hk
    rw [if_neg (by simp), Sem.run_bind, hp w 1 9 (.string n) _ one9 rfl, Result.andThen_ok, Sem.run_bind, hp w 1 9 (.string n') _ one9 rfl, Result.andThen_ok, Sem.run_bind, h1, Result.andThen_ok, beq_bytes]
    by_cases hn : n = n'
    · subst hn; simp
    · simp [hn]
  · rw [if_pos (by simp [hk])]
    simp [hk]
theorem checkKey_key (e : Bool) (k : TKey) (w : World) : (Instr.checkKey e 10000 113 k.v).run PP w = .ok () w := by
  have hp : ∀ (w : World) (o : Nat) (t : TypeId) (v : Value) (cs : Array Value), One PP t → cs[o]? = some v → (part t cs o).run PP w = .ok v w := fun w o t v cs h hv => part_one h hv
  have h1 : ∀ (n : Nat) (a : ByteArray) (w : World), (Instr.checkKey e (n + 1) 9 (.string a)).run PP w = .ok () w := fun n a w => checkKey_string Try.underlying9 e a n w
  have h0 : ∀ (n : Nat) (a : Int) (w : World), (Instr.checkKey e (n + 1) 3 (.int .i64 a)).run PP w = .ok () w := fun n a w => by simp [Instr.checkKey, run_underlying Try.underlying3]
  show (Instr.checkKey e (9998 + 1 + 1) 113 (.agg (Array.mk k.cells))).run PP w = _
  rw [Instr.checkKey]
  have n1 : ("kind" : String) ≠ "_" := by decide
  have n2 : ("name" : String) ≠ "_" := by decide
  simp only [Sem.run_bind, run_underlying Try.underlying113, Result.andThen_ok]
  have p0 := hp w 0 3 (.int .i64 k.kind) (Array.mk k.cells) one3 rfl
  have p1 := hp w 1 9 (.string k.name) (Array.mk k.cells) one9 rfl
  simp only [List.forIn_toArray, List.forIn_cons, List.forIn_nil, if_pos n1, if_pos n2, Sem.run_bind, p0, p1, Result.andThen_ok, h0, h1, Sem.run_pure]
theorem keyT113 : KeyT PP 113 TKey.v where
  chk e k w := checkKey_key e k w
  find k ks es w he := by
    cases es with
    | nil =>
      cases ks with
      | nil => simp [Instr.findKey, run_underlying Try.underlying113, Instr.findNow, Eng.look]
      | cons _ _ => cases he
    | cons e es =>
      cases ks with
      | nil => cases he
      | cons k' ks =>
        have hn : ∀ d, Instr.sameNow (.struct d) k.v e.key = none := fun d => by simp [Instr.sameNow]
        have h2 := findAsking_run (P := PP) (kt := 113) (ek := TKey.v) (fun a b w => eqKey_run a b w) k w (k' :: ks) (e :: es) 0 he
        simp only [Instr.findKey, Sem.run_bind, run_underlying Try.underlying113, Result.andThen_ok, Instr.findNow, hn]
        exact h2
  same k := by
    have : ∀ n, Instr.sameBits (n + 1 + 1) k.v k.v = true := fun n => by
      show Instr.sameBits (n + 1 + 1) (.agg (Array.mk k.cells)) (.agg (Array.mk k.cells)) = true
      simp [Instr.sameBits, TKey.cells, beq_bytes]
    exact this 9998
  inj a b h := by
    obtain ⟨k, n⟩ := a; obtain ⟨k', n'⟩ := b
    simp only [TKey.v, TKey.cells, Value.agg.injEq, Array.mk.injEq, List.cons.injEq, Value.int.injEq, Value.string.injEq, and_true, true_and] at h
    obtain ⟨rfl, rfl⟩ := h; rfl
end Go.Proofs.Ytdoeegfcmbcbkaa.Ct

/- Contracts: what leads nowhere, in both packages for layer 14. -/
namespace Go.Proofs.Ytdoeegfcmbcbkaa.Ct
open Go Go.Eng Tr
set_option linter.unusedVariables false
set_option maxRecDepth 100000

theorem mapT115 : MapT PP 115 113 4 TKey.v Value.bool false := ⟨Try.underlying115, keyT113, by kernel_rfl⟩
theorem mapT149 : MapT PP 149 9 4 Value.string Value.bool false := ⟨Try.underlying149, keyT_string Try.underlying9, by kernel_rfl⟩
def nil? : ByteArray := ⟨#[]⟩
/-- a target that leads nowhere -/
def badT (has : Int → ByteArray → Bool) (ts : List TTarget) (i : Nat) : Bool :=
  match ts[i]? with
  | none => false
  | some t => if t.Service = ⟨#[]⟩ then !has 2 t.Split else !has 1 t.Service
/-- a rule that leads nowhere -/
def badR (has : Int → ByteArray → Bool) (rs : List TRule) (i : Nat) : Bool :=
  match rs[i]? with
  | none => false
  | some r => !has 2 r.Split
def line? (i : Int) : Int := if i < 0 then -1 else i + 1
/-- the line of a resource that leads nowhere, or -1 -/
def dang (has : Int → ByteArray → Bool) (d : DRes) : Int :=
  if d.kind = 2 then line? (fst? (badT has d.targets) d.targets.length)
  else if d.kind = 3 then line? (fst? (badR has d.rules) d.rules.length)
  else if d.kind = 4 then (if has 3 d.route then -1 else 0)
  else -1
theorem badT_eq {has : Int → ByteArray → Bool} {ts : List TTarget} {k : Nat} (hlt : k < ts.length) : badT has ts k = if ts[k].Service = ⟨#[]⟩ then !has 2 ts[k].Split else !has 1 ts[k].Service := by
  simp only [badT, List.getElem?_eq_getElem hlt]
theorem badR_eq {has : Int → ByteArray → Bool} {ts : List TRule} {k : Nat} (hlt : k < ts.length) : badR has ts k = !has 2 ts[k].Split := by
  simp only [badR, List.getElem?_eq_getElem hlt]
theorem line_some {p : Nat → Bool} {n k : Nat} (hk : k < n) (hp : p k = true) (hj : ∀ j, j < k → p j = false) : line? (fst? p n) = ((k + 1 : Nat) : Int) := by
  rw [fst?_some hk hp hj]; unfold line?; rw [if_neg (by omega)]; omega
theorem line_none {p : Nat → Bool} {n : Nat} (hj : ∀ j, j < n → p j = false) : line? (fst? p n) = -1 := by
  rw [fst?_none hj]; rfl
section
variable {w : World} {F G : Nat → Prop} {s : Sl} {rs : List TResource} {l : List DRes}
theorem dangling_ok {r : TResource} {d : DRes} (h : ResD F w r d) {b : Nat} {m : List (TKey × Bool)} (hm : Mp TKey.v Value.bool w b m) {has : Int → ByteArray → Bool} (hh : ∀ k n, (mget m ⟨k, n⟩).getD false = has k n) :
    Ans (Value.int .i64) 94 #[r.v, .map (some b)] w (dang has d) := by
  refine c94 ?_
  unfold f94
  refine New.mk fun b2 w1 e1 h2 _ _ => ?_
  refine Jn.dup ?_
  refine rn_blk one3 h2 rfl rfl ?_
  rw [h.kind]
  have get : ∀ {w' : World} {K : Bool → World → Prop} (k : Int) (n : ByteArray), Ext w w' → K (has k n) w' → Rn PP Value.bool (Instr.lookup 115 (.map (some b)) (TKey.v ⟨k, n⟩) false) w' K := fun k n e hK =>
    rn_get mapT115 (hm.ext e) (by rw [hh]; exact hK)
  by_cases c2 : d.kind = 2
  · rw [if_pos c2]
    refine rn_blk one45 h2 rfl rfl ?_
    have ht := h.targets
    have hd : dang has d = line? (fst? (badT has d.targets) d.targets.length) := by unfold dang; rw [if_pos c2]
    refine Lp.mk (fun i w' => ∃ k : Nat, i = k ∧ k ≤ d.targets.length ∧ Ext w w' ∧ ∀ j, j < k → badT has d.targets j = false) (fun i => d.targets.length - i.toNat) ⟨0, rfl, Nat.zero_le _, e1, fun j hj => absurd hj (Nat.not_lt_zero _)⟩ ?_
    rintro i w1 K ⟨k, rfl, hk, hE, hall⟩ hK
    by_cases hlt : k < d.targets.length
    · rw [if_pos (by rw [ht.len]; omega)]
      refine rnp_idx sl45 (ht.ext hE) hlt rfl fun p _ hp => ?_
      refine rn_ldN (x := d.targets[k]) many84 hp rfl rfl ?_
      refine New.var (TTarget.cells d.targets[k]) sz84 rfl (oc_target _) rfl fun b6 w2 e2 hb hn => ?_
      replace hE := hE.trans e2
      refine Jn.dup ?_
      have yes : ∀ w', badT has d.targets k = true → Ext w w' → Ext w w' ∧ (IntKind.i64.wrap ((k : Int) + 1) = dang has d) := fun w' ho hE => ⟨hE, by rw [hd, ht.wr hlt, line_some hlt ho hall]⟩
      have no : ∀ w', badT has d.targets k = false → Ext w w' → K (IntKind.i64.wrap ((k : Int) + 1)) w' := fun w' ho hE => by
        rw [ht.wr hlt]; exact hK _ _ ⟨k + 1, rfl, hlt, hE, all_succ hall ho⟩ (by omega)
      have fin : ∀ (x : Bool) w', badT has d.targets k = x → Ext w w' → if x = true then (Ext w w' ∧ (IntKind.i64.wrap ((k : Int) + 1) = dang has d)) else K (IntKind.i64.wrap ((k : Int) + 1)) w' := fun x w' ho hE => by
        cases x with
        | true => exact iteT rfl (yes _ ho hE)
        | false => exact iteF (by simp) (no _ ho hE)
      refine rn_blk one9 hb rfl rfl ?_
      by_cases c : d.targets[k].Service = ⟨#[]⟩
      · rw [if_neg (fun h => h c)]
        refine rn_blk one9 hb rfl rfl ?_
        rw [if_pos c]
        refine rn_blk one9 hb rfl rfl ?_
        refine get _ _ hE ?_
        exact fin _ _ (by rw [badT_eq hlt, if_pos c]) hE
      · rw [if_pos c]
        refine rn_blk one9 hb rfl rfl ?_
        refine get _ _ hE ?_
        cases hx : has 1 d.targets[k].Service with
        | false => exact iteT rfl (fin _ _ (by rw [badT_eq hlt, if_neg c, hx]; rfl) hE)
        | true =>
          refine iteF (by simp) ?_
          refine rn_blk one9 hb rfl rfl ?_
          rw [if_neg c]
          exact fin _ _ (by rw [badT_eq hlt, if_neg c, hx]; rfl) hE
    · rw [if_neg (by rw [ht.len]; omega)]
      exact ⟨hE, by rw [hd, line_none fun j hj => hall j (by omega)]⟩
  · rw [if_neg c2]
    by_cases c3 : d.kind = 3
    · rw [if_pos c3]
      refine rn_blk one46 h2 rfl rfl ?_
      have ht := h.rules
      have hd : dang has d = line? (fst? (badR has d.rules) d.rules.length) := by unfold dang; rw [if_neg c2, if_pos c3]
      refine Lp.mk (fun i w' => ∃ k : Nat, i = k ∧ k ≤ d.rules.length ∧ Ext w w' ∧ ∀ j, j < k → badR has d.rules j = false) (fun i => d.rules.length - i.toNat) ⟨0, rfl, Nat.zero_le _, e1, fun j hj => absurd hj (Nat.not_lt_zero _)⟩ ?_
      rintro i w1 K ⟨k, rfl, hk, hE, hall⟩ hK
      by_cases hlt : k < d.rules.length
      · rw [if_pos (by rw [ht.len]; omega)]
        refine rnp_idx sl46 (ht.ext hE) hlt rfl fun p _ hp => ?_
        refine rn_ldN (x := d.rules[k]) many91 hp rfl rfl ?_
        refine New.var (TRule.cells d.rules[k]) sz91 rfl (oc_rule _) rfl fun b6 w2 e2 hb hn => ?_
        replace hE := hE.trans e2
        refine rn_blk one9 hb rfl rfl ?_
        refine get _ _ hE ?_
        have hb := badR_eq (has := has) hlt
        cases hx : has 2 d.rules[k].Split with
        | false => exact iteT rfl ⟨hE, by rw [hd, ht.wr hlt, line_some hlt (by rw [hb, hx]; rfl) hall]⟩
        | true =>
          refine iteF (by simp) ?_
          rw [ht.wr hlt]
          exact hK _ _ ⟨k + 1, rfl, hlt, hE, all_succ hall (by rw [hb, hx]; rfl)⟩ (by omega)
      · rw [if_neg (by rw [ht.len]; omega)]
        exact ⟨hE, by rw [hd, line_none fun j hj => hall j (by omega)]⟩
    · rw [if_neg c3]
      by_cases c4 : d.kind = 4
      · rw [if_pos c4]
        have hd : dang has d = if has 3 d.route then -1 else 0 := by unfold dang; rw [if_neg c2, if_neg c3, if_pos c4]
        refine rn_blk one9 h2 rfl rfl ?_
        rw [h.route]
        refine get _ _ e1 ?_
        cases hx : has 3 d.route with
        | false => exact iteT rfl ⟨e1, by rw [hd, hx]; rfl⟩
        | true => exact iteF (by simp) ⟨e1, by rw [hd, hx]; rfl⟩
      · rw [if_neg c4]
        exact ⟨e1, by unfold dang; rw [if_neg c2, if_neg c3, if_neg c4]⟩
/-- the key stands in the list -/
def has (l : List DRes) (kind : Int) (name : ByteArray) : Bool := decide (0 ≤ fst? (isAt l kind name) l.length)
theorem has_neg {l : List DRes} {kind : Int} {name : ByteArray} : decide (fst? (isAt l kind name) l.length < 0) = !has l kind name := by
  unfold has; by_cases h : 0 ≤ fst? (isAt l kind name) l.length <;> simp [h] <;> omega
theorem refDangling_ok (hc : ConfD F w s rs l) {r : TResource} {d : DRes} (h : ResD F w r d) : Ans (Value.int .i64) 101 #[s.v, r.v] w (dang (has l) d) := by
  refine c101 ?_
  unfold f101
  refine New.mk fun b3 w1 e1 h2 _ _ => ?_
  have get : ∀ {w' : World} {K : Int → World → Prop} (k : Int) (n : ByteArray), Ext w w' → (∀ w'', Ext w w'' → Ext w' w'' → K (fst? (isAt l k n) l.length) w'') → Cal PP (Value.int .i64) 66 #[s.v, .int .i64 k, .string n] w' K := fun k n e hK =>
    (find_ok (hc.ext e) k n).mono fun x w'' ⟨e2, hx⟩ => by subst hx; exact hK _ (e.trans e2) e2
  have D2 : d.kind = 2 → dang (has l) d = line? (fst? (badT (has l) d.targets) d.targets.length) := fun c => by unfold dang; rw [if_pos c]
  have D3 : d.kind = 3 → dang (has l) d = line? (fst? (badR (has l) d.rules) d.rules.length) := fun c => by unfold dang; rw [if_neg (by omega), if_pos c]
  have D4 : d.kind = 4 → dang (has l) d = if has l 3 d.route then -1 else 0 := fun c => by unfold dang; rw [if_neg (by omega), if_neg (by omega), if_pos c]
  have D0 : d.kind ≠ 2 → d.kind ≠ 3 → d.kind ≠ 4 → dang (has l) d = -1 := fun a b c => by unfold dang; rw [if_neg a, if_neg b, if_neg c]
  refine ⟨fun _ w' => Ext w w' ∧ Ext w1 w' ∧ (d.kind = 2 → dang (has l) d = -1), ?_, ?_⟩
  · refine rn_blk one3 h2 rfl rfl ?_
    rw [h.kind]
    by_cases c2 : d.kind = 2
    · rw [if_pos c2]
      have ht := h.targets
      refine Lp.mk (fun i w' => ∃ k : Nat, i = k ∧ k ≤ d.targets.length ∧ Ext w w' ∧ Ext w1 w' ∧ ∀ j, j < k → badT (has l) d.targets j = false) (fun i => d.targets.length - i.toNat) ⟨0, rfl, Nat.zero_le _, e1, Ext.refl _, fun j hj => absurd hj (Nat.not_lt_zero _)⟩ ?_
      rintro i w2 K ⟨k, rfl, hk, hE, hE1, hall⟩ hK
      replace h2 := h2.ext hE1
      refine rn_blk one45 h2 rfl rfl ?_
      by_cases hlt : k < d.targets.length
      · rw [if_pos (by rw [ht.len]; omega)]
        refine rn_blk one45 h2 rfl rfl ?_
        refine rnp_idx sl45 (ht.ext hE) hlt rfl fun p _ hp => ?_
        refine rn_ldN (x := d.targets[k]) many84 hp rfl rfl ?_
        refine New.var (TTarget.cells d.targets[k]) sz84 rfl (oc_target _) rfl fun b6 w3 e2 hb hn => ?_
        replace hE := hE.trans e2; replace hE1 := hE1.trans e2
        refine Jn.dup ?_
        have fin : ∀ (x : Bool) w', badT (has l) d.targets k = x → Ext w w' → Ext w1 w' → if x = true then (Ext w w' ∧ (IntKind.i64.wrap ((k : Int) + 1) = dang (has l) d)) else K (IntKind.i64.wrap ((k : Int) + 1)) w' := fun x w' ho hE hE1 => by
          cases x with
          | true => exact iteT rfl ⟨hE, by rw [D2 c2, ht.wr hlt, line_some hlt ho hall]⟩
          | false => exact iteF (by simp) (by rw [ht.wr hlt]; exact hK _ _ ⟨k + 1, rfl, hlt, hE, hE1, all_succ hall ho⟩ (by omega))
        refine rn_blk one9 hb rfl rfl ?_
        by_cases c : d.targets[k].Service = ⟨#[]⟩
        · rw [if_neg (fun h => h c)]
          refine rn_blk one9 hb rfl rfl ?_
          rw [if_pos c]
          refine rn_blk one9 hb rfl rfl ?_
          refine get _ _ hE fun w4 e4 e4' => ?_
          exact fin _ _ (by rw [badT_eq hlt, if_pos c, has_neg]) e4 (hE1.trans e4')
        · rw [if_pos c]
          refine rn_blk one9 hb rfl rfl ?_
          refine get _ _ hE fun w4 e4 e4' => ?_
          have hn := has_neg (l := l) (kind := 1) (name := d.targets[k].Service)
          cases hx : has l 1 d.targets[k].Service with
          | false =>
            rw [hx] at hn
            exact iteT (by simpa using hn) (fin _ _ (by rw [badT_eq hlt, if_neg c, hx]; rfl) e4 (hE1.trans e4'))
          | true =>
            rw [hx] at hn
            refine iteF (by simpa using hn) ?_
            refine rn_blk one9 (hb.ext e4') rfl rfl ?_
            exact iteF c (fin _ _ (by rw [badT_eq hlt, if_neg c, hx]; rfl) e4 (hE1.trans e4'))
      · rw [if_neg (by rw [ht.len]; omega)]
        exact ⟨hE, hE1, fun c => by rw [D2 c, line_none fun j hj => hall j (by omega)]⟩
    · rw [if_neg c2]
      exact ⟨e1, Ext.refl _, fun c => absurd c c2⟩
  rintro _ w2 ⟨hE, hE1, N2⟩
  refine ⟨fun _ w' => Ext w w' ∧ Ext w1 w' ∧ (d.kind = 3 → dang (has l) d = -1), ?_, ?_⟩
  · have h2 := h2.ext hE1
    refine rn_blk one3 h2 rfl rfl ?_
    rw [h.kind]
    by_cases c3 : d.kind = 3
    · rw [if_pos c3]
      have ht := h.rules
      refine Lp.mk (fun i w' => ∃ k : Nat, i = k ∧ k ≤ d.rules.length ∧ Ext w w' ∧ Ext w2 w' ∧ ∀ j, j < k → badR (has l) d.rules j = false) (fun i => d.rules.length - i.toNat) ⟨0, rfl, Nat.zero_le _, hE, Ext.refl _, fun j hj => absurd hj (Nat.not_lt_zero _)⟩ ?_
      rintro i w3 K ⟨k, rfl, hk, hE, hE2, hall⟩ hK
      replace h2 := h2.ext hE2
      refine rn_blk one46 h2 rfl rfl ?_
      by_cases hlt : k < d.rules.length
      · rw [if_pos (by rw [ht.len]; omega)]
        refine rn_blk one46 h2 rfl rfl ?_
        refine rnp_idx sl46 (ht.ext hE) hlt rfl fun p _ hp => ?_
        refine rn_at one9 hp rfl ?_
        refine get _ _ hE fun w4 e4 e4' => ?_
        have hn := has_neg (l := l) (kind := 2) (name := d.rules[k].Split)
        cases hx : has l 2 d.rules[k].Split with
        | false =>
          rw [hx] at hn
          exact iteT (by simpa using hn) ⟨e4, by rw [D3 c3, ht.wr hlt, line_some hlt (by rw [badR_eq hlt, hx]; rfl) hall]⟩
        | true =>
          rw [hx] at hn
          refine iteF (by simpa using hn) ?_
          rw [ht.wr hlt]
          exact hK _ _ ⟨k + 1, rfl, hlt, e4, hE2.trans e4', all_succ hall (by rw [badR_eq hlt, hx]; rfl)⟩ (by omega)
      · rw [if_neg (by rw [ht.len]; omega)]
        exact ⟨hE, hE1.trans hE2, fun c => by rw [D3 c, line_none fun j hj => hall j (by omega)]⟩
    · rw [if_neg c3]
      exact ⟨hE, hE1, fun c => absurd c c3⟩
  rintro _ w3 ⟨hE, hE1, N3⟩
  refine Jn.dup ?_
  have h2 := h2.ext hE1
  refine rn_blk one3 h2 rfl rfl ?_
  rw [h.kind]
  by_cases c4 : d.kind = 4
  · rw [if_pos c4]
    refine rn_blk one9 h2 rfl rfl ?_
    rw [h.route]
    refine get _ _ hE fun w4 e4 e4' => ?_
    have hn := has_neg (l := l) (kind := 3) (name := d.route)
    cases hx : has l 3 d.route with
    | false => rw [hx] at hn; exact iteT (by simpa using hn) ⟨e4, by rw [D4 c4, hx]; rfl⟩
    | true => rw [hx] at hn; exact iteF (by simpa using hn) ⟨e4, by rw [D4 c4, hx]; rfl⟩
  · rw [if_neg c4]
    refine iteF (by simp) ⟨hE, ?_⟩
    by_cases c2 : d.kind = 2
    · exact (N2 c2).symm
    · by_cases c3 : d.kind = 3
      · exact (N3 c3).symm
      · exact (D0 c2 c3 c4).symm
end
end Go.Proofs.Ytdoeegfcmbcbkaa.Ct

/- Floats: what arithmetic answers, NaNs taken as one. -/
namespace Go.Eng
open Go
set_option linter.unusedVariables false

/-- the bits of a NaN -/
def nanB (x : Nat) : Bool := (FloatKind.f64.format.read x).isNaN
theorem nan_cut (x y t : Nat) : nanB (Question.cut (.nanBits .f64 x y) t) = true := by
  have h1 : FloatKind.f64.format.signWeight = 9223372036854775808 := rfl
  have h2 : FloatKind.f64.format.binade = 4503599627370496 := rfl
  have h3 : FloatKind.f64.format.infRung = 9218868437227405312 := rfl
  have e : Question.cut (.nanBits .f64 x y) t = (t % 2) * 2 ^ 63 + 0x7ff0000000000000 + 1 + (t / 2) % (2 ^ 52 - 1) := rfl
  rw [e]
  unfold nanB Ieee.Format.read
  simp only [h1, h2, h3]
  have hs : t % 2 < 2 := Nat.mod_lt _ (by decide)
  have hu : t / 2 % (2 ^ 52 - 1) < 4503599627370495 := Nat.mod_lt _ (by decide)
  generalize t % 2 = s at hs ⊢
  generalize t / 2 % (2 ^ 52 - 1) = u at hu ⊢
  have hm : (s * 2 ^ 63 + 9218868437227405312 + 1 + u) % 9223372036854775808 = 9218868437227405312 + 1 + u := by
    rw [show s * 2 ^ 63 + 9218868437227405312 + 1 + u = (9218868437227405312 + 1 + u) + 9223372036854775808 * s by omega, Nat.add_mul_mod_self_left, Nat.mod_eq_of_lt (by omega)]
  rw [hm, if_neg (by omega), if_neg (by omega), if_neg (by omega)]
  rfl
theorem order_nan {x : Nat} (h : nanB x = true) (y : Nat) : FloatKind.f64.format.order x y = none := by
  unfold nanB at h
  unfold Ieee.Format.order
  cases hx : FloatKind.f64.format.read x <;> rw [hx] at h <;> first | rfl | cases h
theorem add_nan {x : Nat} (h : nanB x = true) (y : Nat) : FloatKind.f64.format.add x y = none := by
  unfold nanB at h
  unfold Ieee.Format.add
  cases hx : FloatKind.f64.format.read x <;> rw [hx] at h <;> first | rfl | cases h
/-- a float as it is, or any NaN -/
def Fl (o : Option Nat) (x : Nat) : Prop := match o with
  | some v => x = v
  | none => nanB x = true
def oadd (o : Option Nat) (y : Nat) : Option Nat := o.bind fun x => FloatKind.f64.format.add x y
def oGe (o : Option Nat) (y : Nat) : Bool := match o with
  | some x => fGe x y
  | none => false
def oLe (o : Option Nat) (y : Nat) : Bool := match o with
  | some x => fLe x y
  | none => false
theorem Fl.ge {o : Option Nat} {x : Nat} (h : Fl o x) (y : Nat) : fGe x y = oGe o y := by
  cases o with
  | some v => cases h; rfl
  | none => simp [oGe, fGe, order_nan h]
theorem Fl.le {o : Option Nat} {x : Nat} (h : Fl o x) (y : Nat) : fLe x y = oLe o y := by
  cases o with
  | some v => cases h; rfl
  | none => simp [oLe, fLe, order_nan h]
section
variable {P : Program} {w : World} {K : Nat → World → Prop} {x y : Nat}
theorem arith_run (op : BinOp) (r : Option Nat) (h : (match op with
    | .add => some (FloatKind.f64.format.add x y)
    | .sub => some (FloatKind.f64.format.sub x y)
    | .mul => some (FloatKind.f64.format.mul x y)
    | .quo => some (FloatKind.f64.format.div x y)
    | _ => none) = some r) (hk : ∀ v w', Fl r v → Ext w w' → w'.heap = w.heap → K v w') : Rn P (Value.float .f64) (Op.floatArith op .f64 x y) w K := by
  have key : ∀ r : Option Nat, (∀ v w', Fl r v → Ext w w' → w'.heap = w.heap → K v w') → Rn P (Value.float .f64) (match r with
      | some r => pure (.float .f64 r)
      | none => do pure (.float .f64 (← choose (.nanBits .f64 x y)))) w K := fun r hk => by
    cases r with
    | some v => exact ⟨v, w, rfl, hk v w rfl (Ext.refl _) rfl⟩
    | none => exact ⟨Question.cut (.nanBits .f64 x y) (w.tape w.drawn (.nanBits .f64 x y)), w.drew, rfl, hk _ _ (nan_cut _ _ _) (Ext.drew _) rfl⟩
  cases op <;> simp only [Option.some.injEq, reduceCtorEq] at h <;> subst h <;> exact key _ hk
theorem rn_add {o : Option Nat} (ho : Fl o x) (hk : ∀ v w', Fl (oadd o y) v → Ext w w' → w'.heap = w.heap → K v w') : Rn P (Value.float .f64) (Op.floatArith .add .f64 x y) w K := by
  refine arith_run .add _ rfl fun v w' hv => hk v w' ?_
  cases o with
  | some v' => cases ho; exact hv
  | none => rw [add_nan ho] at hv; exact hv
end
end Go.Eng

/- Contracts: weights, in both packages for layer 14. -/
namespace Go.Proofs.Ytdoeegfcmbcbkaa.Ct
open Go Go.Eng Tr
set_option linter.unusedVariables false
set_option maxRecDepth 100000

def okW (y : Nat) : Bool := fGe y 0 && fLe y 4636737291354636288
def fsum (ts : List TTarget) : Option Nat := ts.foldl (fun o t => oadd o t.Weight) (some 0)
theorem fsum_succ {ts : List TTarget} {k : Nat} (h : k < ts.length) : fsum (ts.take (k + 1)) = oadd (fsum (ts.take k)) ts[k].Weight := by
  unfold fsum; rw [List.take_add_one, List.getElem?_eq_getElem h, List.foldl_append]; rfl
theorem any_succ {α : Type} {p : α → Bool} {ts : List α} {k : Nat} (h : k < ts.length) : (ts.take (k + 1)).any p = ((ts.take k).any p || p ts[k]) := by
  rw [List.take_add_one, List.getElem?_eq_getElem h, List.any_append]; simp
def badW (t : TTarget) : Bool := !okW t.Weight
def heavyS (ts : List TTarget) : Bool := ts.any badW || !(oGe (fsum ts) 4636737291287527424 && oLe (fsum ts) 4636737291421745152)
section
variable {w : World} {F G : Nat → Prop} {s : Sl} {rs : List TResource} {l : List DRes}
theorem heavy_ok {r : TResource} {d : DRes} (h : ResD F w r d) : Ans Value.bool 95 #[r.v] w (heavyS d.targets) := by
  refine c95 ?_
  unfold f95
  refine New.mk fun b1 w1 e1 h1 _ _ => ?_
  refine rn_blk one45 h1 rfl rfl ?_
  have ht := h.targets
  refine Lp.mk (fun (x : Nat × Int) w' => ∃ k : Nat, x.2 = k ∧ k ≤ d.targets.length ∧ Ext w w' ∧ Fl (fsum (d.targets.take k)) x.1 ∧ (d.targets.take k).any badW = false) (fun x => d.targets.length - x.2.toNat) ⟨0, rfl, Nat.zero_le _, e1, rfl, rfl⟩ ?_
  rintro ⟨x, i⟩ w2 K ⟨k, rfl, hk, hE, hf, hall⟩ hK
  dsimp only at hf ⊢
  by_cases hlt : k < d.targets.length
  · rw [if_pos (by rw [ht.len]; omega)]
    refine rnp_idx sl45 (ht.ext hE) hlt rfl fun p _ hp => ?_
    refine rn_ldN (x := d.targets[k]) many84 hp rfl rfl ?_
    refine New.var (TTarget.cells d.targets[k]) sz84 rfl (oc_target _) rfl fun b6 w3 e2 hb hn => ?_
    replace hE := hE.trans e2
    refine ⟨fun x w' => x = badW d.targets[k] ∧ Ext w w' ∧ Blk w' b6 84 (TTarget.cells d.targets[k]), ?_, ?_⟩
    · refine rn_blk one30 hb rfl rfl ?_
      cases c : fGe d.targets[k].Weight 0 with
      | true =>
        refine iteT rfl ?_
        refine rn_blk one30 hb rfl rfl ?_
        exact ⟨by simp [badW, okW, c], hE, hb⟩
      | false => exact iteF (by simp) ⟨by simp [badW, okW, c], hE, hb⟩
    rintro _ w4 ⟨rfl, hE, hb⟩
    cases c : badW d.targets[k] with
    | true =>
      refine iteT rfl ⟨hE, ?_⟩
      have : d.targets.any badW = true := List.any_eq_true.2 ⟨_, List.getElem_mem hlt, c⟩
      simp [heavyS, this]
    | false =>
      refine iteF (by simp) ?_
      refine rn_blk one30 hb rfl rfl ?_
      refine rn_add hf fun v w5 hv e5 _ => ?_
      rw [ht.wr hlt]
      exact hK _ _ ⟨k + 1, rfl, hlt, hE.trans e5, by rw [fsum_succ hlt]; exact hv, by rw [any_succ hlt, hall, c]; rfl⟩ (by dsimp only; omega)
  · rw [if_neg (by rw [ht.len]; omega)]
    obtain rfl : k = d.targets.length := by omega
    rw [List.take_length] at hf hall
    refine Jn.dup ?_
    rw [hf.ge, hf.le]
    cases c : oGe (fsum d.targets) 4636737291287527424 with
    | true => exact iteT rfl ⟨hE, by simp [heavyS, hall, c]⟩
    | false => exact iteF (by simp) ⟨hE, by simp [heavyS, hall, c]⟩
end
end Go.Proofs.Ytdoeegfcmbcbkaa.Ct

/- The plain law of depths: how deep a split leads, counted up to a bound. -/
namespace Go.Proofs.Ytdoeegfcmbcbkaa.Ct
open Go Go.Eng Tr
set_option linter.unusedVariables false

def maxl : List Nat → Nat
  | [] => 0
  | x :: xs => max x (maxl xs)
theorem maxl_app (xs : List Nat) (x : Nat) : maxl (xs ++ [x]) = max (maxl xs) x := by
  induction xs with
  | nil => simp [maxl]
  | cons y xs ih => simp only [List.cons_append, maxl, ih]; omega
theorem le_maxl {xs : List Nat} {x : Nat} (h : x ∈ xs) : x ≤ maxl xs := by
  induction xs with
  | nil => cases h
  | cons y xs ih =>
    simp only [maxl]
    rcases List.mem_cons.1 h with rfl | h
    · omega
    · have := ih h; omega
theorem maxl_le {xs : List Nat} {b : Nat} (h : ∀ x ∈ xs, x ≤ b) : maxl xs ≤ b := by
  induction xs with
  | nil => exact Nat.zero_le _
  | cons y xs ih =>
    simp only [maxl]
    have := h y (by simp); have := ih (fun x hx => h x (by simp [hx])); omega
theorem min_maxl {α : Type} (f : α → Nat) (b : Nat) : ∀ xs : List α, min (maxl (xs.map f)) b = maxl (xs.map fun x => min (f x) b)
  | [] => by simp [maxl]
  | x :: xs => by
    have := min_maxl f b xs
    simp only [List.map_cons, maxl]; omega
/-- the splits that a split leads to -/
def kidsOf (d : DRes) : List ByteArray := (d.targets.filter fun t => decide (t.Service = ⟨#[]⟩)).map (·.Split)
def splitOf (l : List DRes) (n : ByteArray) : Option DRes := l.find? fun d => decide (d.kind = 2) && decide (d.name = n)
def kids (l : List DRes) (n : ByteArray) : List ByteArray := match splitOf l n with
  | none => []
  | some d => kidsOf d
/-- how deep a split leads, counted up to k + 1 -/
def hd (l : List DRes) : Nat → ByteArray → Nat
  | 0, _ => 1
  | k + 1, n => 1 + maxl ((kids l n).map (hd l k))
theorem hd_bounds (l : List DRes) : ∀ k n, 1 ≤ hd l k n ∧ hd l k n ≤ k + 1
  | 0, n => ⟨Nat.le_refl _, Nat.le_refl _⟩
  | k + 1, n => by
    have : maxl ((kids l n).map (hd l k)) ≤ k + 1 := maxl_le fun x hx => by
      obtain ⟨y, _, rfl⟩ := List.mem_map.1 hx; exact (hd_bounds l k y).2
    simp only [hd]; omega
theorem hd_step (l : List DRes) : ∀ k n, min (hd l (k + 1) n) (k + 1) = hd l k n
  | 0, n => by have := (hd_bounds l 1 n).1; simp only [hd] at this ⊢; omega
  | k + 1, n => by
    have h1 : hd l (k + 1 + 1) n = 1 + maxl ((kids l n).map (hd l (k + 1))) := rfl
    have h2 : hd l (k + 1) n = 1 + maxl ((kids l n).map (hd l k)) := rfl
    have h3 := min_maxl (hd l (k + 1)) (k + 1) (kids l n)
    have h4 : (fun x => min (hd l (k + 1) x) (k + 1)) = hd l k := funext (hd_step l k)
    rw [h4] at h3
    rw [h1, h2, ← h3]; omega
/-- one split leads to another -/
inductive Rch (l : List DRes) : ByteArray → ByteArray → Prop
  | one {a b} : b ∈ kids l a → Rch l a b
  | step {a b c} : b ∈ kids l a → Rch l b c → Rch l a c
theorem Rch.snoc {l : List DRes} {a b c : ByteArray} (h : Rch l a b) (k : c ∈ kids l b) : Rch l a c := by
  induction h with
  | one h => exact .step h (.one k)
  | step h _ ih => exact .step h (ih k)
theorem hd_cyc {l : List DRes} {t : ByteArray} (h0 : Rch l t t) : ∀ k y, (Rch l t y ∨ y = t) → Rch l y t → hd l k y = k + 1
  | 0, _, _, _ => rfl
  | k + 1, y, hy, h => by
    have up : ∀ b, b ∈ kids l y → hd l k b = k + 1 → hd l (k + 1) y = k + 2 := fun b hb he => by
      have h1 : hd l k b ≤ maxl ((kids l y).map (hd l k)) := le_maxl (List.mem_map.2 ⟨b, hb, rfl⟩)
      have h2 := (hd_bounds l (k + 1) y).2
      have h3 : hd l (k + 1) y = 1 + maxl ((kids l y).map (hd l k)) := rfl
      omega
    cases h with
    | one hb => exact up _ hb (hd_cyc h0 k t (.inr rfl) h0)
    | step hb hr =>
      refine up _ hb (hd_cyc h0 k _ (.inl ?_) hr)
      rcases hy with hy | rfl
      · exact hy.snoc hb
      · exact .one hb
/-- what the splits that one leads to come to -/
theorem hd_min (l : List DRes) (n : ByteArray) : min (maxl ((kids l n).map (hd l 8)) + 1) 9 = hd l 8 n := by
  have := hd_step l 8 n
  have h : hd l (8 + 1) n = 1 + maxl ((kids l n).map (hd l 8)) := rfl
  omega
theorem cnt_le {α : Type} {p q : α → Bool} : ∀ l : List α, (∀ x ∈ l, q x = true → p x = true) → l.countP q ≤ l.countP p
  | [], _ => Nat.le_refl _
  | x :: l, h => by
    have := cnt_le l fun y hy => h y (by simp [hy])
    have h0 := h x (by simp)
    simp only [List.countP_cons]
    cases hq : q x <;> cases hp : p x <;> simp_all <;> omega
theorem cnt_lt {α : Type} {p q : α → Bool} : ∀ l : List α, (∀ x ∈ l, q x = true → p x = true) → (∃ x ∈ l, p x = true ∧ q x = false) → l.countP q < l.countP p
  | [], _, ⟨x, h, _⟩ => by cases h
  | x :: l, h, ⟨y, hy, h1, h2⟩ => by
    have hle := cnt_le l fun y hy => h y (by simp [hy])
    have h0 := h x (by simp)
    simp only [List.countP_cons]
    rcases List.mem_cons.1 hy with rfl | hy
    · simp [h1, h2]; omega
    · have := cnt_lt l (fun y hy => h y (by simp [hy])) ⟨y, hy, h1, h2⟩
      cases hq : q x <;> cases hp : p x <;> simp_all <;> omega
end Go.Proofs.Ytdoeegfcmbcbkaa.Ct

/- Contracts: how deep a split leads (the program's package for layer 14: each name looked at once). -/
namespace Go.Proofs.Ytdoeegfcmbcbkaa.Ct
open Go Go.Eng Tr
set_option linter.unusedVariables false
set_option maxRecDepth 100000

theorem field_targets (r : TResource) (w : World) : (Instr.field 48 (TResource.v r) 3).run PP w = .ok (Sl.v r.Targets) w := by
  simp only [Instr.field, Sem.run_bind, run_underlying Try.underlying48, Result.andThen_ok]
  exact part_one (cs := Array.mk r.cells) (o := 3) one45 rfl
theorem mapT146 : MapT PP 146 9 3 Value.string (Value.int .i64) 0 := ⟨Try.underlying146, keyT_string Try.underlying9, by kernel_rfl⟩
theorem mapT145 : MapT PP 145 9 48 Value.string TResource.v ⟨0, ⟨#[]⟩, Sl.nil, Sl.nil, ⟨#[]⟩, Sl.nil, ⟨#[]⟩, false⟩ := ⟨Try.underlying145, keyT_string Try.underlying9, by kernel_rfl⟩
def kt (ts : List TTarget) : List ByteArray := (ts.filter fun t => decide (t.Service = ⟨#[]⟩)).map (·.Split)
theorem kt_yes {ts : List TTarget} {k : Nat} (h : k < ts.length) (hs : ts[k].Service = ⟨#[]⟩) : kt (ts.take (k + 1)) = kt (ts.take k) ++ [ts[k].Split] := by
  unfold kt; rw [List.take_add_one, List.getElem?_eq_getElem h, List.filter_append, List.map_append]; simp [hs]
theorem kt_no {ts : List TTarget} {k : Nat} (h : k < ts.length) (hs : ts[k].Service ≠ ⟨#[]⟩) : kt (ts.take (k + 1)) = kt (ts.take k) := by
  unfold kt; rw [List.take_add_one, List.getElem?_eq_getElem h, List.filter_append, List.map_append]; simp [hs]
theorem mem_kt {ts : List TTarget} {k : Nat} (h : k < ts.length) (hs : ts[k].Service = ⟨#[]⟩) : ts[k].Split ∈ kt ts := by
  unfold kt; exact List.mem_map.2 ⟨ts[k], List.mem_filter.2 ⟨List.getElem_mem h, by simp [hs]⟩, rfl⟩
def Inv (l : List DRes) (m : List (ByteArray × Int)) (stack : ByteArray → Prop) : Prop := ∀ n v, mget m n = some v → (v = -1 ∧ stack n) ∨ v = (hd l 8 n : Nat)
def unk (m : List (ByteArray × Int)) (d : DRes) : Bool := decide (d.kind = 2) && (mget m d.name).isNone
section
variable {F : Nat → Prop} {s : Sl} {rs : List TResource} {l : List DRes} {b30 b31 b33 : Nat} {ms : List (ByteArray × TResource)}
/-- what the search stands on -/
structure DepW (F : Nat → Prop) (s : Sl) (rs : List TResource) (l : List DRes) (b30 b31 b33 : Nat) (ms : List (ByteArray × TResource)) (w : World) : Prop where
  conf : ConfD F w s rs l
  off : ∀ b, F b → b ≠ b31
  blk : Blk w b33 148 [.map (some b30), .map (some b31)]
  maps : Mp Value.string TResource.v w b30 ms
  n33 : b33 ≠ b31
  n30 : b30 ≠ b31
theorem DepW.chg {w w' : World} (h : DepW F s rs l b30 b31 b33 ms w) (k : Chg (fun b => b = b31) w w') : DepW F s rs l b30 b31 b33 ms w' :=
  ⟨h.conf.chg k (fun b hb _ => h.off b hb), h.off, h.blk.chg k h.n33, h.maps.chg k h.n30, h.n33, h.n30⟩
theorem of_dep (hms : ∀ n d, splitOf l n = some d → ∃ i, ∃ h : i < rs.length, l[i]? = some d ∧ mget ms n = some rs[i])
    (hnd : ∀ n d t, splitOf l n = some d → t ∈ kidsOf d → (splitOf l t).isSome = true) : ∀ (N : Nat) (w : World) (m : List (ByteArray × Int)) (stack : ByteArray → Prop) (x : ByteArray),
    l.countP (unk m) ≤ N → DepW F s rs l b30 b31 b33 ms w → Mp Value.string (Value.int .i64) w b31 m → Inv l m stack → (∀ n, stack n → Rch l n x) → (splitOf l x).isSome = true →
    Cal PP (Value.int .i64) 96 #[.pointer (some ⟨b33, 0, none⟩), .string x] w fun v w' => v = (hd l 8 x : Nat) ∧ Chg (fun b => b = b31) w w' ∧
      ∃ m', Mp Value.string (Value.int .i64) w' b31 m' ∧ Inv l m' stack ∧ ∀ n, n ∈ mkeys m → n ∈ mkeys m' := by
  intro N
  induction N using Nat.strongRecOn with
  | ind N ih =>
  intro w m stack x hN hW hm hI hst hx
  refine c96 ?_
  unfold f96
  refine ⟨_, rfl, ?_⟩
  refine rn_blk one146 hW.blk rfl rfl ?_
  refine rn_get2 (k := x) (fun _ => rfl) mapT146 hm ?_
  cases hg : mget m x with
  | some v =>
    refine iteT rfl ?_
    rcases hI x v hg with ⟨rfl, hs⟩ | rfl
    · refine iteT (by simp) ⟨?_, Chg.refl _ _, m, hm, hI, fun _ h => h⟩
      have := hd_cyc (hst x hs) 8 x (.inr rfl) (hst x hs)
      rw [this]; rfl
    · refine iteF (by simp) ⟨rfl, Chg.refl _ _, m, hm, hI, fun _ h => h⟩
  | none =>
    refine iteF (by simp) ?_
    obtain ⟨d, hd0⟩ := Option.isSome_iff_exists.1 hx
    refine ⟨_, rfl, ?_⟩
    refine rn_blk one146 hW.blk rfl rfl ?_
    refine rnu_put (k := x) (v := (-1 : Int)) mapT146 hm fun w1 c1 hm1 _ => ?_
    have hW1 := hW.chg c1
    refine ⟨_, rfl, ?_⟩
    refine rn_blk one145 hW1.blk rfl rfl ?_
    refine rn_get (k := x) mapT145 hW1.maps ?_
    obtain ⟨i, hi, hli, hgi⟩ := hms x d hd0
    rw [hgi]
    have hi' : i < l.length := (List.getElem?_eq_some_iff.1 hli).1
    have hld : l[i] = d := (List.getElem?_eq_some_iff.1 hli).2
    have hres : ∀ w', DepW F s rs l b30 b31 b33 ms w' → ResD F w' rs[i] d := fun w' h => by
      have := h.conf.el i hi hi'; rw [hld] at this; exact this
    refine RnP.of (x := rs[i].Targets) (fun w => ?_) ?_
    · exact field_targets rs[i] w
    have hkids : kids l x = kt d.targets := by unfold kids; rw [hd0]; rfl
    -- while the targets are looked at
    have hI1 : Inv l (mput m x (-1)) (fun n => stack n ∨ n = x) := fun n v hv => by
      rw [mget_put] at hv
      by_cases e : x = n
      · rw [if_pos e] at hv; cases hv; exact .inl ⟨rfl, .inr e.symm⟩
      · rw [if_neg e] at hv
        rcases hI n v hv with ⟨h1, h2⟩ | h
        · exact .inl ⟨h1, .inl h2⟩
        · exact .inr h
    refine Lp.mk (fun (y : Int × Int) w' => ∃ (k : Nat) (m' : List (ByteArray × Int)), y.2 = k ∧ k ≤ d.targets.length ∧ y.1 = (maxl ((kt (d.targets.take k)).map (hd l 8)) : Nat) ∧ Chg (fun b => b = b31) w w' ∧
        Mp Value.string (Value.int .i64) w' b31 m' ∧ Inv l m' (fun n => stack n ∨ n = x) ∧ ∀ n, n ∈ mkeys (mput m x (-1)) → n ∈ mkeys m') (fun y => d.targets.length - y.2.toNat)
      ⟨0, mput m x (-1), rfl, Nat.zero_le _, rfl, c1, hm1, hI1, fun _ h => h⟩ ?_
    rintro ⟨n, _⟩ w2 K ⟨k, m2, rfl, hk, rfl, hC, hm2, hI2, hg2⟩ hK
    dsimp only
    have hW2 := hW.chg hC
    have ht := (hres _ hW2).targets
    by_cases hlt : k < d.targets.length
    · rw [if_pos (by rw [ht.len]; omega)]
      refine ⟨fun y w' => y = (maxl ((kt (d.targets.take (k + 1))).map (hd l 8)) : Nat) ∧ Chg (fun b => b = b31) w w' ∧ ∃ m', Mp Value.string (Value.int .i64) w' b31 m' ∧ Inv l m' (fun n => stack n ∨ n = x) ∧ ∀ n, n ∈ mkeys (mput m x (-1)) → n ∈ mkeys m', ?_, ?_⟩
      · refine rnp_idx sl45 ht hlt rfl fun p _ hp => ?_
        refine rn_ldN (x := d.targets[k]) many84 hp rfl rfl ?_
        refine New.var (TTarget.cells d.targets[k]) sz84 rfl (oc_target _) rfl fun b9 w3 e3 hb _ => ?_
        have hC3 := hC.thenE e3
        refine rn_blk one9 hb rfl rfl ?_
        by_cases c : d.targets[k].Service = ⟨#[]⟩
        · refine iteT c ?_
          refine rn_blk one9 hb rfl rfl ?_
          have hkid : d.targets[k].Split ∈ kids l x := by rw [hkids]; exact mem_kt hlt c
          have hcnt : l.countP (unk m2) < l.countP (unk m) := by
            have hmono : ∀ n, n ∈ mkeys m → n ∈ mkeys m2 := fun n hn => hg2 n (mem_mkeys_put.2 (.inr hn))
            have hxin : x ∈ mkeys m2 := hg2 x (mem_mkeys_put.2 (.inl rfl))
            have hdm : d ∈ l := List.mem_of_getElem? hli
            have hdp := List.find?_some hd0
            simp only [Bool.and_eq_true, decide_eq_true_eq] at hdp
            refine cnt_lt l (fun y _ hy => ?_) ⟨d, hdm, ?_, ?_⟩
            · simp only [unk, Bool.and_eq_true, decide_eq_true_eq, Option.isNone_iff_eq_none] at hy ⊢
              exact ⟨hy.1, mget_none.2 fun h => mget_none.1 hy.2 (hmono _ h)⟩
            · simp only [unk, hdp.1, hdp.2, decide_true, Bool.true_and, hg, Option.isNone_none]
            · have : (mget m2 x).isNone = false := by
                cases he : mget m2 x with
                | none => exact absurd hxin (mget_none.1 he)
                | some _ => rfl
              simp only [unk, hdp.2, this, Bool.and_false]
          refine (ih (l.countP (unk m2)) (by omega) w3 m2 (fun n => stack n ∨ n = x) d.targets[k].Split (Nat.le_refl _) (hW.chg hC3) (hm2.ext e3) hI2 (fun n hn => ?_) ?_).mono ?_
          · rcases hn with hn | rfl
            · exact (hst n hn).snoc hkid
            · exact .one hkid
          · exact hnd x d _ hd0 (by rw [← show kids l x = kidsOf d by unfold kids; rw [hd0]]; exact hkid)
          · rintro v w4 ⟨rfl, c4, m4, hm4, hI4, hg4⟩
            refine ⟨?_, hC3.trans c4, m4, hm4, hI4, fun n hn => hg4 n (hg2 n hn)⟩
            rw [kt_yes hlt c, List.map_append, List.map_cons, List.map_nil, maxl_app]
            omega
        · refine iteF c ⟨?_, hC3, m2, hm2.ext e3, hI2, hg2⟩
          rw [kt_no hlt c]
      · rintro _ w3 ⟨rfl, hC3, m3, hm3, hI3, hg3⟩
        rw [ht.wr hlt]
        exact hK _ _ ⟨k + 1, m3, rfl, hlt, rfl, hC3, hm3, hI3, hg3⟩ (by dsimp only; omega)
    · rw [if_neg (by rw [ht.len]; omega)]
      obtain rfl : k = d.targets.length := by omega
      rw [List.take_length]
      have hmin := hd_min l x
      rw [hkids] at hmin
      have hb9 : maxl ((kt d.targets).map (hd l 8)) ≤ 9 := maxl_le fun y hy => by
        obtain ⟨z, _, rfl⟩ := List.mem_map.1 hy; exact (hd_bounds l 8 z).2
      have hval : min (IntKind.i64.wrap (((maxl ((kt d.targets).map (hd l 8)) : Nat) : Int) + 1)) 9 = ((hd l 8 x : Nat) : Int) := by
        rw [wrap_in ⟨by omega, by omega⟩, ← hmin]; omega
      refine ⟨_, rfl, ?_⟩
      refine rn_blk one146 hW2.blk rfl rfl ?_
      rw [hval]
      refine rnu_put (k := x) (v := ((hd l 8 x : Nat) : Int)) mapT146 hm2 fun w3 c3 hm3 _ => ?_
      refine ⟨rfl, hC.trans c3, _, hm3, fun n v hv => ?_, fun n hn => mem_mkeys_put.2 (.inr (hg2 n (mem_mkeys_put.2 (.inr hn))))⟩
      rw [mget_put] at hv
      by_cases e : x = n
      · rw [if_pos e] at hv; cases hv; rw [← e]; exact .inr rfl
      · rw [if_neg e] at hv
        rcases hI2 n v hv with ⟨h1, h2 | h2⟩ | h
        · exact .inl ⟨h1, h2⟩
        · exact absurd h2.symm e
        · exact .inr h
end
end Go.Proofs.Ytdoeegfcmbcbkaa.Ct

/- Memory: slices of one-celled elements that are made whole and written in place. -/
namespace Go.Eng
open Go
set_option linter.unusedVariables false

section
variable {P : Program} {t T e bytes : Nat} {z : Value} {w : World}
theorem rn_make1 {n : Nat} {K : Sl → World → Prop} (ht : ElT P t T 1 bytes z) (hz : z.cells = #[z]) (hb : n * bytes ≤ 140737488355328) (hn : n ≤ maxLen)
    (hk : ∀ b w', Ext w w' → Blk w' b T (List.replicate n z) → b = w.heap.size → K ⟨some ⟨b, 0, none⟩, n, n⟩ w') : Rn P Sl.v (Instr.makeSlice t (.int .i64 (n : Int)) (.int .i64 (n : Int))) w K := by
  obtain ⟨i, hi, hzi, hsi, hbi⟩ : ∃ i, P.info? T = some i ∧ i.zero = some z ∧ i.size = 1 ∧ i.bytes = bytes := by
    have := ht.inf
    cases hi : P.info? T with
    | none => rw [hi] at this; cases this
    | some i => rw [hi] at this; simp only [Option.map_some, Option.some.injEq, Prod.mk.injEq] at this; exact ⟨i, rfl, this⟩
  have hb' : (i.bytes : Int) * (n : Int) ≤ 281474976710656 := by
    have : ((i.bytes * n : Nat) : Int) ≤ 281474976710656 := by rw [hbi, Nat.mul_comm]; omega
    rwa [Int.natCast_mul] at this
  have hr := run_make (P := P) w t T i z ht.und hi hzi .i64 .i64 n n (by omega) (Int.le_refl _) hb' (by unfold maxLen at hn; omega)
  simp only [Int.toNat_natCast, hsi, Nat.mul_one] at hr
  have hc : madeCells z.cells n = (List.replicate n z).toArray := by
    rw [hz]; apply Array.ext'
    rw [List.toList_toArray]
    apply List.ext_getElem (by simp [madeCells])
    intro j h1 h2
    simp [madeCells, Nat.mod_one]
  rw [hc] at hr
  exact ⟨⟨some ⟨w.heap.size, 0, none⟩, n, n⟩, _, hr, hk _ _ (Ext.alloc _ _) (heap_alloc_new w _) rfl⟩
theorem over_one {cs : List Value} {i : Nat} {v : Value} (h : i < cs.length) : over cs i [v] = cs.set i v := by
  unfold over
  rw [List.set_eq_take_append_cons_drop, if_pos h]
  simp
/-- the place of an element in a block of its own -/
theorem rnp_own {n c b k : Nat} {i : Int} {K : Addr → Prop} (ht : SlT P t e 1) (hk : k < n) (hi : i = k) (h : K ⟨b, k, none⟩) : RnP P Ptr (Instr.indexAt t (Sl.v ⟨some ⟨b, 0, none⟩, n, c⟩) (.int .i64 i)) K := by
  subst hi
  refine ⟨⟨b, k, none⟩, fun w => ?_, h⟩
  have := idx_run (P := P) (s := ⟨some ⟨b, 0, none⟩, n, c⟩) ht rfl hk w
  rw [this, blk_add]; simp
theorem rnu_st1 {b T i : Nat} {cs : List Value} {v : Value} {K : World → Prop} (hs : (P.info? t).map (·.size) = some 1) (hb : Blk w b T cs) (hi : i < cs.length) (hv : v.cells = #[v]) (h1 : v.oneCell' = true)
    (hk : ∀ w', Chg (fun x => x = b) w w' → Blk w' b T (cs.set i v) → w'.heap.size = w.heap.size → K w') : RnU P (Instr.storeAt t (Ptr ⟨b, i, none⟩) v) w K :=
  rnu_st (b := b) (o := i) rfl hb [v] hs (by rw [hv]) (by simpa using h1) (by simp only [List.length_cons, List.length_nil]; omega) fun w' c h2 h3 => hk w' c (by rw [← over_one hi]; exact h3) h2
end
end Go.Eng

/- Contracts: how deep a split leads (the document's package for layer 14: eight rounds). -/
namespace Go.Proofs.Ytdoeegfcmbcbkaa.Ct
open Go Go.Eng Tr
set_option linter.unusedVariables false
set_option maxRecDepth 100000

def ints (x : Int) : List Value := [.int .i64 x]
/-- what a round says of the resource at place i: how deep it leads, or 0 -/
def dv (l : List DRes) (r i : Nat) : Nat :=
  match l[i]? with
  | none => 0
  | some d => if d.kind = 2 then (if hd l r d.name ≤ r then hd l r d.name else 0) else 0
def pv (l : List DRes) (r : Nat) (ts : List TTarget) : Nat := if maxl ((kt ts).map (hd l r)) ≤ r then 1 + maxl ((kt ts).map (hd l r)) else 0
def row (l : List DRes) (r : Nat) : List Int := (List.range l.length).map fun i => (dv l r i : Int)
theorem row_get {l : List DRes} {r i : Nat} (h : i < l.length) : (row l r)[i]? = some ((dv l r i : Nat) : Int) := by
  simp [row, h]
theorem row_len (l : List DRes) (r : Nat) : (row l r).length = l.length := by simp [row]
section
variable {w : World} {F G : Nat → Prop} {s : Sl} {rs : List TResource} {l : List DRes}
theorem pv_dv (huq : ∀ d ∈ l, d.kind = 2 → splitOf l d.name = some d) {i : Nat} (hi : i < l.length) (hk : l[i].kind = 2) (r : Nat) : pv l r l[i].targets = dv l (r + 1) i := by
  have h1 : kids l l[i].name = kt l[i].targets := by unfold kids; rw [huq _ (List.getElem_mem hi) hk]; rfl
  have h2 : hd l (r + 1) l[i].name = 1 + maxl ((kt l[i].targets).map (hd l r)) := by rw [← h1]; rfl
  unfold pv dv
  simp only [List.getElem?_eq_getElem hi, if_pos hk, h2]
  by_cases h : maxl ((kt l[i].targets).map (hd l r)) ≤ r
  · rw [if_pos h, if_pos (by omega)]
  · rw [if_neg h, if_neg (by omega)]
theorem pv_yes {r : Nat} {ts : List TTarget} {k : Nat} (h : k < ts.length) (hs : ts[k].Service = ⟨#[]⟩) (h0 : 0 < pv l r (ts.take k)) :
    pv l r (ts.take (k + 1)) = if hd l r ts[k].Split ≤ r then max (pv l r (ts.take k)) (hd l r ts[k].Split + 1) else 0 := by
  unfold pv at h0 ⊢
  rw [kt_yes h hs, List.map_append, List.map_cons, List.map_nil, maxl_app]
  by_cases c : maxl ((kt (ts.take k)).map (hd l r)) ≤ r
  · rw [if_pos c]
    by_cases c2 : hd l r ts[k].Split ≤ r
    · rw [if_pos c2, if_pos (by omega)]; omega
    · rw [if_neg c2, if_neg (by omega)]
  · rw [if_neg c] at h0; omega
theorem pv_zero {r : Nat} {ts : List TTarget} {k : Nat} (h0 : pv l r (ts.take k) = 0) : pv l r ts = 0 := by
  have : ∀ j, pv l r (ts.take (k + j)) = 0 := fun j => by
    induction j with
    | zero => exact h0
    | succ j ih =>
      by_cases hj : k + j < ts.length
      · unfold pv at ih ⊢
        by_cases c : maxl ((kt (ts.take (k + j))).map (hd l r)) ≤ r
        · rw [if_pos c] at ih; omega
        · rw [if_neg]
          by_cases hs : ts[k + j].Service = ⟨#[]⟩
          · rw [show k + (j + 1) = k + j + 1 by omega, kt_yes hj hs, List.map_append, List.map_cons, List.map_nil, maxl_app]; omega
          · rw [show k + (j + 1) = k + j + 1 by omega, kt_no hj hs]; exact c
      · rw [List.take_of_length_le (by omega)]; rwa [List.take_of_length_le (by omega)] at ih
  have h := this ts.length
  rwa [List.take_of_length_le (by omega)] at h
theorem ints_flat (xs : List Int) : xs.flatMap ints = xs.map (Value.int .i64) := by
  induction xs with
  | nil => rfl
  | cons x xs ih => simp [List.flatMap_cons, ih, ints]
/-- a round half done -/
def mix (l : List DRes) (r j : Nat) : List Value := (List.range l.length).map fun i => Value.int .i64 ((if i < j then dv l (r + 1) i else 0 : Nat) : Int)
theorem mix_len (r j : Nat) : (mix l r j).length = l.length := by simp [mix]
theorem mix_set {r j : Nat} (hj : j < l.length) : (mix l r j).set j (.int .i64 ((dv l (r + 1) j : Nat) : Int)) = mix l r (j + 1) := by
  apply List.ext_getElem (by simp [mix])
  intro i h1 h2
  simp only [mix, List.length_set, List.length_map, List.length_range] at h1
  by_cases e : j = i
  · subst e; simp [mix]
  · rw [List.getElem_set_ne e]
    simp only [mix, List.getElem_map, List.getElem_range]
    by_cases h : i < j
    · rw [if_pos h, if_pos (by omega)]
    · rw [if_neg h, if_neg (by omega)]
theorem mix_skip {r j : Nat} (hj : j < l.length) (h0 : dv l (r + 1) j = 0) : mix l r j = mix l r (j + 1) := by
  apply List.ext_getElem (by simp [mix])
  intro i h1 h2
  simp only [mix, List.getElem_map, List.getElem_range]
  by_cases h : i < j
  · rw [if_pos h, if_pos (by omega)]
  · rw [if_neg h]
    by_cases e : i = j
    · subst e; rw [if_pos (by omega), h0]
    · rw [if_neg (by omega)]
theorem mix_zero (r : Nat) : List.replicate l.length (Value.int .i64 0) = mix l r 0 := by
  apply List.ext_getElem (by simp [mix])
  intro i h1 h2
  simp [mix]
theorem mix_full (r : Nat) : mix l r l.length = (row l (r + 1)).flatMap ints := by
  rw [ints_flat]
  apply List.ext_getElem (by simp [mix, row])
  intro i h1 h2
  simp only [mix, List.length_map, List.length_range] at h1
  simp [mix, row, h1]
theorem row_zero : List.replicate l.length (Value.int .i64 0) = (row l 0).flatMap ints := by
  rw [ints_flat]
  apply List.ext_getElem (by simp [row])
  intro i h1 h2
  simp only [row, List.length_replicate] at h1
  simp only [row, List.getElem_replicate, List.getElem_map, List.getElem_range]
  have : dv l 0 i = 0 := by simp [dv, h1, hd]
  rw [this]; rfl
theorem fst?_le {p : Nat → Bool} {n : Nat} : fst? p n = -1 ∨ ∃ k, fst? p n = (k : Nat) ∧ k < n ∧ p k = true := by
  unfold fst?
  cases h : (List.range n).find? p with
  | none => exact .inl rfl
  | some k =>
    right
    have h1 := List.mem_of_find?_eq_some h
    have h2 := List.find?_some h
    exact ⟨k, rfl, by simpa using h1, h2⟩
theorem has_at {kind : Int} {n : ByteArray} (h : has l kind n = true) : ∃ k : Nat, fst? (isAt l kind n) l.length = k ∧ ∃ hk : k < l.length, l[k].kind = kind ∧ l[k].name = n := by
  unfold has at h
  simp only [decide_eq_true_eq] at h
  rcases fst?_le (p := isAt l kind n) (n := l.length) with h' | ⟨k, h1, h2, h3⟩
  · omega
  · rw [isAt_eq h2] at h3
    simp only [Bool.and_eq_true, decide_eq_true_eq] at h3
    exact ⟨k, h1, h2, h3⟩
theorem depths_ok (h : ConfD F w s rs l) (hlen : l.length ≤ 64) (huq : ∀ d ∈ l, d.kind = 2 → splitOf l d.name = some d)
    (hnd : ∀ n d t, splitOf l n = some d → t ∈ kidsOf d → has l 2 t = true) :
    Cal PP Sl.v 102 #[s.v] w fun x w' => Ext w w' ∧ Rd ints 1 (fun b => w.heap.size ≤ b) w' x (row l 8) := by
  refine c102 ?_
  unfold f102
  rw [h.n]
  refine rn_make1 el77 rfl (by omega) (by unfold maxLen; omega) fun b13 w1 e1 h13 hn => ?_
  refine Lp.mk (fun (y : Sl × Int) w' => ∃ (r b : Nat), y.2 = r ∧ r ≤ 8 ∧ y.1 = ⟨some ⟨b, 0, none⟩, l.length, l.length⟩ ∧ w.heap.size ≤ b ∧ Ext w w' ∧ Blk w' b 3 ((row l r).flatMap ints)) (fun y => 8 - y.2.toNat)
    ⟨0, b13, rfl, by omega, rfl, by omega, e1, by rw [← row_zero]; exact h13⟩ ?_
  rintro ⟨y, i⟩ w2 K ⟨r, b, rfl, hr, rfl, hbn, hE, hb⟩ hK
  dsimp only
  by_cases hr8 : r < 8
  · rw [if_pos (by omega)]
    refine rn_make1 el77 rfl (by omega) (by unfold maxLen; omega) fun b20 w3 e3 h20 hn20 => ?_
    have hbl := hb.lt
    replace hE := hE.trans e3; replace hb := hb.ext e3
    have hrow : ∀ {w' : World}, Blk w' b 3 ((row l r).flatMap ints) → Rd ints 1 (fun _ => True) w' ⟨some ⟨b, 0, none⟩, l.length, l.length⟩ (row l r) := fun h => h.rd rfl (fun _ _ => rfl) trivial (row_len l r).symm (by unfold maxLen; omega)
    refine Lp.mk (fun (y : Int) w' => ∃ j : Nat, y = j ∧ j ≤ l.length ∧ Ext w w' ∧ Blk w' b 3 ((row l r).flatMap ints) ∧ Blk w' b20 3 (mix l r j)) (fun y => l.length - y.toNat)
      ⟨0, rfl, Nat.zero_le _, hE, hb, by rw [← mix_zero]; exact h20⟩ ?_
    rintro y w4 K2 ⟨j, rfl, hj, hE, hb, h20⟩ hK2
    by_cases hlt : j < l.length
    · rw [if_pos (by omega)]
      refine ⟨fun _ w' => Ext w w' ∧ Blk w' b 3 ((row l r).flatMap ints) ∧ Blk w' b20 3 (mix l r (j + 1)), ?_, ?_⟩
      · refine (h.ext hE).idx hlt rfl fun p q _ hp hq => ?_
        refine rn_at one3 hp rfl ?_
        rw [hq.kind]
        by_cases c2 : l[j].kind = 2
        · refine iteF (fun h => h c2) ?_
          have hpd := pv_dv huq hlt c2 r
          have hsp := huq _ (List.getElem_mem hlt) c2
          refine Lp.mk (fun (y : Int × Int) w' => ∃ k : Nat, y.2 = k ∧ k ≤ l[j].targets.length ∧ y.1 = (pv l r (l[j].targets.take k) : Nat) ∧ Ext w w' ∧ Blk w' b 3 ((row l r).flatMap ints) ∧ Blk w' b20 3 (mix l r j)) (fun y => l[j].targets.length - y.2.toNat)
            ⟨0, rfl, Nat.zero_le _, by simp [pv, kt, maxl], hE, hb, h20⟩ ?_
          rintro ⟨n, _⟩ w5 K3 ⟨k, rfl, hk, rfl, hE, hb, h20⟩ hK3
          dsimp only
          refine ⟨fun x w' => w' = w5 ∧ x = (decide (k < l[j].targets.length) && decide (0 < pv l r (l[j].targets.take k))), ?_, ?_⟩
          · refine (h.ext hE).idx hlt rfl fun p q _ hp hq => ?_
            refine rn_at one45 hp rfl ?_
            by_cases hkl : k < l[j].targets.length
            · refine iteT (by rw [hq.targets.len]; omega) ⟨rfl, ?_⟩
              simp [hkl]
            · refine iteF (by rw [hq.targets.len]; omega) ⟨rfl, by simp [hkl]⟩
          rintro _ _ ⟨rfl, rfl⟩
          by_cases hgo : k < l[j].targets.length ∧ 0 < pv l r (l[j].targets.take k)
          · obtain ⟨hkl, hpos⟩ := hgo
            refine iteT (by simp [hkl, hpos]) ?_
            refine ⟨fun x w' => x = (pv l r (l[j].targets.take (k + 1)) : Nat) ∧ Ext w w' ∧ Blk w' b 3 ((row l r).flatMap ints) ∧ Blk w' b20 3 (mix l r j), ?_, ?_⟩
            · refine (h.ext hE).idx hlt rfl fun p q _ hp hq => ?_
              refine rn_at one45 hp rfl ?_
              refine rnp_idx sl45 hq.targets hkl rfl fun p _ hp => ?_
              refine rn_ldN (x := l[j].targets[k]) many84 hp rfl rfl ?_
              refine New.var (TTarget.cells l[j].targets[k]) sz84 rfl (oc_target _) rfl fun b9 w6 e6 h9 _ => ?_
              replace hE := hE.trans e6; replace hb := hb.ext e6; replace h20 := h20.ext e6
              refine rn_blk one9 h9 rfl rfl ?_
              by_cases cs : l[j].targets[k].Service = ⟨#[]⟩
              · refine iteF (fun h => h cs) ?_
                refine rn_blk one9 h9 rfl rfl ?_
                refine (find_ok (h.ext hE) 2 _).mono ?_
                rintro _ w7 ⟨e7, rfl⟩
                replace hE := hE.trans e7; replace hb := hb.ext e7; replace h20 := h20.ext e7
                have hin : l[j].targets[k].Split ∈ kidsOf l[j] := mem_kt hkl cs
                obtain ⟨at_, hat, hatl, hak, han⟩ := has_at (hnd _ _ _ hsp hin)
                have hdv : dv l r at_ = if hd l r l[j].targets[k].Split ≤ r then hd l r l[j].targets[k].Split else 0 := by
                  simp only [dv, List.getElem?_eq_getElem hatl, if_pos hak, han]
                have hb1 := hd_bounds l r l[j].targets[k].Split
                have hyes := pv_yes (l := l) hkl cs hpos
                rw [hat]
                have rd : ∀ {w' : World} {K : Int → World → Prop}, Blk w' b 3 ((row l r).flatMap ints) → K ((dv l r at_ : Nat) : Int) w' →
                    RnP PP Ptr (Instr.indexAt 77 (Sl.v ⟨some ⟨b, 0, none⟩, l.length, l.length⟩) (.int .i64 (at_ : Int))) fun p => Rn PP (Value.int .i64) (Instr.loadAt 3 (Ptr p)) w' K := fun hb hK =>
                  rnp_own sl77 hatl rfl (rn_blk one3 hb rfl (by rw [ints_flat, List.getElem?_map, row_get hatl]; rfl) hK)
                refine ⟨fun x w' => w' = w7 ∧ x = decide (dv l r at_ = 0), ?_, ?_⟩
                · refine iteF (by omega) ?_
                  refine rd hb ⟨rfl, ?_⟩
                  by_cases h0 : dv l r at_ = 0
                  · simp [h0]
                  · have : ((dv l r at_ : Nat) : Int) ≠ 0 := by omega
                    simp [h0]
                rintro _ _ ⟨rfl, rfl⟩
                by_cases h0 : dv l r at_ = 0
                · refine iteT (by simp [h0]) ⟨?_, hE, hb, h20⟩
                  rw [hyes, if_neg]; rfl
                  intro hle; rw [if_pos hle] at hdv; omega
                · refine iteF (by simp [h0]) ?_
                  have hle : hd l r l[j].targets[k].Split ≤ r := by
                    by_cases hle : hd l r l[j].targets[k].Split ≤ r
                    · exact hle
                    · rw [if_neg hle] at hdv; exact absurd hdv h0
                  rw [if_pos hle] at hdv
                  rw [if_pos hle] at hyes
                  have hw : IntKind.i64.wrap (((dv l r at_ : Nat) : Int) + 1) = ((dv l r at_ + 1 : Nat) : Int) := by
                    rw [wrap_in ⟨by omega, by omega⟩]; omega
                  refine rd hb ?_
                  rw [hw]
                  by_cases cm : pv l r (l[j].targets.take k) < dv l r at_ + 1
                  · refine iteT (by omega) ?_
                    refine rd hb ⟨?_, hE, hb, h20⟩
                    rw [hw, hyes, hdv]; omega
                  · refine iteF (by omega) ⟨?_, hE, hb, h20⟩
                    rw [hyes]; omega
              · refine iteT cs ⟨?_, hE, hb, h20⟩
                unfold pv; rw [kt_no hkl cs]
            rintro _ w6 ⟨rfl, hE, hb, h20⟩
            have hwr : IntKind.i64.wrap ((k : Int) + 1) = ((k + 1 : Nat) : Int) := by
              obtain ⟨q, hq⟩ : ∃ q, ResD F w6 q l[j] := ⟨_, (h.ext hE).el j (by rw [h.len]; exact hlt) hlt⟩
              exact hq.targets.wr hkl
            rw [hwr]
            exact hK3 _ _ ⟨k + 1, rfl, hkl, rfl, hE, hb, h20⟩ (by dsimp only; omega)
          · refine iteF (by simpa using hgo) ?_
            have hfin : pv l r (l[j].targets.take k) = dv l (r + 1) j := by
              rw [← hpd]
              by_cases hkl : k < l[j].targets.length
              · have : pv l r (l[j].targets.take k) = 0 := by
                  by_cases hz : pv l r (l[j].targets.take k) = 0
                  · exact hz
                  · exact absurd ⟨hkl, by omega⟩ hgo
                rw [this, pv_zero this]
              · rw [List.take_of_length_le (by omega)]
            refine rnp_own sl77 hlt rfl ?_
            refine rnu_st1 sz3 h20 (by rw [mix_len]; exact hlt) rfl rfl fun w6 c6 h20 _ => ?_
            refine ⟨hE.then c6 (fun x hx => by omega), hb.chg c6 (by omega), ?_⟩
            rw [← mix_set hlt, ← hfin]; exact h20
        · refine iteT c2 ⟨hE, hb, ?_⟩
          rw [← mix_skip hlt]
          · exact h20
          · simp [dv, hlt, c2]
      · rintro _ w5 ⟨hE, hb, h20⟩
        rw [h.wr hlt]
        exact hK2 _ _ ⟨j + 1, rfl, hlt, hE, hb, h20⟩ (by omega)
    · rw [if_neg (by omega)]
      obtain rfl : j = l.length := by omega
      have hw : IntKind.i64.wrap ((r : Int) + 1) = ((r + 1 : Nat) : Int) := by rw [wrap_in ⟨by omega, by omega⟩]; rfl
      rw [hw]
      exact hK _ _ ⟨r + 1, b20, rfl, by omega, rfl, by omega, hE, by rw [← mix_full]; exact h20⟩ (by dsimp only; omega)
  · rw [if_neg (by omega)]
    obtain rfl : r = 8 := by omega
    refine ⟨hE, ?_⟩
    exact hb.rd rfl (fun _ _ => rfl) hbn (row_len l 8).symm (by unfold maxLen; omega)
end
end Go.Proofs.Ytdoeegfcmbcbkaa.Ct

/- Memory: texts cut and looked into. -/
namespace Go.Eng
open Go
set_option linter.unusedVariables false

section
variable {P : Program} {t : TypeId} {x : ByteArray} {i : Int}
theorem rnp_str_to {K : ByteArray → Prop} (ht : P.underlying t = some .string) {k : Nat} (hi : i = k) (hk : k ≤ x.size) (h : K (x.extract 0 k)) : RnP P Value.string (Instr.sliceAt t (.string x) none (some (.int .i64 i)) none) K := by
  subst hi
  refine RnP.of (x := x.extract 0 k) (fun w => ?_) h
  rw [run_sliceAt_string (h := ht), run_slice_string_h w t x ht .i64 k (by omega) (by omega)]; rfl
theorem rnp_str_from {K : ByteArray → Prop} (ht : P.underlying t = some .string) {k : Nat} (hi : i = k) (hk : k ≤ x.size) (h : K (x.extract k x.size)) : RnP P Value.string (Instr.sliceAt t (.string x) (some (.int .i64 i)) none none) K := by
  subst hi
  refine RnP.of (x := x.extract k x.size) (fun w => ?_) h
  rw [run_sliceAt_string (h := ht), run_slice_string_l w t x ht .i64 k (by omega) (by omega)]; rfl
theorem rnp_byte {K : Int → Prop} (ht : P.underlying t = some .string) {k : Nat} (hi : i = k) (hk : k < x.size) (h : K ((x[k].toNat : Nat) : Int)) : RnP P (Value.int .u8) (Instr.index t (.string x) (.int .i64 i)) K := by
  subst hi
  refine RnP.of (x := ((x[k].toNat : Nat) : Int)) (fun w => ?_) h
  rw [run_index_string (h := ht), dif_pos (by omega)]; rfl
theorem wrap_succ {n : Nat} (h : n < maxLen) : IntKind.i64.wrap ((n : Int) + 1) = ((n + 1 : Nat) : Int) := by
  unfold maxLen at h; rw [wrap_in ⟨by omega, by omega⟩]; rfl
theorem wrap_sub {n m : Nat} (h : n ≤ maxLen) (hm : m ≤ n) : IntKind.i64.wrap ((n : Int) - (m : Int)) = ((n - m : Nat) : Int) := by
  unfold maxLen at h; rw [wrap_in ⟨by omega, by omega⟩]; omega
end
end Go.Eng

/- Contracts: what covers what among paths, in both packages (that it answers, and makes nothing of what stood another thing). -/
namespace Go.Proofs.Ytdoeegfcmbcbkaa.Ct
open Go Go.Eng Tr
set_option linter.unusedVariables false
set_option maxRecDepth 100000

/-- it answers, whatever -/
def Rets {α : Type} (enc : α → Value) (f : FuncId) (args : Array Value) (w : World) : Prop := Cal PP enc f args w fun x w' => Ext w w'
section
variable {w : World} {x y : ByteArray}
theorem begins13_ok (x y : ByteArray) : Rets Value.bool 128 #[.string x, .string y] w := by
  refine c128 ?_
  unfold f128
  refine Jn.dup ?_
  by_cases c : (y.size : Int) ≤ (x.size : Int)
  · rw [if_pos c]
    exact rnp_str_to Try.underlying9 rfl (by omega) (Ext.refl _)
  · rw [if_neg c]; exact Ext.refl _
theorem hasPrefix_ok (x y : ByteArray) : Rets Value.bool 116 #[.string x, .string y] w := by
  refine c116 ?_
  unfold f116
  refine Cal.mono (K := fun _ w' => Ext w w') ?_ (fun _ _ h => h)
  refine c138 ?_
  unfold f138
  refine Jn.dup ?_
  by_cases c : (y.size : Int) ≤ (x.size : Int)
  · rw [if_pos c]
    exact rnp_str_to Try.underlying9 rfl (by omega) (Ext.refl _)
  · rw [if_neg c]; exact Ext.refl _
theorem ends_ok (x y : ByteArray) (hx : x.size ≤ maxLen) : Cal PP Value.bool 143 #[.string x, .string y] w fun r w' => Ext w w' ∧ (r = true → y.size ≤ x.size) := by
  refine c143 ?_
  unfold f143
  refine Jn.dup ?_
  by_cases c : (y.size : Int) ≤ (x.size : Int)
  · rw [if_pos c]
    refine rnp_str_from (k := x.size - y.size) Try.underlying9 ?_ (by omega) ⟨Ext.refl _, fun _ => by omega⟩
    rw [wrap_sub hx (by omega)]
  · rw [if_neg c]; exact ⟨Ext.refl _, fun h => by simp at h⟩
theorem star_ok (x : ByteArray) (hx : x.size ≤ maxLen) : Cal PP (fun x : ByteArray × Bool => Value.tuple #[.string x.1, .bool x.2]) 127 #[.string x] w fun r w' => Ext w w' ∧ r.1.size ≤ x.size := by
  refine c127 ?_
  unfold f127
  refine (ends_ok x _ hx).mono ?_; rintro r w1 ⟨e1, h1⟩
  cases r with
  | true =>
    refine iteT rfl ?_
    have : 1 ≤ x.size := h1 rfl
    refine rnp_str_to (k := x.size - 1) Try.underlying9 (by have := wrap_sub hx this; simpa using this) (by omega) ⟨e1, ?_⟩
    simp only [ByteArray.size_extract]; omega
  | false => exact iteF (by simp) ⟨e1, Nat.le_refl _⟩
theorem isPath_ok (x : ByteArray) (hx : x.size ≤ maxLen) : Rets Value.bool 142 #[.string x] w := by
  refine c142 ?_
  unfold f142
  refine Lp.mk (fun (i : Int) w' => ∃ k : Nat, i = k ∧ k ≤ x.size ∧ Ext w w') (fun i => x.size - i.toNat) ⟨0, rfl, Nat.zero_le _, Ext.refl _⟩ ?_
  rintro i w1 K ⟨k, rfl, hk, hE⟩ hK
  by_cases hlt : k < x.size
  · rw [if_pos (by omega)]
    have no : K (IntKind.i64.wrap ((k : Int) + 1)) w1 := by
      rw [wrap_succ (by omega)]; exact hK _ _ ⟨k + 1, rfl, hlt, hE⟩ (by omega)
    have fin : ∀ b : Bool, if b = true then Ext w w1 else K (IntKind.i64.wrap ((k : Int) + 1)) w1 := fun b => by
      cases b
      · exact iteF (by simp) no
      · exact iteT rfl hE
    refine Jn.dup ?_
    refine rnp_byte Try.underlying9 rfl hlt ?_
    by_cases c : ((x[k].toNat : Nat) : Int) < 33
    · rw [if_pos c]; exact fin true
    · rw [if_neg c]
      exact rnp_byte Try.underlying9 rfl hlt (fin _)
  · rw [if_neg (by omega)]
    refine Jn.dup ?_
    by_cases c1 : 1 ≤ (x.size : Int)
    · rw [if_pos c1]
      by_cases c2 : (x.size : Int) ≤ 256
      · rw [if_pos c2]
        exact rnp_byte (k := 0) Try.underlying9 rfl (by omega) hE
      · rw [if_neg c2]; exact hE
    · rw [if_neg c1]; exact hE
theorem pattern13_ok (x : ByteArray) (hx : x.size ≤ maxLen) : Rets Value.bool 126 #[.string x] w := by
  refine c126 ?_
  unfold f126
  refine (star_ok x hx).mono ?_; rintro ⟨p, b⟩ w1 ⟨e1, h1⟩
  refine Jn.dup ?_
  have fin : Cal PP Value.bool 142 #[.string p] w1 fun _ w' => Ext w w' := (isPath_ok p (Nat.le_trans h1 hx)).mono fun _ _ h => e1.trans h
  cases b with
  | true =>
    refine iteT rfl ?_
    by_cases c : p = ⟨#[]⟩
    · exact iteT c e1
    · exact iteF c fin
  | false => exact iteF (by simp) fin
theorem covers13_ok (x y : ByteArray) (hx : x.size ≤ maxLen) (hy : y.size ≤ maxLen) : Rets Value.bool 103 #[.string x, .string y] w := by
  refine c103 ?_
  unfold f103
  refine ⟨fun _ w' => Ext w w', ?_, ?_⟩
  · refine (pattern13_ok x hx).mono ?_; rintro r w1 e1
    cases r with
    | true => exact iteF (by simp) ((pattern13_ok y hy).mono fun _ _ h => e1.trans h)
    | false => exact iteT rfl e1
  rintro b w1 e1
  cases b with
  | true => exact iteT rfl e1
  | false =>
    refine iteF (by simp) ?_
    refine (star_ok x hx).mono ?_; rintro ⟨p, b⟩ w2 ⟨e2, h2⟩
    refine (star_ok y hy).mono ?_; rintro ⟨q, b'⟩ w3 ⟨e3, h3⟩
    have e := e1.trans (e2.trans e3)
    refine Jn.dup ?_
    by_cases c : x = y
    · rw [if_pos c]; exact e
    · rw [if_neg c]
      cases b with
      | true => exact iteT rfl ((begins13_ok q p).mono fun _ _ h => e.trans h)
      | false => exact iteF (by simp) e
end
end Go.Proofs.Ytdoeegfcmbcbkaa.Ct

/- Contracts: what covers what among paths in the program's package, and what rules are shadowed (that it answers). -/
namespace Go.Proofs.Ytdoeegfcmbcbkaa.Ct
open Go Go.Eng Tr
set_option linter.unusedVariables false
set_option maxRecDepth 100000

section
variable {w : World} {F : Nat → Prop}
theorem suffix_ok (x y : ByteArray) (hx : x.size ≤ maxLen) : Cal PP Value.bool 139 #[.string x, .string y] w fun r w' => Ext w w' ∧ (r = true → y.size ≤ x.size) := by
  refine c139 ?_
  unfold f139
  refine Jn.dup ?_
  by_cases c : (y.size : Int) ≤ (x.size : Int)
  · rw [if_pos c]
    refine rnp_str_from (k := x.size - y.size) Try.underlying9 ?_ (by omega) ⟨Ext.refl _, fun _ => by omega⟩
    rw [wrap_sub hx (by omega)]
  · rw [if_neg c]; exact ⟨Ext.refl _, fun h => by simp at h⟩
theorem cut_ok (x y : ByteArray) (hx : x.size ≤ maxLen) : Cal PP (fun x : ByteArray × Bool => Value.tuple #[.string x.1, .bool x.2]) 156 #[.string x, .string y] w fun r w' => Ext w w' ∧ r.1.size ≤ x.size := by
  refine c156 ?_
  unfold f156
  refine Cal.mono (K := fun r w' => Ext w w' ∧ r.1.size ≤ x.size) ?_ (fun r w' h => h)
  refine c165 ?_
  unfold f165
  refine (suffix_ok x y hx).mono ?_; rintro r w1 ⟨e1, h1⟩
  cases r with
  | false => exact iteT rfl ⟨e1, Nat.le_refl _⟩
  | true =>
    refine iteF (by simp) ?_
    have : y.size ≤ x.size := h1 rfl
    refine rnp_str_to (k := x.size - y.size) Try.underlying9 (wrap_sub hx this) (by omega) ⟨e1, ?_⟩
    simp only [ByteArray.size_extract]; omega
theorem begins_ok (x : ByteArray) (hx : x.size ≤ maxLen) : Cal PP (fun x : ByteArray × Bool => Value.tuple #[.string x.1, .bool x.2]) 140 #[.string x] w fun r w' => Ext w w' ∧ r.1.size ≤ x.size := by
  refine c140 ?_
  unfold f140
  exact (cut_ok x _ hx).mono fun r w' h => h
theorem path_ok (x : ByteArray) (hx : x.size ≤ maxLen) : Rets Value.bool 157 #[.string x] w := by
  refine c157 ?_
  unfold f157
  refine ⟨fun b w' => Ext w w', ?_, ?_⟩
  · by_cases c1 : (x.size : Int) < 1
    · exact iteT c1 (Ext.refl _)
    · refine iteF c1 ?_
      by_cases c2 : 256 < (x.size : Int)
      · exact iteT c2 (Ext.refl _)
      · refine iteF c2 ?_
        exact rnp_byte (k := 0) Try.underlying9 rfl (by omega) (Ext.refl _)
  rintro b w1 e1
  cases b with
  | true => exact iteT rfl e1
  | false =>
    refine iteF (by simp) ?_
    refine Lp.mk (fun (i : Int) w' => ∃ k : Nat, i = k ∧ k ≤ x.size ∧ Ext w w') (fun i => x.size - i.toNat) ⟨0, rfl, Nat.zero_le _, e1⟩ ?_
    rintro i w1 K ⟨k, rfl, hk, hE⟩ hK
    by_cases hlt : k < x.size
    · rw [if_pos (by omega)]
      have no : K (IntKind.i64.wrap ((k : Int) + 1)) w1 := by
        rw [wrap_succ (by omega)]; exact hK _ _ ⟨k + 1, rfl, hlt, hE⟩ (by omega)
      have fin : ∀ b : Bool, if b = true then Ext w w1 else K (IntKind.i64.wrap ((k : Int) + 1)) w1 := fun b => by
        cases b
        · exact iteF (by simp) no
        · exact iteT rfl hE
      refine Jn.dup ?_
      refine rnp_byte Try.underlying9 rfl hlt ?_
      by_cases c : ((x[k].toNat : Nat) : Int) < 33
      · rw [if_pos c]; exact fin true
      · rw [if_neg c]
        exact rnp_byte Try.underlying9 rfl hlt (fin _)
    · rw [if_neg (by omega)]; exact hE
theorem pattern_ok (x : ByteArray) (hx : x.size ≤ maxLen) : Rets Value.bool 141 #[.string x] w := by
  refine c141 ?_
  unfold f141
  refine (begins_ok x hx).mono ?_; rintro ⟨p, b⟩ w1 ⟨e1, h1⟩
  refine Jn.dup ?_
  have fin : Cal PP Value.bool 157 #[.string p] w1 fun _ w' => Ext w w' := (path_ok p (Nat.le_trans h1 hx)).mono fun _ _ h => e1.trans h
  cases b with
  | true =>
    refine iteT rfl ?_
    by_cases c : p = ⟨#[]⟩
    · exact iteT c e1
    · exact iteF c fin
  | false => exact iteF (by simp) fin
theorem covers_ok (x y : ByteArray) (hx : x.size ≤ maxLen) (hy : y.size ≤ maxLen) : Rets Value.bool 123 #[.string x, .string y] w := by
  refine c123 ?_
  unfold f123
  refine (begins_ok x hx).mono ?_; rintro ⟨p, b⟩ w1 ⟨e1, h1⟩
  refine (begins_ok y hy).mono ?_; rintro ⟨q, b'⟩ w2 ⟨e2, h2⟩
  refine Jn.dup ?_
  refine (pattern_ok x hx).mono ?_; rintro r w3 e3
  have e := (e1.trans e2).trans e3
  cases r with
  | false => exact iteF (by simp) e
  | true =>
    refine iteT rfl ?_
    refine (pattern_ok y hy).mono ?_; rintro r w4 e4
    replace e := e.trans e4
    cases r with
    | false => exact iteF (by simp) e
    | true =>
      refine iteT rfl ?_
      by_cases c : x = y
      · rw [if_pos c]; exact e
      · rw [if_neg c]
        cases b with
        | true => exact iteT rfl ((hasPrefix_ok q p).mono fun _ _ h => e.trans h)
        | false => exact iteF (by simp) e
theorem shadow1_ok {y r : TRule} {b : Nat} (hb : Blk w b 91 (TRule.cells r)) (hy : y.Path.size ≤ maxLen) (hr : r.Path.size ≤ maxLen) : Rets Value.bool 122 #[y.v, Ptr ⟨b, 0, none⟩] w := by
  refine c122 ?_
  unfold f122
  refine New.mk fun b2 w1 e1 h1 _ _ => ?_
  replace hb := hb.ext e1
  refine Jn.dup ?_
  refine rn_blk one9 h1 rfl rfl ?_
  have fin : Cal PP Value.bool 123 #[.string y.Path, .string r.Path] w1 fun _ w' => Ext w w' := (covers_ok _ _ hy hr).mono fun _ _ h => e1.trans h
  by_cases c : y.Method = ⟨#[42]⟩
  · refine iteT c ?_
    refine rn_blk one9 h1 rfl rfl ?_
    refine rn_blk one9 hb rfl rfl ?_
    exact fin
  · refine iteF c ?_
    refine rn_blk one9 h1 rfl rfl ?_
    refine rn_blk one9 hb rfl rfl ?_
    by_cases c2 : y.Method = r.Method
    · refine iteT c2 ?_
      refine rn_blk one9 h1 rfl rfl ?_
      refine rn_blk one9 hb rfl rfl ?_
      exact fin
    · exact iteF c2 e1
theorem index121_ok {s : Sl} {l : List TRule} (h : Rd TRule.cells 4 F w s l) {r : TRule} {b : Nat} (hb : Blk w b 91 (TRule.cells r)) (hl : ∀ y ∈ l, y.Path.size ≤ maxLen) (hr : r.Path.size ≤ maxLen) :
    Rets (Value.int .i64) 121 #[s.v, .func (.func 122) #[] #[Ptr ⟨b, 0, none⟩]] w := by
  refine c121 ?_
  unfold f121
  refine Lp.mk (fun (i : Int) w' => ∃ k : Nat, i = k ∧ k ≤ l.length ∧ Ext w w') (fun i => l.length - i.toNat) ⟨0, rfl, Nat.zero_le _, Ext.refl _⟩ ?_
  rintro i w1 K ⟨k, rfl, hk, hE⟩ hK
  by_cases hlt : k < l.length
  · rw [if_pos (by rw [h.len]; omega)]
    refine rnp_idx sl46 (h.ext hE) hlt rfl fun p _ hp => ?_
    refine rn_ldN (x := l[k]) many91 hp rfl rfl ?_
    refine ⟨122, #[], #[Ptr ⟨b, 0, none⟩], rfl, fun vs w => enters Try.func122 rfl rfl vs w, ?_⟩
    refine Cal.mono (shadow1_ok (y := l[k]) (hb.ext hE) (hl _ (List.getElem_mem hlt)) hr) ?_
    rintro x w2 e2
    cases x with
    | true => exact iteT rfl (hE.trans e2)
    | false =>
      refine iteF (by simp) ?_
      rw [h.wr hlt]; exact hK _ _ ⟨k + 1, rfl, hlt, hE.trans e2⟩ (by omega)
  · rw [if_neg (by rw [h.len]; omega)]; exact hE
/-- how many rules there are in all -/
def tot (l : List DRes) : Nat := (l.map fun d => d.rules.length).sum
theorem tot_take {l : List DRes} {k : Nat} (h : k < l.length) : tot (l.take (k + 1)) = tot (l.take k) + l[k].rules.length := by
  unfold tot; rw [List.take_add_one, List.getElem?_eq_getElem h, List.map_append, List.sum_append]; simp
theorem tot_le (l : List DRes) : ∀ k, tot (l.take k) ≤ tot l := fun k => by
  have : tot l = tot (l.take k) + tot (l.drop k) := by
    unfold tot; rw [← List.sum_append, ← List.map_append, List.take_append_drop]
  omega
theorem oc_warn (x : TWarning) : ∀ u ∈ TWarning.cells x, u.oneCell' = true := by simp [TWarning.cells, Value.oneCell']
theorem shadows_ok {s : Sl} {rs : List TResource} {l : List DRes} (h : ConfD F w s rs l) (hp : ∀ d ∈ l, ∀ r ∈ d.rules, r.Path.size ≤ maxLen) (ht : (tot l + 1) * 24 ≤ 140737488355328) : Rets Sl.v 97 #[s.v] w := by
  refine c97 ?_
  unfold f97
  refine Lp.mk (fun (y : Sl × Int) w' => ∃ (k : Nat) (ws : List TWarning), y.2 = k ∧ k ≤ l.length ∧ Ext w w' ∧ Own TWarning.cells 3 177 w.heap.size w' y.1 ws ∧ ws.length ≤ tot (l.take k)) (fun y => l.length - y.2.toNat)
    ⟨0, [], rfl, Nat.zero_le _, Ext.refl _, Own.nil_ _ _, Nat.zero_le _⟩ ?_
  rintro ⟨y, _⟩ w1 K ⟨k, ws, rfl, hk, hE, hO, hn⟩ hK
  dsimp only at hO ⊢
  by_cases hlt : k < l.length
  · rw [if_pos (by rw [h.n]; omega)]
    have htot := tot_take hlt
    have htl := tot_le l (k + 1)
    refine ⟨fun y w' => ∃ ws, Ext w w' ∧ Own TWarning.cells 3 177 w.heap.size w' y ws ∧ ws.length ≤ tot (l.take (k + 1)), ?_, ?_⟩
    · have hlr : k < rs.length := by rw [h.len]; exact hlt
      have hr0 := h.el k hlr hlt
      refine rnp_idx sl22 (h.ext hE).rd hlr rfl fun p _ hp' => ?_
      generalize rs[k] = r at hr0 hp'
      refine rn_ldN (x := r) many48 hp' rfl rfl ?_
      have hlow : ∀ b, own? y b → b < w1.heap.size := fun b hb => (hO.ge hb).2
      refine New.var (TResource.cells r) sz48 rfl (oc_res r) rfl fun b4 w2 e2 h4 hb4 => ?_
      replace hE := hE.trans e2; replace hO := hO.ext e2
      refine ⟨fun b w' => w' = w2, ?_, ?_⟩
      · refine rn_blk one3 h4 rfl rfl ?_
        by_cases c : r.Kind ≠ 3
        · exact iteT c (rn_blk one3 h4 rfl rfl rfl)
        · exact iteF c rfl
      rintro b _ rfl
      cases b with
      | true => exact iteT rfl ⟨ws, hE, hO, by omega⟩
      | false =>
        refine iteF (by simp) ?_
        refine rn_blk one46 h4 rfl rfl ?_
        have hru := hr0.rules
        have hpr := hp _ (List.getElem_mem hlt)
        refine Lp.mk (fun (z : Sl × Int) w' => ∃ (j : Nat) (ws : List TWarning), z.2 = j ∧ j ≤ l[k].rules.length ∧ Ext w w' ∧ Blk w' b4 48 (TResource.cells r) ∧ Own TWarning.cells 3 177 w.heap.size w' z.1 ws ∧
            (∀ b, own? z.1 b → b ≠ b4) ∧ ws.length ≤ tot (l.take k) + j) (fun z => l[k].rules.length - z.2.toNat)
          ⟨0, ws, rfl, Nat.zero_le _, hE, h4, hO, fun b hb => by have := hlow b hb; omega, by omega⟩ ?_
        rintro ⟨z, _⟩ w3 K2 ⟨j, ws, rfl, hj, hE, h4, hO, hne, hn⟩ hK2
        dsimp only at hO hne ⊢
        have hru3 := hru.ext hE
        by_cases hjl : j < l[k].rules.length
        · rw [if_pos (by rw [hru.len]; omega)]
          refine ⟨fun z w' => ∃ ws, Ext w w' ∧ Blk w' b4 48 (TResource.cells r) ∧ Own TWarning.cells 3 177 w.heap.size w' z ws ∧ (∀ b, own? z b → b ≠ b4) ∧ ws.length ≤ tot (l.take k) + (j + 1), ?_, ?_⟩
          · refine rnp_idx sl46 hru3 hjl rfl fun p _ hp' => ?_
            refine rn_ldN (x := l[k].rules[j]) many91 hp' rfl rfl ?_
            refine New.var (TRule.cells l[k].rules[j]) sz91 rfl (oc_rule _) rfl fun b6 w4 e4 h6 _ => ?_
            replace hE := hE.trans e4; replace h4 := h4.ext e4; replace hO := hO.ext e4
            refine rn_blk one46 h4 rfl rfl ?_
            refine rnp_slice sl46 none (some j) rfl rfl (Nat.zero_le _) (by have := hru.cap; have := hru.len; simp; omega) ?_
            simp only [Option.getD_none, Option.getD_some, Sl.cut_zero]
            refine Cal.mono (index121_ok ((hru.ext hE).take (by omega)) h6 (fun y hy => hpr y (List.mem_of_mem_take hy)) (hpr _ (List.getElem_mem hjl))) ?_
            rintro x w5 e5
            replace hE := hE.trans e5; replace h4 := h4.ext e5; replace hO := hO.ext e5
            by_cases cx : 0 ≤ x
            · refine iteT cx ?_
              have hl4 := h4.lt
              refine New.mk fun b44 w6 e6 h44 hb44 s6 => ?_
              replace hE := hE.trans e6; replace h4 := h4.ext e6; replace hO := hO.ext e6
              have hsz := hE.size
              refine rn_app1 (x := (⟨k, j, x⟩ : TWarning)) el78 hO h44 rfl rfl (oc_warn _) (by omega) (by decide) hsz fun z' w7 hO' c7 n7 => ?_
              have hl4 := h4.lt
              exact ⟨_, hE.then c7 (fun b hb => (hO.ge hb).1), h4.chg c7 (fun hb => hne _ hb rfl), hO', fun b hb => by
                rcases n7 b hb with h | h
                · exact hne b h
                · omega, by simp; omega⟩
            · exact iteF cx ⟨ws, hE, h4, hO, hne, by omega⟩
          · rintro z w4 ⟨ws, hE, h4, hO, hne, hn⟩
            rw [hru.wr hjl]
            exact hK2 _ _ ⟨j + 1, ws, rfl, hjl, hE, h4, hO, hne, hn⟩ (by dsimp only; omega)
        · rw [if_neg (by rw [hru.len]; omega)]
          exact ⟨ws, hE, hO, by omega⟩
    · rintro y w2 ⟨ws, hE, hO, hn⟩
      rw [h.wr hlt]
      exact hK _ _ ⟨k + 1, ws, rfl, hlt, hE, hO, hn⟩ (by dsimp only; omega)
  · rw [if_neg (by rw [h.n]; omega)]; exact hE
end
end Go.Proofs.Ytdoeegfcmbcbkaa.Ct

/- The plain law of what may stand: keys in order are apart; what a check says. -/
namespace Go.Proofs.Ytdoeegfcmbcbkaa.Ct
open Go Go.Eng Tr
set_option linter.unusedVariables false

theorem kLt_irrefl (k : Int) (n : ByteArray) : kLt k n k n = false := by simp [kLt, sLt_irrefl]
theorem kLt_trans {a b c : Int} {x y z : ByteArray} (h : kLt a x b y = true) (k : kLt b y c z = true) : kLt a x c z = true := by
  simp only [kLt, Bool.or_eq_true, decide_eq_true_eq, Bool.and_eq_true] at h k ⊢
  rcases h with h | ⟨rfl, h⟩
  · rcases k with k | ⟨rfl, k⟩
    · exact .inl (by omega)
    · exact .inl h
  · rcases k with k | ⟨rfl, k⟩
    · exact .inl k
    · exact .inr ⟨rfl, sLt_trans h k⟩
section
variable {l : List DRes}
theorem out_next (h : ∀ i, i < l.length → outAt l i = false) {j : Nat} (hj : j + 1 < l.length) : kLt l[j].kind l[j].name l[j + 1].kind l[j + 1].name = true := by
  have := h (j + 1) hj
  rw [outAt_eq hj] at this
  simp only [Bool.or_eq_false_iff, Nat.add_sub_cancel, List.getElem?_eq_getElem (show j < l.length by omega)] at this
  obtain ⟨_, _, _, h4⟩ := this
  simpa using h4
theorem out_lt (h : ∀ i, i < l.length → outAt l i = false) {i : Nat} : ∀ {j : Nat} (hj : j < l.length) (hij : i < j), kLt (l[i]'(by omega)).kind (l[i]'(by omega)).name l[j].kind l[j].name = true
  | j + 1, hj, hij => by
    by_cases e : i = j
    · subst e; exact out_next h hj
    · exact kLt_trans (out_lt h (j := j) (by omega) (by omega)) (out_next h hj)
theorem out_uniq (h : ∀ i, i < l.length → outAt l i = false) {i j : Nat} (hi : i < l.length) (hj : j < l.length) (hk : l[i].kind = l[j].kind) (hn : l[i].name = l[j].name) : i = j := by
  rcases Nat.lt_trichotomy i j with c | c | c
  · have := out_lt h hj c; rw [hk, hn, kLt_irrefl] at this; cases this
  · exact c
  · have := out_lt h hi c; rw [hk, hn, kLt_irrefl] at this; cases this
theorem fst?_neg {p : Nat → Bool} {n : Nat} (h : fst? p n < 0) : ∀ i, i < n → p i = false := fun i hi => by
  rcases fst?_le (p := p) (n := n) with h' | ⟨k, h1, _⟩
  · unfold fst? at h'
    cases hf : (List.range n).find? p with
    | none =>
      have := List.find?_eq_none.1 hf i (by simpa using hi)
      simpa using this
    | some k => rw [hf] at h'; simp only at h'; omega
  · omega
theorem splitOf_self (h : ∀ i, i < l.length → outAt l i = false) : ∀ d ∈ l, d.kind = 2 → splitOf l d.name = some d := fun d hd hk => by
  obtain ⟨i, hi, rfl⟩ := List.mem_iff_getElem.1 hd
  cases hf : splitOf l l[i].name with
  | none =>
    have := List.find?_eq_none.1 hf l[i] (List.getElem_mem hi)
    simp [hk] at this
  | some d' =>
    have h1 := List.find?_some hf
    have h2 := List.mem_of_find?_eq_some hf
    obtain ⟨j, hj, rfl⟩ := List.mem_iff_getElem.1 h2
    simp only [Bool.and_eq_true, decide_eq_true_eq] at h1
    have := out_uniq h hj hi (by rw [h1.1, hk]) h1.2
    subst this; rfl
theorem has_any (kind : Int) (n : ByteArray) : has l kind n = l.any fun d => decide (d.kind = kind) && decide (d.name = n) := by
  cases ha : l.any fun d => decide (d.kind = kind) && decide (d.name = n) with
  | true =>
    obtain ⟨d, hd, h⟩ := List.any_eq_true.1 ha
    obtain ⟨i, hi, rfl⟩ := List.mem_iff_getElem.1 hd
    unfold has
    rw [decide_eq_true_eq]
    by_cases c : 0 ≤ fst? (isAt l kind n) l.length
    · exact c
    · have := fst?_neg (by omega : fst? (isAt l kind n) l.length < 0) i hi
      rw [isAt_eq hi, h] at this; cases this
  | false =>
    unfold has
    rw [decide_eq_false_iff_not]
    rcases fst?_le (p := isAt l kind n) (n := l.length) with h' | ⟨k, h1, h2, h3⟩
    · omega
    · rw [isAt_eq h2] at h3
      have := List.any_eq_false.1 ha l[k] (List.getElem_mem h2)
      exact absurd h3 this
theorem has_split {n : ByteArray} (h : has l 2 n = true) : (splitOf l n).isSome = true := by
  obtain ⟨k, _, hk, h1, h2⟩ := has_at h
  unfold splitOf
  rw [List.find?_isSome]
  exact ⟨l[k], List.getElem_mem hk, by simp [h1, h2]⟩
/-! ### What a check says -/
def dangAt (l : List DRes) (i : Nat) : Bool := match l[i]? with
  | none => false
  | some d => decide (0 ≤ dang (has l) d)
def lineAt (l : List DRes) (i : Int) : Int := match l[i.toNat]? with
  | none => 0
  | some d => dang (has l) d
def twinAt (l : List DRes) (i : Nat) : Bool := match l[i]? with
  | none => false
  | some d => decide (d.kind = 3) && (l.take i).any fun c => decide (c.kind = 3) && decide (c.host = d.host)
def heavyAt (l : List DRes) (i : Nat) : Bool := match l[i]? with
  | none => false
  | some d => decide (d.kind = 2) && heavyS d.targets
def deepAt (l : List DRes) (i : Nat) : Bool := match l[i]? with
  | none => false
  | some d => decide (d.kind = 2) && decide (8 < hd l 8 d.name)
/-- the document, the line and the error that a check says -/
def faultS (l : List DRes) : Int × Int × Int :=
  let n := l.length
  if 0 ≤ fst? (outAt l) n then (fst? (outAt l) n, 0, 2)
  else if 64 < n then (0, 0, 124)
  else if 0 ≤ fst? (dangAt l) n then (fst? (dangAt l) n, lineAt l (fst? (dangAt l) n), 140)
  else if 0 ≤ fst? (twinAt l) n then (fst? (twinAt l) n, 0, 141)
  else if 0 ≤ fst? (heavyAt l) n then (fst? (heavyAt l) n, 0, 142)
  else if 0 ≤ fst? (deepAt l) n then (fst? (deepAt l) n, 0, 143)
  else (0, 0, 0)
theorem dangAt_eq {i : Nat} (h : i < l.length) : dangAt l i = decide (0 ≤ dang (has l) l[i]) := by simp only [dangAt, List.getElem?_eq_getElem h]
theorem lineAt_eq {i : Nat} (h : i < l.length) : lineAt l i = dang (has l) l[i] := by simp only [lineAt, Int.toNat_natCast, List.getElem?_eq_getElem h]
theorem twinAt_eq {i : Nat} (h : i < l.length) : twinAt l i = (decide (l[i].kind = 3) && (l.take i).any fun c => decide (c.kind = 3) && decide (c.host = l[i].host)) := by simp only [twinAt, List.getElem?_eq_getElem h]
theorem heavyAt_eq {i : Nat} (h : i < l.length) : heavyAt l i = (decide (l[i].kind = 2) && heavyS l[i].targets) := by simp only [heavyAt, List.getElem?_eq_getElem h]
theorem deepAt_eq {i : Nat} (h : i < l.length) : deepAt l i = (decide (l[i].kind = 2) && decide (8 < hd l 8 l[i].name)) := by simp only [deepAt, List.getElem?_eq_getElem h]
/-- where nothing leads nowhere, every split that is named stands -/
theorem no_dang (h : ∀ i, i < l.length → dangAt l i = false) : ∀ n d t, splitOf l n = some d → t ∈ kidsOf d → has l 2 t = true := fun n d t hs ht => by
  have h1 := List.find?_some hs
  have h2 := List.mem_of_find?_eq_some hs
  simp only [Bool.and_eq_true, decide_eq_true_eq] at h1
  obtain ⟨i, hi, rfl⟩ := List.mem_iff_getElem.1 h2
  have h3 := h i hi
  rw [dangAt_eq hi, decide_eq_false_iff_not] at h3
  unfold dang at h3
  rw [if_pos h1.1] at h3
  have h4 : fst? (badT (has l) l[i].targets) l[i].targets.length < 0 := by
    by_cases c : fst? (badT (has l) l[i].targets) l[i].targets.length < 0
    · exact c
    · unfold line? at h3; rw [if_neg c] at h3; omega
  have h5 := fst?_neg h4
  unfold kidsOf at ht
  obtain ⟨tt, htt, rfl⟩ := List.mem_map.1 ht
  obtain ⟨h6, h7⟩ := List.mem_filter.1 htt
  obtain ⟨k, hk, rfl⟩ := List.mem_iff_getElem.1 h6
  have h8 := h5 k hk
  rw [badT_eq hk, if_pos (by simpa using h7)] at h8
  simpa using h8
end
end Go.Proofs.Ytdoeegfcmbcbkaa.Ct

/- Contracts: the check of the program's package for layer 14. -/
namespace Go.Proofs.Ytdoeegfcmbcbkaa.Ct
open Go Go.Eng Tr
set_option linter.unusedVariables false
set_option maxRecDepth 100000

theorem Rd.low {α : Type} {cells : α → List Value} {sz : Nat} {F : Nat → Prop} {w : World} {s : Sl} {l : List α} (h : Rd cells sz F w s l) (h0 : ∀ x, 0 < (cells x).length) : Rd cells sz (fun b => F b ∧ b < w.heap.size) w s l :=
  ⟨h.len, h.cap, h.lim, fun k hk => let ⟨a, h1, h2, h3⟩ := h.el k hk; ⟨a, h1, ⟨h2, by
    have h4 := h3 0 (h0 _)
    have := World.block_lt_of_cell? w _ h4
    rwa [add_block, add_block] at this⟩, h3⟩⟩
theorem ConfD.low {F : Nat → Prop} {w : World} {s : Sl} {rs : List TResource} {l : List DRes} (h : ConfD F w s rs l) : ConfD (fun b => F b ∧ b < w.heap.size) w s rs l :=
  ⟨Rd.low h.rd (fun _ => by simp [TResource.cells]), h.len, fun i a b => let r := h.el i a b; ⟨r.kind, r.name, Rd.low r.ends (fun _ => by simp [bs]), Rd.low r.targets (fun _ => by simp [TTarget.cells]), r.host, Rd.low r.rules (fun _ => by simp [TRule.cells]), r.route, r.del⟩⟩
theorem oc_fault (x : TFault) : ∀ u ∈ TFault.cells x, u.oneCell' = true := by simp [TFault.cells, Value.oneCell']
theorem fault_out {w w' : World} {b : Nat} {g f : TFault} {K : TFault → World → Prop} (h3 : Blk w' b 80 (TFault.cells g)) (hE : Ext w w') (hb : w.heap.size ≤ b) (hk : ∀ w'', Ext w w'' → K f w'') :
    RnU PP (Instr.storeAt 80 (Ptr ⟨b, 0, none⟩) (TFault.v f)) w' fun w => RnR PP TFault.v (loadVar 80 ⟨b, 0, none⟩) w fun r => K r w :=
  rnu_st (b := b) (o := 0) rfl h3 (TFault.cells f) sz80 rfl (oc_fault f) (by simp [TFault.cells]) fun w2 c2 _ hb2 =>
    rnr_ldN (x := f) many80 (show Blk w2 b 80 (TFault.cells f) from hb2).whole rfl rfl (hk w2 (hE.then c2 fun x hx => by omega))
def faultM (l : List DRes) : TFault := ⟨(faultS l).1, (faultS l).2.1, (faultS l).2.2⟩
section
variable {l : List DRes} {k : Nat}
theorem fs_out (h : 0 ≤ fst? (outAt l) l.length) : faultM l = ⟨fst? (outAt l) l.length, 0, 2⟩ := by simp [faultM, faultS, h]
theorem fs_big (h : ¬ 0 ≤ fst? (outAt l) l.length) (h2 : 64 < l.length) : faultM l = ⟨0, 0, 124⟩ := by simp [faultM, faultS, h, h2]
theorem fs_dang (h : ¬ 0 ≤ fst? (outAt l) l.length) (h2 : ¬ 64 < l.length) (hk : k < l.length) (hp : dangAt l k = true) (ha : ∀ j, j < k → dangAt l j = false) : faultM l = ⟨k, dang (has l) l[k], 140⟩ := by
  have h3 := fst?_some hk hp ha
  simp [faultM, faultS, h, h2, h3, lineAt_eq hk]
theorem fs_twin (h : ¬ 0 ≤ fst? (outAt l) l.length) (h2 : ¬ 64 < l.length) (h3 : ∀ j, j < l.length → dangAt l j = false) (hk : k < l.length) (hp : twinAt l k = true) (ha : ∀ j, j < k → twinAt l j = false) : faultM l = ⟨k, 0, 141⟩ := by
  have e3 := fst?_none h3
  have h4 := fst?_some hk hp ha
  simp [faultM, faultS, h, h2, e3, h4]
theorem fs_heavy (h : ¬ 0 ≤ fst? (outAt l) l.length) (h2 : ¬ 64 < l.length) (h3 : ∀ j, j < l.length → dangAt l j = false) (h4 : ∀ j, j < l.length → twinAt l j = false) (hk : k < l.length) (hp : heavyAt l k = true) (ha : ∀ j, j < k → heavyAt l j = false) : faultM l = ⟨k, 0, 142⟩ := by
  have e3 := fst?_none h3
  have e4 := fst?_none h4
  have h5 := fst?_some hk hp ha
  simp [faultM, faultS, h, h2, e3, e4, h5]
theorem fs_deep (h : ¬ 0 ≤ fst? (outAt l) l.length) (h2 : ¬ 64 < l.length) (h3 : ∀ j, j < l.length → dangAt l j = false) (h4 : ∀ j, j < l.length → twinAt l j = false) (h5 : ∀ j, j < l.length → heavyAt l j = false) (hk : k < l.length) (hp : deepAt l k = true) (ha : ∀ j, j < k → deepAt l j = false) : faultM l = ⟨k, 0, 143⟩ := by
  have e3 := fst?_none h3
  have e4 := fst?_none h4
  have e5 := fst?_none h5
  have h6 := fst?_some hk hp ha
  simp [faultM, faultS, h, h2, e3, e4, e5, h6]
theorem fs_none (h : ¬ 0 ≤ fst? (outAt l) l.length) (h2 : ¬ 64 < l.length) (h3 : ∀ j, j < l.length → dangAt l j = false) (h4 : ∀ j, j < l.length → twinAt l j = false) (h5 : ∀ j, j < l.length → heavyAt l j = false) (h6 : ∀ j, j < l.length → deepAt l j = false) : faultM l = ⟨0, 0, 0⟩ := by
  have e3 := fst?_none h3
  have e4 := fst?_none h4
  have e5 := fst?_none h5
  have e6 := fst?_none h6
  simp [faultM, faultS, h, h2, e3, e4, e5, e6]
end
end Go.Proofs.Ytdoeegfcmbcbkaa.Ct

/- Contracts: the check of the program's package for layer 14, whole. -/
namespace Go.Proofs.Ytdoeegfcmbcbkaa.Ct
open Go Go.Eng Tr
set_option linter.unusedVariables false
set_option maxRecDepth 100000

/-- what is asked of a list of resources: texts and lists of sizes that memory has -/
structure Fit (l : List DRes) : Prop where
  paths : ∀ d ∈ l, ∀ r ∈ d.rules, r.Path.size ≤ maxLen
  tot : (tot l + 1) * 24 ≤ 140737488355328
section
variable {w : World} {F : Nat → Prop} {s : Sl} {rs : List TResource} {l : List DRes}
/-- the maps that a check fills first -/
structure Filled (l : List DRes) (rs : List TResource) (b3 b29 b30 b31 b33 : Nat) (k : Nat) (w : World) : Prop where
  b3 : Blk w b3 80 (TFault.cells ⟨0, 0, 0⟩)
  b33 : Blk w b33 148 [.map (some b30), .map (some b31)]
  known : Mp Value.string (Value.int .i64) w b31 []
  there : ∃ m, Mp TKey.v Value.bool w b29 m ∧ ∀ kd n, (mget m ⟨kd, n⟩).getD false = (l.take k).any fun d => decide (d.kind = kd) && decide (d.name = n)
  splits : ∃ ms, Mp Value.string TResource.v w b30 ms ∧ ∀ j (h : j < l.length) (h' : j < rs.length), j < k → l[j].kind = 2 → mget ms l[j].name = some rs[j]
theorem check_ok (h : ConfD F w s rs l) (hf : Fit l) :
    Cal PP (fun x : Sl × TFault => Value.tuple #[Sl.v x.1, TFault.v x.2]) 46 #[s.v] w fun x w' => Ext w w' ∧ x.2 = faultM l := by
  have hlow := h.low
  refine c46 ?_
  unfold f46
  refine New.mk fun b3 w1 e1 h3 n3 s3 => ?_
  refine (outs_ok (h.ext e1)).mono ?_; rintro _ w2 ⟨e2, rfl⟩
  replace h3 := h3.ext e2
  replace e1 := e1.trans e2
  have hsz := e1.size
  have g2 := e2.size
  by_cases c1 : 0 ≤ fst? (outAt l) l.length
  · exact iteT c1 (fault_out h3 e1 (by omega) fun w'' e => ⟨e, (fs_out c1).symm⟩)
  refine iteF c1 ?_
  by_cases c2 : 64 < l.length
  · exact iteT (by rw [h.n]; omega) (fault_out h3 e1 (by omega) fun w'' e => ⟨e, (fs_big c1 c2).symm⟩)
  refine iteF (by rw [h.n]; omega) ?_
  have hord := fst?_neg (by omega : fst? (outAt l) l.length < 0)
  refine NewM.mk fun b29 w3 e3 h29 n29 s29 => ?_
  refine NewM.mk fun b30 w4 e4 h30 n30 s30 => ?_
  refine NewM.mk fun b31 w5 e5 h31 n31 s31 => ?_
  refine New.mk fun b33 w6 e6 h33 n33 s33 => ?_
  have m29 : Mp TKey.v Value.bool w6 b29 [] := ((Mp.new h29).ext ((e4.trans e5).trans e6))
  have m30 : Mp Value.string TResource.v w6 b30 [] := ((Mp.new h30).ext (e5.trans e6))
  have m31 : Mp Value.string (Value.int .i64) w6 b31 [] := ((Mp.new h31).ext e6)
  have E6 := ((e3.trans e4).trans e5).trans e6
  have h3' := h3.ext E6
  have hl3 := h3.lt
  have E := e1.trans E6
  refine Lp.mk (fun (i : Int) w' => ∃ k : Nat, i = k ∧ k ≤ l.length ∧ Ext w w' ∧ w6.heap.size ≤ w'.heap.size ∧ Filled l rs b3 b29 b30 b31 b33 k w') (fun i => l.length - i.toNat)
    ⟨0, rfl, Nat.zero_le _, E, Nat.le_refl _, h3', h33, m31, ⟨[], m29, fun _ _ => rfl⟩, ⟨[], m30, fun j _ _ hj => absurd hj (Nat.not_lt_zero _)⟩⟩ ?_
  rintro i w7 K ⟨k, rfl, hk, hE, hge, hF⟩ hK
  by_cases hlt : k < l.length
  · rw [if_pos (by rw [h.n]; omega)]
    refine ⟨fun _ w' => Ext w w' ∧ w6.heap.size ≤ w'.heap.size ∧ Filled l rs b3 b29 b30 b31 b33 (k + 1) w', ?_, ?_⟩
    · have hlr : k < rs.length := by rw [h.len]; exact hlt
      have hr := h.el k hlr hlt
      refine rnp_idx sl22 (h.ext hE).rd hlr rfl fun p _ hp => ?_
      refine rn_ldN (x := rs[k]) many48 hp rfl rfl ?_
      refine New.var (TResource.cells rs[k]) sz48 rfl (oc_res _) rfl fun b8 w8 e8 h8 nb8 => ?_
      refine rn_blkN (x := rs[k]) many48 h8 rfl rfl ?_
      refine (of_ok _).mono ?_; rintro _ w9 ⟨e9, rfl⟩
      have e89 := e8.trans e9
      replace h8 := h8.ext e9
      replace hE := hE.trans e89
      obtain ⟨m, hm, hmm⟩ := hF.there
      obtain ⟨ms, hms, hmss⟩ := hF.splits
      have f3 := hF.b3.ext e89; have f33 := hF.b33.ext e89; have fk := hF.known.ext e89
      replace hm := hm.ext e89; replace hms := hms.ext e89
      have gsz := e8.size
      refine rnu_put (k := (⟨rs[k].Kind, rs[k].Name⟩ : TKey)) (v := true) mapT115 hm fun w10 c10 hm10 s10 => ?_
      have E10 := hE.then c10 (fun b hb => by omega)
      replace f3 := f3.chg c10 (by omega); replace f33 := f33.chg c10 (by omega); replace fk := fk.chg c10 (by omega)
      replace hms := hms.chg c10 (by omega); replace h8 := h8.chg c10 (by omega)
      have gsz9 := e9.size
      have there : ∀ kd n, (mget (mput m ⟨rs[k].Kind, rs[k].Name⟩ true) ⟨kd, n⟩).getD false = (l.take (k + 1)).any fun d => decide (d.kind = kd) && decide (d.name = n) := fun kd n => by
        rw [any_succ hlt, mget_put, ← hmm kd n, hr.kind, hr.name]
        by_cases c : (⟨l[k].kind, l[k].name⟩ : TKey) = ⟨kd, n⟩
        · rw [if_pos c]; cases c; simp
        · rw [if_neg c]
          have : (decide (l[k].kind = kd) && decide (l[k].name = n)) = false := by
            by_cases c3 : l[k].kind = kd
            · by_cases c4 : l[k].name = n
              · exact absurd (by rw [c3, c4]) c
              · simp [c4]
            · simp [c3]
          rw [this, Bool.or_false]
      refine rn_blk one3 h8 rfl rfl ?_
      rw [hr.kind]
      by_cases c : l[k].kind = 2
      · refine iteT c ?_
        refine Dr.mk fun w11 e11 hh11 => ?_
        have E11 := E10.trans e11
        replace f3 := f3.ext e11; replace f33 := f33.ext e11; replace fk := fk.ext e11; replace hms := hms.ext e11; replace h8 := h8.ext e11; replace hm10 := hm10.ext e11
        refine rnl_blk one145 f33 rfl rfl ?_
        refine rnl_blk one9 h8 rfl rfl ?_
        refine rnl_ldN (x := rs[k]) many48 h8.whole rfl rfl ?_
        refine rnu_put (k := rs[k].Name) (v := rs[k]) mapT145 hms fun w12 c12 hms12 s12 => ?_
        have g11 := e11.size
        refine ⟨E11.then c12 (fun b hb => by omega), by omega, f3.chg c12 (by omega), f33.chg c12 (by omega), fk.chg c12 (by omega), ⟨_, hm10.chg c12 (by omega), there⟩, ⟨_, hms12, fun j hj hj' hjk hk2 => ?_⟩⟩
        rw [mget_put, hr.name]
        by_cases ce : l[k].name = l[j].name
        · rw [if_pos ce]
          have : k = j := out_uniq hord hlt hj (by rw [c, hk2]) ce
          subst this; rfl
        · rw [if_neg ce]
          exact hmss j hj hj' (by
            by_cases e : j = k
            · subst e; exact absurd rfl ce
            · omega) hk2
      · refine iteF c ⟨E10, by omega, f3, f33, fk, ⟨_, hm10, there⟩, ⟨_, hms, fun j hj hj' hjk hk2 => hmss j hj hj' (by
            by_cases e : j = k
            · subst e; exact absurd hk2 c
            · omega) hk2⟩⟩
    · rintro _ w8 ⟨hE, hge, hF⟩
      rw [h.wr hlt]
      exact hK _ _ ⟨k + 1, rfl, hlt, hE, hge, hF⟩ (by omega)
  rw [if_neg (by rw [h.n]; omega)]
  obtain rfl : k = l.length := by omega
  clear hK
  obtain ⟨m, hm, hmm⟩ := hF.there
  obtain ⟨ms, hms, hmss⟩ := hF.splits
  have hh : ∀ kd n, (mget m ⟨kd, n⟩).getD false = has l kd n := fun kd n => by rw [hmm, has_any, List.take_length]
  have f3 := hF.b3; have f33 := hF.b33; have fk := hF.known
  refine NewM.mk fun b54 w8 e8 h54 n54 s54 => ?_
  replace f3 := f3.ext e8; replace f33 := f33.ext e8; replace fk := fk.ext e8; replace hm := hm.ext e8; replace hms := hms.ext e8
  have m54 : Mp Value.string Value.bool w8 b54 [] := Mp.new h54
  replace hE := hE.trans e8
  clear hF
  -- what leads nowhere
  refine Lp.mk (fun (i : Int) w' => ∃ k : Nat, i = k ∧ k ≤ l.length ∧ Ext w8 w' ∧ ∀ j, j < k → dangAt l j = false) (fun i => l.length - i.toNat) ⟨0, rfl, Nat.zero_le _, Ext.refl _, fun j hj => absurd hj (Nat.not_lt_zero _)⟩ ?_
  rintro i w9 K ⟨k, rfl, hk, E9, hall⟩ hK
  by_cases hlt : k < l.length
  · rw [if_pos (by rw [h.n]; omega)]
    have hlr : k < rs.length := by rw [h.len]; exact hlt
    have hr := h.el k hlr hlt
    have hE9 := hE.trans E9
    refine rnp_idx sl22 (h.ext hE9).rd hlr rfl fun p _ hp => ?_
    refine rn_ldN (x := rs[k]) many48 hp rfl rfl ?_
    refine New.var (TResource.cells rs[k]) sz48 rfl (oc_res _) rfl fun b11 w10 e10 h11 nb11 => ?_
    refine rn_blkN (x := rs[k]) many48 h11 rfl rfl ?_
    have E10 := E9.trans e10
    refine (dangling_ok (hr.ext (hE.trans E10)) (hm.ext E10) hh).mono ?_; rintro _ w11 ⟨e11, rfl⟩
    have E11 := E10.trans e11
    have hd := dangAt_eq hlt
    by_cases c : 0 ≤ dang (has l) l[k]
    · exact iteT c (fault_out (f3.ext E11) (hE.trans E11) (by omega) fun w'' e => ⟨e, (fs_dang c1 c2 hlt (by rw [hd]; simpa using c) hall).symm⟩)
    · refine iteF c ?_
      rw [h.wr hlt]
      exact hK _ _ ⟨k + 1, rfl, hlt, E11, all_succ hall (by rw [hd]; simpa using c)⟩ (by omega)
  rw [if_neg (by rw [h.n]; omega)]
  obtain rfl : k = l.length := by omega
  clear hK
  have hdang := hall
  clear hall
  replace f3 := f3.ext E9; replace f33 := f33.ext E9; replace fk := fk.ext E9; replace hms := hms.ext E9; replace m54 := m54.ext E9; replace hE := hE.trans E9
  clear hm
  -- hosts
  refine Lp.mk (fun (i : Int) w' => ∃ k : Nat, i = k ∧ k ≤ l.length ∧ Ext w w' ∧ w9.heap.size ≤ w'.heap.size ∧ Blk w' b3 80 (TFault.cells ⟨0, 0, 0⟩) ∧ Blk w' b33 148 [.map (some b30), .map (some b31)] ∧ Mp Value.string (Value.int .i64) w' b31 [] ∧ Mp Value.string TResource.v w' b30 ms ∧
      (∃ m, Mp Value.string Value.bool w' b54 m ∧ ∀ n, (mget m n).getD false = (l.take k).any fun d => decide (d.kind = 3) && decide (d.host = n)) ∧ ∀ j, j < k → twinAt l j = false) (fun i => l.length - i.toNat)
    ⟨0, rfl, Nat.zero_le _, hE, Nat.le_refl _, f3, f33, fk, hms, ⟨[], m54, fun _ => rfl⟩, fun j hj => absurd hj (Nat.not_lt_zero _)⟩ ?_
  have g9 := E9.size
  clear f3 f33 fk hms m54 hE
  rintro i w10 K ⟨k, rfl, hk, hE, hg, f3, f33, fk, hms, ⟨m, hm, hmm⟩, hall⟩ hK
  by_cases hlt : k < l.length
  · rw [if_pos (by rw [h.n]; omega)]
    have hlr : k < rs.length := by rw [h.len]; exact hlt
    have hr := h.el k hlr hlt
    have ht := twinAt_eq hlt
    refine Jn.dup ?_
    refine rnp_idx sl22 (h.ext hE).rd hlr rfl fun p _ hp => ?_
    refine rn_ldN (x := rs[k]) many48 hp rfl rfl ?_
    refine New.var (TResource.cells rs[k]) sz48 rfl (oc_res _) rfl fun b14 w11 e11 h14 nb14 => ?_
    replace hE := hE.trans e11; replace f3 := f3.ext e11; replace f33 := f33.ext e11; replace fk := fk.ext e11; replace hms := hms.ext e11; replace hm := hm.ext e11
    have g11 := e11.size
    refine ⟨fun x w' => w' = w11 ∧ x = twinAt l k, ?_, ?_⟩
    · refine rn_blk one3 h14 rfl rfl ?_
      rw [hr.kind]
      by_cases c : l[k].kind = 3
      · refine iteT c ?_
        refine rn_blk one9 h14 rfl rfl ?_
        refine rn_get mapT149 hm ⟨rfl, ?_⟩
        rw [ht, hmm, hr.host]; simp [c]
      · exact iteF c ⟨rfl, by rw [ht]; simp [c]⟩
    rintro x w11 ⟨rfl, rfl⟩
    cases c : twinAt l k with
    | true => exact iteT rfl (fault_out f3 hE (by omega) fun w'' e => ⟨e, (fs_twin c1 c2 hdang hlt c hall).symm⟩)
    | false =>
      refine iteF (by simp) ?_
      refine rn_blk one9 h14 rfl rfl ?_
      refine rn_blk one9 h14 rfl rfl ?_
      refine rn_get mapT149 hm ?_
      have fin : ∀ v : Bool, v = ((mget m l[k].host).getD false || decide (l[k].kind = 3)) → RnU PP (Instr.mapUpdate 149 (.map (some b54)) (.string rs[k].Host) (.bool v)) w11 fun w => K (IntKind.i64.wrap ((k : Int) + 1)) w := fun v hv =>
        rnu_put (k := rs[k].Host) (v := v) mapT149 hm fun w12 c12 hm12 s12 => by
          rw [h.wr hlt]
          refine hK _ _ ⟨k + 1, rfl, hlt, hE.then c12 (fun b hb => by omega), by omega, f3.chg c12 (by omega), f33.chg c12 (by omega), fk.chg c12 (by omega), hms.chg c12 (by omega), ⟨_, hm12, fun n => ?_⟩, all_succ hall c⟩ (by omega)
          rw [any_succ hlt, mget_put, ← hmm n, hr.host]
          by_cases ce : l[k].host = n
          · rw [if_pos ce, hv, ce]; simp
          · rw [if_neg ce]; simp [ce]
      rw [hr.host]
      rw [hr.host] at fin
      cases cg : (mget m l[k].host).getD false with
      | true => exact iteT rfl (fin true (by rw [cg]; rfl))
      | false =>
        refine iteF (by simp) ?_
        refine rn_blk one3 h14 rfl rfl ?_
        rw [hr.kind]
        exact fin _ (by rw [cg]; rfl)
  rw [if_neg (by rw [h.n]; omega)]
  obtain rfl : k = l.length := by omega
  clear hK
  have htwin := hall
  clear hall hm hmm
  -- weights
  refine Lp.mk (fun (i : Int) w' => ∃ k : Nat, i = k ∧ k ≤ l.length ∧ Ext w10 w' ∧ ∀ j, j < k → heavyAt l j = false) (fun i => l.length - i.toNat) ⟨0, rfl, Nat.zero_le _, Ext.refl _, fun j hj => absurd hj (Nat.not_lt_zero _)⟩ ?_
  rintro i w11 K ⟨k, rfl, hk, E11, hall⟩ hK
  by_cases hlt : k < l.length
  · rw [if_pos (by rw [h.n]; omega)]
    have hlr : k < rs.length := by rw [h.len]; exact hlt
    have hr := h.el k hlr hlt
    have ht := heavyAt_eq hlt
    refine rnp_idx sl22 (h.ext (hE.trans E11)).rd hlr rfl fun p _ hp => ?_
    refine rn_ldN (x := rs[k]) many48 hp rfl rfl ?_
    refine New.var (TResource.cells rs[k]) sz48 rfl (oc_res _) rfl fun b16 w12 e12 h16 _ => ?_
    have E12 := E11.trans e12
    refine ⟨fun x w' => Ext w10 w' ∧ x = heavyAt l k, ?_, ?_⟩
    · refine rn_blk one3 h16 rfl rfl ?_
      rw [hr.kind]
      by_cases c : l[k].kind = 2
      · refine iteT c ?_
        refine rn_blkN (x := rs[k]) many48 h16 rfl rfl ?_
        refine (heavy_ok (hr.ext (hE.trans E12))).mono ?_; rintro _ w13 ⟨e13, rfl⟩
        exact ⟨E12.trans e13, by rw [ht]; simp [c]⟩
      · exact iteF c ⟨E12, by rw [ht]; simp [c]⟩
    rintro x w13 ⟨E13, rfl⟩
    cases c : heavyAt l k with
    | true => exact iteT rfl (fault_out (f3.ext E13) (hE.trans E13) (by omega) fun w'' e => ⟨e, (fs_heavy c1 c2 hdang htwin hlt c hall).symm⟩)
    | false =>
      refine iteF (by simp) ?_
      rw [h.wr hlt]
      exact hK _ _ ⟨k + 1, rfl, hlt, E13, all_succ hall c⟩ (by omega)
  rw [if_neg (by rw [h.n]; omega)]
  obtain rfl : k = l.length := by omega
  clear hK
  have hheavy := hall
  clear hall
  -- depths
  replace hE := hE.trans E11; replace f3 := f3.ext E11; replace f33 := f33.ext E11; replace fk := fk.ext E11; replace hms := hms.ext E11
  have hnd := no_dang hdang
  have hms' : ∀ n d, splitOf l n = some d → ∃ i, ∃ h : i < rs.length, l[i]? = some d ∧ mget ms n = some rs[i] := fun n d hs => by
    have h1 := List.find?_some hs
    simp only [Bool.and_eq_true, decide_eq_true_eq] at h1
    obtain ⟨i, hi, rfl⟩ := List.mem_iff_getElem.1 (List.mem_of_find?_eq_some hs)
    have hir : i < rs.length := by rw [h.len]; exact hi
    exact ⟨i, hir, List.getElem?_eq_getElem hi, by rw [← h1.2]; exact hmss i hi hir hi h1.1⟩
  have hlowE := hlow.ext hE
  have hW : DepW (fun b => F b ∧ b < w.heap.size) s rs l b30 b31 b33 ms w11 := ⟨hlowE, fun b hb => by have := hb.2; omega, f33, hms, by omega, by omega⟩
  refine Lp.mk (fun (i : Int) w' => ∃ k : Nat, i = k ∧ k ≤ l.length ∧ Ext w w' ∧ DepW (fun b => F b ∧ b < w.heap.size) s rs l b30 b31 b33 ms w' ∧ Blk w' b3 80 (TFault.cells ⟨0, 0, 0⟩) ∧
      (∃ m, Mp Value.string (Value.int .i64) w' b31 m ∧ Inv l m (fun _ => False)) ∧ ∀ j, j < k → deepAt l j = false) (fun i => l.length - i.toNat)
    ⟨0, rfl, Nat.zero_le _, hE, hW, f3, ⟨[], fk, fun n v hv => by cases hv⟩, fun j hj => absurd hj (Nat.not_lt_zero _)⟩ ?_
  clear hW f3 hE hlowE
  rintro i w12 K ⟨k, rfl, hk, hE, hW, f3, ⟨m, hm, hI⟩, hall⟩ hK
  by_cases hlt : k < l.length
  · rw [if_pos (by rw [h.n]; omega)]
    have hlr : k < rs.length := by rw [h.len]; exact hlt
    have hr := h.el k hlr hlt
    have ht := deepAt_eq hlt
    refine rnp_idx sl22 (h.ext hE).rd hlr rfl fun p _ hp => ?_
    refine rn_ldN (x := rs[k]) many48 hp rfl rfl ?_
    refine New.var (TResource.cells rs[k]) sz48 rfl (oc_res _) rfl fun b18 w13 e13 h18 nb18 => ?_
    replace hE := hE.trans e13; replace hm := hm.ext e13; replace f3 := f3.ext e13
    have hW13 := hW.chg (e13.chg _)
    refine ⟨fun x w' => Ext w w' ∧ DepW (fun b => F b ∧ b < w.heap.size) s rs l b30 b31 b33 ms w' ∧ Blk w' b3 80 (TFault.cells ⟨0, 0, 0⟩) ∧ (∃ m, Mp Value.string (Value.int .i64) w' b31 m ∧ Inv l m (fun _ => False)) ∧ x = deepAt l k, ?_, ?_⟩
    · refine rn_blk one3 h18 rfl rfl ?_
      rw [hr.kind]
      by_cases c : l[k].kind = 2
      · refine iteT c ?_
        refine rn_blk one9 h18 rfl rfl ?_
        rw [hr.name]
        have hsp := splitOf_self hord _ (List.getElem_mem hlt) c
        refine (of_dep hms' (fun n d t a b => has_split (hnd n d t a b)) _ w13 m (fun _ => False) l[k].name (Nat.le_refl _) hW13 hm hI (fun _ h => h.elim) (by rw [hsp]; rfl)).mono ?_
        rintro v w14 ⟨rfl, c14, m', hm', hI', _⟩
        refine ⟨hE.then c14 (fun b hb => by omega), hW13.chg c14, f3.chg c14 (by omega), ⟨m', hm', hI'⟩, ?_⟩
        rw [ht]; simp [c]; omega
      · exact iteF c ⟨hE, hW13, f3, ⟨m, hm, hI⟩, by rw [ht]; simp [c]⟩
    rintro x w14 ⟨hE, hW, f3, hmI, rfl⟩
    cases c : deepAt l k with
    | true => exact iteT rfl (fault_out f3 hE (by omega) fun w'' e => ⟨e, (fs_deep c1 c2 hdang htwin hheavy hlt c hall).symm⟩)
    | false =>
      refine iteF (by simp) ?_
      rw [h.wr hlt]
      exact hK _ _ ⟨k + 1, rfl, hlt, hE, hW, f3, hmI, all_succ hall c⟩ (by omega)
  rw [if_neg (by rw [h.n]; omega)]
  obtain rfl : k = l.length := by omega
  refine (shadows_ok (h.ext hE) hf.paths hf.tot).mono ?_
  rintro x w13 e13
  exact fault_out (f3.ext e13) (hE.trans e13) (by omega) fun w'' e => ⟨e, (fs_none c1 c2 hdang htwin hheavy hall).symm⟩
end
end Go.Proofs.Ytdoeegfcmbcbkaa.Ct

/- Contracts: the check of the document's package for layer 14, whole. -/
namespace Go.Proofs.Ytdoeegfcmbcbkaa.Ct
open Go Go.Eng Tr
set_option linter.unusedVariables false
set_option maxRecDepth 100000

def toRef (f : TFault) : TFault14 := ⟨f.Doc, f.Line, f.Err⟩
theorem oc_fault14 (x : TFault14) : ∀ u ∈ TFault14.cells x, u.oneCell' = true := by simp [TFault14.cells, Value.oneCell']
theorem fault_out14 {w w' : World} {b : Nat} {g f : TFault14} {K : TFault14 → World → Prop} (h3 : Blk w' b 101 (TFault14.cells g)) (hE : Ext w w') (hb : w.heap.size ≤ b) (hk : ∀ w'', Ext w w'' → K f w'') :
    RnU PP (Instr.storeAt 101 (Ptr ⟨b, 0, none⟩) (TFault14.v f)) w' fun w => RnR PP TFault14.v (loadVar 101 ⟨b, 0, none⟩) w fun r => K r w :=
  rnu_st (b := b) (o := 0) rfl h3 (TFault14.cells f) sz101 rfl (oc_fault14 f) (by simp [TFault14.cells]) fun w2 c2 _ hb2 =>
    rnr_ldN (x := f) many101 (show Blk w2 b 101 (TFault14.cells f) from hb2).whole rfl rfl (hk w2 (hE.then c2 fun x hx => by omega))
theorem oc_warn14 (x : TWarning14) : ∀ u ∈ TWarning14.cells x, u.oneCell' = true := by simp [TWarning14.cells, Value.oneCell']
/-- the bounds of a sum that is one hundred -/
theorem lo_run : FloatKind.f64.format.sub 4636737291354636288 4517110426252607488 = some 4636737291287527424 := by decide +kernel
theorem hi_run : FloatKind.f64.format.add 4636737291354636288 4517110426252607488 = some 4636737291421745152 := by decide +kernel
section
variable {w : World} {F : Nat → Prop} {s : Sl} {rs : List TResource} {l : List DRes}
/-- a pair of hosts: place j ahead of place i -/
def pairAt (l : List DRes) (i j : Nat) : Bool := match l[i]?, l[j]? with
  | some d, some c => decide (d.kind = 3) && (decide (c.kind = 3) && decide (d.host = c.host))
  | _, _ => false
theorem pairAt_eq {i j : Nat} (hi : i < l.length) (hj : j < l.length) : pairAt l i j = (decide (l[i].kind = 3) && (decide (l[j].kind = 3) && decide (l[i].host = l[j].host))) := by
  simp only [pairAt, List.getElem?_eq_getElem hi, List.getElem?_eq_getElem hj]
theorem twin_yes {i j : Nat} (hi : i < l.length) (hj : j < i) (h : pairAt l i j = true) : twinAt l i = true := by
  rw [pairAt_eq hi (by omega)] at h
  simp only [Bool.and_eq_true, decide_eq_true_eq] at h
  rw [twinAt_eq hi]
  simp only [Bool.and_eq_true, decide_eq_true_eq]
  refine ⟨h.1, List.any_eq_true.2 ⟨l[j]'(by omega), ?_, by simp [h.2.1, h.2.2]⟩⟩
  rw [List.mem_take_iff_getElem]
  exact ⟨j, by omega, rfl⟩
theorem twin_no {i : Nat} (hi : i < l.length) (h : ∀ j, j < i → pairAt l i j = false) : twinAt l i = false := by
  rw [twinAt_eq hi]
  by_cases c : l[i].kind = 3
  · simp only [c, decide_true, Bool.true_and]
    rw [List.any_eq_false]
    intro x hx
    obtain ⟨j, hj, rfl⟩ := List.mem_take_iff_getElem.1 hx
    have := h j (by omega)
    rw [pairAt_eq hi (by omega)] at this
    simp only [c, decide_true, Bool.true_and] at this
    simp only [Bool.not_eq_true]
    rw [← this, decide_eq_decide.2 (eq_comm : l[j].host = l[i].host ↔ l[i].host = l[j].host)]
  · simp [c]
end
end Go.Proofs.Ytdoeegfcmbcbkaa.Ct

/- Contracts: the check of the document's package for layer 14, whole (walk). -/
namespace Go.Proofs.Ytdoeegfcmbcbkaa.Ct
open Go Go.Eng Tr
set_option linter.unusedVariables false
set_option maxRecDepth 100000

section
variable {w : World} {F : Nat → Prop} {s : Sl} {rs : List TResource} {l : List DRes}
theorem refCheck_ok (h : ConfD F w s rs l) (hf : Fit l) :
    Cal PP (fun x : Sl × TFault14 => Value.tuple #[Sl.v x.1, TFault14.v x.2]) 58 #[s.v] w fun x w' => Ext w w' ∧ x.2 = toRef (faultM l) := by
  refine c58 ?_
  unfold f58
  refine New.mk fun b3 w1 e1 h3 n3 s3 => ?_
  refine (refOut_ok (h.ext e1)).mono ?_; rintro _ w2 ⟨e2, rfl⟩
  replace h3 := h3.ext e2
  replace e1 := e1.trans e2
  by_cases c1 : 0 ≤ fst? (outAt l) l.length
  · exact iteT c1 (fault_out14 h3 e1 (by omega) fun w'' e => ⟨e, by rw [fs_out c1]; rfl⟩)
  refine iteF c1 ?_
  by_cases c2 : 64 < l.length
  · exact iteT (by rw [h.n]; omega) (fault_out14 h3 e1 (by omega) fun w'' e => ⟨e, by rw [fs_big c1 c2]; rfl⟩)
  refine iteF (by rw [h.n]; omega) ?_
  have hord := fst?_neg (by omega : fst? (outAt l) l.length < 0)
  -- what leads nowhere
  refine Lp.mk (fun (i : Int) w' => ∃ k : Nat, i = k ∧ k ≤ l.length ∧ Ext w w' ∧ Ext w2 w' ∧ ∀ j, j < k → dangAt l j = false) (fun i => l.length - i.toNat) ⟨0, rfl, Nat.zero_le _, e1, Ext.refl _, fun j hj => absurd hj (Nat.not_lt_zero _)⟩ ?_
  rintro i w9 K ⟨k, rfl, hk, hE, E9, hall⟩ hK
  by_cases hlt : k < l.length
  · rw [if_pos (by rw [h.n]; omega)]
    refine (h.ext hE).idx hlt rfl fun p r _ hp hr => ?_
    refine rn_ldN (x := r) many48 hp rfl rfl ?_
    refine (refDangling_ok (h.ext hE) hr).mono ?_; rintro _ w11 ⟨e11, rfl⟩
    have hd := dangAt_eq hlt
    by_cases c : 0 ≤ dang (has l) l[k]
    · exact iteT c (fault_out14 (h3.ext (E9.trans e11)) (hE.trans e11) (by omega) fun w'' e => ⟨e, by rw [fs_dang c1 c2 hlt (by rw [hd]; simpa using c) hall]; rfl⟩)
    · refine iteF c ?_
      rw [h.wr hlt]
      exact hK _ _ ⟨k + 1, rfl, hlt, hE.trans e11, E9.trans e11, all_succ hall (by rw [hd]; simpa using c)⟩ (by omega)
  rw [if_neg (by rw [h.n]; omega)]
  obtain rfl : k = l.length := by omega
  clear hK
  have hdang := hall
  clear hall
  replace h3 := h3.ext E9
  -- hosts
  refine Lp.mk (fun (i : Int) w' => ∃ k : Nat, i = k ∧ k ≤ l.length ∧ Ext w w' ∧ Ext w9 w' ∧ ∀ j, j < k → twinAt l j = false) (fun i => l.length - i.toNat) ⟨0, rfl, Nat.zero_le _, hE, Ext.refl _, fun j hj => absurd hj (Nat.not_lt_zero _)⟩ ?_
  clear hE E9
  rintro i w10 K ⟨k, rfl, hk, hE, E10, hall⟩ hK
  by_cases hlt : k < l.length
  · rw [if_pos (by rw [h.n]; omega)]
    refine Lp.mk (fun (i : Int) w' => ∃ q : Nat, i = q ∧ q ≤ k ∧ Ext w w' ∧ Ext w9 w' ∧ ∀ j, j < q → pairAt l k j = false) (fun i => k - i.toNat) ⟨0, rfl, Nat.zero_le _, hE, E10, fun j hj => absurd hj (Nat.not_lt_zero _)⟩ ?_
    clear hE E10
    rintro i w11 K2 ⟨q, rfl, hq, hE, E11, hall2⟩ hK2
    by_cases hqk : q < k
    · rw [if_pos (by omega)]
      have hp := pairAt_eq hlt (by omega : q < l.length)
      refine ⟨fun x w' => Ext w w' ∧ Ext w9 w' ∧ x = pairAt l k q, ?_, ?_⟩
      · refine Dr.mk fun w12 e12 _ => ?_
        replace hE := hE.trans e12; replace E11 := E11.trans e12
        refine (h.ext hE).idx hlt rfl fun p r _ hp' hr => ?_
        refine rnl_at one3 hp' rfl ?_
        rw [hr.kind]
        by_cases c : l[k].kind = 3
        · refine iteT c ?_
          refine (h.ext hE).idx (k := q) (by omega) rfl fun p r _ hp' hr => ?_
          refine rnl_at one3 hp' rfl ?_
          rw [hr.kind]
          by_cases c' : l[q].kind = 3
          · refine iteT c' ?_
            refine (h.ext hE).idx hlt rfl fun p r _ hp' hr => ?_
            refine rnl_at one9 hp' rfl ?_
            refine (h.ext hE).idx (k := q) (by omega) rfl fun p r' _ hp' hr' => ?_
            refine rnl_at one9 hp' rfl ?_
            exact ⟨hE, E11, by rw [hp, hr.host, hr'.host]; simp [c, c']⟩
          · exact iteF c' ⟨hE, E11, by rw [hp]; simp [c']⟩
        · exact iteF c ⟨hE, E11, by rw [hp]; simp [c]⟩
      rintro x w12 ⟨hE, E12, rfl⟩
      cases c : pairAt l k q with
      | true => exact iteT rfl (fault_out14 (h3.ext E12) hE (by omega) fun w'' e => ⟨e, by rw [fs_twin c1 c2 hdang hlt (twin_yes hlt hqk c) hall]; rfl⟩)
      | false =>
        refine iteF (by simp) ?_
        rw [h.wr (by omega : q < l.length)]
        exact hK2 _ _ ⟨q + 1, rfl, hqk, hE, E12, all_succ hall2 c⟩ (by omega)
    · rw [if_neg (by omega), h.wr hlt]
      exact hK _ _ ⟨k + 1, rfl, hlt, hE, E11, all_succ hall (twin_no hlt fun j hj => hall2 j (by omega))⟩ (by omega)
  rw [if_neg (by rw [h.n]; omega)]
  obtain rfl : k = l.length := by omega
  clear hK
  have htwin := hall
  clear hall
  replace h3 := h3.ext E10
  -- weights
  refine Lp.mk (fun (i : Int) w' => ∃ k : Nat, i = k ∧ k ≤ l.length ∧ Ext w w' ∧ Ext w10 w' ∧ ∀ j, j < k → heavyAt l j = false) (fun i => l.length - i.toNat) ⟨0, rfl, Nat.zero_le _, hE, Ext.refl _, fun j hj => absurd hj (Nat.not_lt_zero _)⟩ ?_
  clear hE E10
  rintro i w11 K ⟨k, rfl, hk, hE, E11, hall⟩ hK
  by_cases hlt : k < l.length
  · rw [if_pos (by rw [h.n]; omega)]
    have ht := heavyAt_eq hlt
    refine Lp.mk (fun (y : Nat × Bool × Int) w' => ∃ q : Nat, y.2.2 = q ∧ q ≤ l[k].targets.length ∧ Ext w w' ∧ Ext w10 w' ∧ Fl (fsum (l[k].targets.take q)) y.1 ∧ y.2.1 = !(l[k].targets.take q).any badW) (fun y => l[k].targets.length - y.2.2.toNat)
      ⟨0, rfl, Nat.zero_le _, hE, E11, rfl, rfl⟩ ?_
    clear hE E11
    rintro ⟨x, fine, _⟩ w12 K2 ⟨q, rfl, hq, hE, E12, hfl, rfl⟩ hK2
    dsimp only at hfl ⊢
    refine (h.ext hE).idx hlt rfl fun p r _ hp hr => ?_
    refine rn_at one45 hp rfl ?_
    by_cases hql : q < l[k].targets.length
    · refine iteT (by rw [hr.targets.len]; omega) ?_
      refine (h.ext hE).idx hlt rfl fun p r _ hp hr => ?_
      refine rn_at one45 hp rfl ?_
      refine rnp_idx sl45 hr.targets hql rfl fun p _ hp => ?_
      refine rn_at one30 hp rfl ?_
      refine ⟨fun y w' => w' = w12 ∧ y = !(l[k].targets.take (q + 1)).any badW, ?_, ?_⟩
      · rw [any_succ hql]
        cases ca : (l[k].targets.take q).any badW with
        | true => exact iteF (by simp) ⟨rfl, rfl⟩
        | false =>
          refine iteT rfl ?_
          cases cg : fGe l[k].targets[q].Weight 0 with
          | true => exact iteT rfl ⟨rfl, by simp [badW, okW, cg]⟩
          | false => exact iteF (by simp) ⟨rfl, by simp [badW, okW, cg]⟩
      rintro y w12 ⟨rfl, rfl⟩
      refine rn_add hfl fun v w13 hv e13 _ => ?_
      rw [hr.targets.wr hql]
      exact hK2 _ _ ⟨q + 1, rfl, hql, hE.trans e13, E12.trans e13, by rw [fsum_succ hql]; exact hv, rfl⟩ (by dsimp only; omega)
    · refine iteF (by rw [hr.targets.len]; omega) ?_
      obtain rfl : q = l[k].targets.length := by omega
      rw [List.take_length] at hfl
      rw [List.take_length]
      refine ⟨fun y w' => Ext w w' ∧ Ext w10 w' ∧ y = heavyAt l k, ?_, ?_⟩
      · refine (h.ext hE).idx hlt rfl fun p r _ hp hr => ?_
        refine rn_at one3 hp rfl ?_
        rw [hr.kind]
        by_cases c : l[k].kind = 2
        · refine iteT c ?_
          cases ca : l[k].targets.any badW with
          | true => exact iteF (by simp) ⟨hE, E12, by rw [ht]; simp [c, heavyS, ca]⟩
          | false =>
            refine iteT rfl ?_
            refine arith_run .sub _ rfl fun v w13 hv e13 _ => ?_
            rw [show FloatKind.f64.format.sub 4636737291354636288 4517110426252607488 = some 4636737291287527424 from lo_run] at hv
            cases hv
            rw [hfl.ge]
            cases cg : oGe (fsum l[k].targets) 4636737291287527424 with
            | false => exact iteF (by simp) ⟨hE.trans e13, E12.trans e13, by rw [ht]; simp [c, heavyS, ca, cg]⟩
            | true =>
              refine iteT rfl ?_
              refine arith_run .add _ rfl fun v w14 hv e14 _ => ?_
              rw [show FloatKind.f64.format.add 4636737291354636288 4517110426252607488 = some 4636737291421745152 from hi_run] at hv
              cases hv
              rw [hfl.le]
              exact ⟨(hE.trans e13).trans e14, (E12.trans e13).trans e14, by rw [ht]; simp [c, heavyS, ca, cg]⟩
        · exact iteF c ⟨hE, E12, by rw [ht]; simp [c]⟩
      rintro y w13 ⟨hE, E13, rfl⟩
      cases c : heavyAt l k with
      | true => exact iteT rfl (fault_out14 (h3.ext E13) hE (by omega) fun w'' e => ⟨e, by rw [fs_heavy c1 c2 hdang htwin hlt c hall]; rfl⟩)
      | false =>
        refine iteF (by simp) ?_
        rw [h.wr hlt]
        exact hK _ _ ⟨k + 1, rfl, hlt, hE, E13, all_succ hall c⟩ (by omega)
  rw [if_neg (by rw [h.n]; omega)]
  obtain rfl : k = l.length := by omega
  clear hK
  have hheavy := hall
  clear hall
  replace h3 := h3.ext E11
  -- depths
  refine (depths_ok (h.ext hE) (by omega) (splitOf_self hord) (no_dang hdang)).mono ?_
  rintro dd w12 ⟨e12, hdd⟩
  replace hE := hE.trans e12; replace h3 := h3.ext e12
  refine Lp.mk (fun (i : Int) w' => ∃ k : Nat, i = k ∧ k ≤ l.length ∧ Ext w w' ∧ Ext w12 w' ∧ ∀ j, j < k → deepAt l j = false) (fun i => l.length - i.toNat) ⟨0, rfl, Nat.zero_le _, hE, Ext.refl _, fun j hj => absurd hj (Nat.not_lt_zero _)⟩ ?_
  clear hE E11
  rintro i w13 K ⟨k, rfl, hk, hE, E13, hall⟩ hK
  by_cases hlt : k < l.length
  · rw [if_pos (by rw [h.n]; omega)]
    have ht := deepAt_eq hlt
    refine ⟨fun x w' => w' = w13 ∧ x = deepAt l k, ?_, ?_⟩
    · refine (h.ext hE).idx hlt rfl fun p r _ hp hr => ?_
      refine rn_at one3 hp rfl ?_
      rw [hr.kind]
      by_cases c : l[k].kind = 2
      · refine iteT c ?_
        refine rnp_idx sl77 (hdd.ext E13) (by rw [row_len]; exact hlt) rfl fun p _ hp => ?_
        refine rn_at0 one3 hp ⟨rfl, ?_⟩
        have hb := hd_bounds l 8 l[k].name
        have hv : (row l 8)[k]'(by rw [row_len]; exact hlt) = ((dv l 8 k : Nat) : Int) := by simp [row]
        have hdv : dv l 8 k = if hd l 8 l[k].name ≤ 8 then hd l 8 l[k].name else 0 := by simp only [dv, List.getElem?_eq_getElem hlt, if_pos c]
        rw [ht, hv, hdv]
        by_cases c8 : hd l 8 l[k].name ≤ 8
        · rw [if_pos c8]; simp [c]; omega
        · rw [if_neg c8]; simp [c]; omega
      · exact iteF c ⟨rfl, by rw [ht]; simp [c]⟩
    rintro x w13 ⟨rfl, rfl⟩
    cases c : deepAt l k with
    | true => exact iteT rfl (fault_out14 (h3.ext E13) hE (by omega) fun w'' e => ⟨e, by rw [fs_deep c1 c2 hdang htwin hheavy hlt c hall]; rfl⟩)
    | false =>
      refine iteF (by simp) ?_
      rw [h.wr hlt]
      exact hK _ _ ⟨k + 1, rfl, hlt, hE, E13, all_succ hall c⟩ (by omega)
  rw [if_neg (by rw [h.n]; omega)]
  obtain rfl : k = l.length := by omega
  clear hK
  have hdeep := hall
  clear hall
  replace h3 := h3.ext E13
  -- warnings
  have g13 := h3.lt
  have gw := hE.size
  refine Lp.mk (fun (y : Sl × Int) w' => ∃ (k : Nat) (ws : List TWarning14), y.2 = k ∧ k ≤ l.length ∧ Ext w w' ∧ Blk w' b3 101 (TFault14.cells ⟨0, 0, 0⟩) ∧ Own TWarning14.cells 3 160 w13.heap.size w' y.1 ws ∧ ws.length ≤ tot (l.take k) ∧ w13.heap.size ≤ w'.heap.size) (fun y => l.length - y.2.toNat)
    ⟨0, [], rfl, Nat.zero_le _, hE, h3, Own.nil_ _ _, Nat.zero_le _, Nat.le_refl _⟩ ?_
  clear hE h3
  rintro ⟨y, _⟩ w14 K ⟨k, ws, rfl, hk, hE, h3, hO, hn, hge⟩ hK
  dsimp only at hO ⊢
  by_cases hlt : k < l.length
  · rw [if_pos (by rw [h.n]; omega)]
    have htot := tot_take hlt
    have htl := tot_le l (k + 1)
    have htt := hf.tot
    have hpr := hf.paths _ (List.getElem_mem hlt)
    refine ⟨fun y w' => ∃ ws, Ext w w' ∧ Blk w' b3 101 (TFault14.cells ⟨0, 0, 0⟩) ∧ Own TWarning14.cells 3 160 w13.heap.size w' y ws ∧ ws.length ≤ tot (l.take (k + 1)) ∧ w13.heap.size ≤ w'.heap.size, ?_, ?_⟩
    · refine (h.ext hE).idx hlt rfl fun p r _ hp hr => ?_
      refine rn_at one3 hp rfl ?_
      by_cases c : r.Kind < 3
      · exact iteT c ⟨ws, hE, h3, hO, by omega, hge⟩
      refine iteF c ?_
      refine Lp.mk (fun (z : Sl × Int) w' => ∃ (j : Nat) (ws : List TWarning14), z.2 = j ∧ j ≤ l[k].rules.length ∧ Ext w w' ∧ Blk w' b3 101 (TFault14.cells ⟨0, 0, 0⟩) ∧ Own TWarning14.cells 3 160 w13.heap.size w' z.1 ws ∧ ws.length ≤ tot (l.take k) + j ∧ w13.heap.size ≤ w'.heap.size) (fun z => l[k].rules.length - z.2.toNat)
        ⟨0, ws, rfl, Nat.zero_le _, hE, h3, hO, by omega, hge⟩ ?_
      clear hE h3 hO hr hp hge
      rintro ⟨z, _⟩ w15 K2 ⟨j, ws, rfl, hj, hE, h3, hO, hn, hge⟩ hK2
      dsimp only at hO ⊢
      refine (h.ext hE).idx hlt rfl fun p r _ hp hr => ?_
      refine rn_at one46 hp rfl ?_
      by_cases hjl : j < l[k].rules.length
      · refine iteT (by rw [hr.rules.len]; omega) ?_
        refine ⟨fun z w' => ∃ ws, Ext w w' ∧ Blk w' b3 101 (TFault14.cells ⟨0, 0, 0⟩) ∧ Own TWarning14.cells 3 160 w13.heap.size w' z ws ∧ ws.length ≤ tot (l.take k) + (j + 1) ∧ w13.heap.size ≤ w'.heap.size, ?_, ?_⟩
        · refine (h.ext hE).idx hlt rfl fun p r _ hp hr => ?_
          refine rn_at one46 hp rfl ?_
          refine rnp_idx sl46 hr.rules hjl rfl fun p _ hp => ?_
          refine rn_ldN (x := l[k].rules[j]) many91 hp rfl rfl ?_
          refine New.var (TRule.cells l[k].rules[j]) sz91 rfl (oc_rule _) rfl fun b20 w16 e16 h20 _ => ?_
          replace hE := hE.trans e16; replace h3 := h3.ext e16; replace hO := hO.ext e16
          have g16 := e16.size
          refine Lp.mk (fun (u : Sl × Int) w' => ∃ q : Nat, u.2 = q ∧ q ≤ j ∧ u.1 = z ∧ Ext w w' ∧ Ext w16 w') (fun u => j - u.2.toNat) ⟨0, rfl, Nat.zero_le _, rfl, hE, Ext.refl _⟩ ?_
          clear hE
          rintro ⟨_, _⟩ w17 K3 ⟨q, rfl, hq, rfl, hE, E17⟩ hK3
          dsimp only at hO ⊢
          replace h3 := h3.ext E17; replace hO := hO.ext E17; replace h20 := h20.ext E17
          by_cases hqj : q < j
          · refine iteT (by omega) ?_
            refine (h.ext hE).idx hlt rfl fun p r _ hp hr => ?_
            refine rn_at one46 hp rfl ?_
            refine rnp_idx sl46 hr.rules (k := q) (by omega) rfl fun p _ hp => ?_
            refine rn_ldN (x := l[k].rules[q]) many91 hp rfl rfl ?_
            refine New.var (TRule.cells l[k].rules[q]) sz91 rfl (oc_rule _) rfl fun b22 w18 e18 h22 _ => ?_
            replace hE := hE.trans e18; replace h3 := h3.ext e18; replace hO := hO.ext e18; replace h20 := h20.ext e18
            have E18 := E17.trans e18
            refine ⟨fun x w' => Ext w w' ∧ Ext w16 w' ∧ Ext w18 w', ?_, ?_⟩
            · have fin : Cal PP Value.bool 103 #[.string l[k].rules[q].Path, .string l[k].rules[j].Path] w18 fun _ w' => Ext w w' ∧ Ext w16 w' ∧ Ext w18 w' :=
                (covers13_ok _ _ (hpr _ (List.getElem_mem _)) (hpr _ (List.getElem_mem _))).mono fun _ _ e => ⟨hE.trans e, E18.trans e, e⟩
              refine rn_blk one9 h22 rfl rfl ?_
              by_cases cm : l[k].rules[q].Method = ⟨#[42]⟩
              · refine iteT cm ?_
                refine rn_blk one9 h22 rfl rfl ?_
                refine rn_blk one9 h20 rfl rfl ?_
                exact fin
              · refine iteF cm ?_
                refine rn_blk one9 h22 rfl rfl ?_
                refine rn_blk one9 h20 rfl rfl ?_
                by_cases cn : l[k].rules[q].Method = l[k].rules[j].Method
                · refine iteT cn ?_
                  refine rn_blk one9 h22 rfl rfl ?_
                  refine rn_blk one9 h20 rfl rfl ?_
                  exact fin
                · exact iteF cn ⟨hE, E18, Ext.refl _⟩
            rintro x w19 ⟨hE, E19, e19⟩
            have g19 := E19.size
            cases x with
            | true =>
              refine iteT rfl ?_
              refine New.mk fun b239 w20 e20 h239 _ s20 => ?_
              replace hE := hE.trans e20
              have hO := hO.ext (e19.trans e20)
              have h3 := h3.ext (e19.trans e20)
              refine rn_app1 (x := (⟨k, j, q⟩ : TWarning14)) el99 hO h239 rfl rfl (oc_warn14 _) (by omega) (by decide) (by omega) fun z' w21 hO' c21 n21 => ?_
              have g21 := c21.size
              exact ⟨_, hE.then c21 (fun b hb => by have := (hO.ge hb).1; omega), h3.chg c21 (fun hb => by have := (hO.ge hb).1; omega), hO', by simp; omega, by omega⟩
            | false =>
              refine iteF (by simp) ?_
              rw [hr.rules.wr (by omega : q < l[k].rules.length)]
              exact hK3 _ _ ⟨q + 1, rfl, hqj, rfl, hE, E19⟩ (by dsimp only; omega)
          · refine iteF (by omega) ⟨ws, hE, h3, hO, by omega, by have := E17.size; omega⟩
        · rintro z w16 ⟨ws, hE, h3, hO, hn, hge⟩
          rw [hr.rules.wr hjl]
          exact hK2 _ _ ⟨j + 1, ws, rfl, hjl, hE, h3, hO, hn, hge⟩ (by dsimp only; omega)
      · refine iteF (by rw [hr.rules.len]; omega) ⟨ws, hE, h3, hO, by omega, hge⟩
    · rintro y w15 ⟨ws, hE, h3, hO, hn, hge⟩
      rw [h.wr hlt]
      exact hK _ _ ⟨k + 1, ws, rfl, hlt, hE, h3, hO, hn, hge⟩ (by dsimp only; omega)
  · rw [if_neg (by rw [h.n]; omega)]
    exact fault_out14 h3 hE (by omega) fun w'' e => ⟨e, by rw [fs_none c1 c2 hdang htwin hheavy hdeep]; rfl⟩
end
end Go.Proofs.Ytdoeegfcmbcbkaa.Ct

/- Memory: cells of an element of a slice of our own, written in place. Floats, two at a time. -/
namespace Go.Eng
open Go
set_option linter.unusedVariables false
set_option linter.unusedSectionVars false

theorem flatMap_over {α : Type} {cells : α → List Value} {sz f : Nat} {vs : List Value} {x' : α} : ∀ (l : List α) (k : Nat) (hk : k < l.length), (∀ x ∈ l, (cells x).length = sz) → f + vs.length ≤ sz →
    cells x' = over (cells l[k]) f vs → (l.set k x').flatMap cells = over (l.flatMap cells) (k * sz + f) vs
  | x :: l, 0, _, hsz, hf, hx => by
    have h1 := hsz x (by simp)
    simp only [List.set_cons_zero, List.flatMap_cons, List.getElem_cons_zero] at hx ⊢
    rw [hx, Nat.zero_mul, Nat.zero_add]
    unfold over
    rw [List.take_append_of_le_length (by omega), List.drop_append_of_le_length (by omega)]
    simp only [List.append_assoc]
  | x :: l, k + 1, hk, hsz, hf, hx => by
    simp only [List.set_cons_succ, List.flatMap_cons, List.getElem_cons_succ] at hx ⊢
    have h1 := hsz x (by simp)
    rw [flatMap_over l k (by simpa using hk) (fun y hy => hsz y (by simp [hy])) hf hx]
    unfold over
    have e1 : (k + 1) * sz + f = (cells x).length + (k * sz + f) := by rw [h1, Nat.add_mul]; omega
    rw [e1, List.take_length_add_append, Nat.add_assoc (cells x).length, List.drop_length_add_append]
    simp only [List.append_assoc, Nat.add_assoc]
theorem over_take {cs vs : List Value} {o n : Nat} (h : o + vs.length ≤ n) (hn : n ≤ cs.length) : (over cs o vs).take n = over (cs.take n) o vs := by
  unfold over
  have h1 : (cs.take o).length = o := by simp; omega
  rw [List.take_append, List.take_append, h1, List.take_of_length_le (by rw [h1]; omega), List.take_of_length_le (l := vs) (by omega)]
  rw [List.take_take, Nat.min_eq_left (by omega), List.length_append, h1, List.drop_take]
section
variable {α : Type} {cells : α → List Value} {sz T B : Nat} {P : Program} {w : World} {s : Sl} {l : List α}
theorem own_setN {t e tf k f : Nat} {i : Int} {v : Value} {vs : List Value} {x' : α} {K : World → Prop} (ht : SlT P t e sz) (h : Own cells sz T B w s l) (hk : k < l.length) (hi : i = k) (hf : f + vs.length ≤ sz)
    (hs : (P.info? tf).map (·.size) = some vs.length) (hv : v.cells = vs.toArray) (h1 : ∀ u ∈ vs, u.oneCell' = true) (hx : cells x' = over (cells l[k]) f vs)
    (hK : ∀ w', Chg (own? s) w w' → Own cells sz T B w' s (l.set k x') → w'.heap.size = w.heap.size → K w') :
    RnP P Ptr (Instr.indexAt t (Sl.v s) (.int .i64 i)) fun p => RnU P (Instr.storeAt tf (Ptr (p.add f)) v) w K := by
  subst hi
  have hsz := h.sz_
  obtain ⟨hrl, hn | ⟨g, cap, cur, hv', hbg, hg, hnc, hcm, hcs, htake⟩⟩ := h.row
  · omega
  have hn := h.len
  have ha : s.a = some ⟨g, 0, none⟩ := by obtain ⟨a, n, c⟩ := s; simp only [Sl.v, Value.slice.injEq] at hv'; exact hv'.1
  have hb : Blk w g T cur.toList := by unfold Blk; rw [hg]
  have hlim : k * sz + sz ≤ l.length * sz := by rw [← Nat.succ_mul]; exact Nat.mul_le_mul_right _ hk
  have hle : l.length * sz ≤ cap * sz := Nat.mul_le_mul_right _ hnc
  have hcl : cur.toList.length = cap * sz := by simpa using hcs
  refine ⟨_, fun w => idx_run ht ha (by rw [hn]; exact hk) w, ?_⟩
  rw [blk_add, Nat.zero_add]
  show RnU P (Instr.storeAt tf (Ptr ((⟨g, k * sz, none⟩ : Addr).add f)) v) w K
  rw [blk_add]
  refine rnu_st (b := g) (o := k * sz + f) rfl hb vs hs hv h1 (by omega) fun w' c s' hb' => ?_
  refine hK w' (c.mono fun b _ hb => ⟨_, ha, hb.symm⟩) ⟨⟨?_, .inr ⟨g, cap, (over cur.toList (k * sz + f) vs).toArray, ?_, hbg, hb', ?_, hcm, ?_, ?_⟩⟩, ?_⟩ s'
  · rw [flatMap_over l k hk hsz hf hx, List.length_set, over_length (by rw [hrl]; omega), hrl]
  · rw [List.length_set]; exact hv'
  · rw [List.length_set]; exact hnc
  · rw [List.size_toArray, over_length (by omega), hcl]
  · rw [List.length_set, List.toList_toArray, over_take (by omega) (by omega), htake, flatMap_over l k hk hsz hf hx]
  · intro x hx'
    rcases List.mem_or_eq_of_mem_set hx' with hx' | rfl
    · exact hsz x hx'
    · rw [hx, over_length (by rw [hsz _ (List.getElem_mem hk)]; omega)]; exact hsz _ (List.getElem_mem hk)
end

/-! ### Floats, two at a time -/
def oadd2 (o p : Option Nat) : Option Nat := o.bind fun x => p.bind fun y => FloatKind.f64.format.add x y
def omul2 (o p : Option Nat) : Option Nat := o.bind fun x => p.bind fun y => FloatKind.f64.format.mul x y
def oGt (o : Option Nat) (y : Nat) : Bool := match o with
  | some x => fGt x y
  | none => false
theorem Fl.gt {o : Option Nat} {x : Nat} (h : Fl o x) (y : Nat) : fGt x y = oGt o y := by
  cases o with
  | some v => cases h; rfl
  | none => simp [oGt, fGt, order_nan h]
theorem add_nan_r {x y : Nat} (h : nanB y = true) : FloatKind.f64.format.add x y = none := by
  unfold nanB at h
  unfold Ieee.Format.add
  cases hy : FloatKind.f64.format.read y <;> rw [hy] at h <;> first | (cases h; done) | skip
  cases FloatKind.f64.format.read x <;> rfl
theorem mul_nan_l {x y : Nat} (h : nanB x = true) : FloatKind.f64.format.mul x y = none := by
  unfold nanB at h
  unfold Ieee.Format.mul
  cases hy : FloatKind.f64.format.read x <;> rw [hy] at h <;> first | (cases h; done) | skip
  cases FloatKind.f64.format.read y <;> rfl
theorem mul_nan_r {x y : Nat} (h : nanB y = true) : FloatKind.f64.format.mul x y = none := by
  unfold nanB at h
  unfold Ieee.Format.mul
  cases hy : FloatKind.f64.format.read y <;> rw [hy] at h <;> first | (cases h; done) | skip
  cases FloatKind.f64.format.read x <;> rfl
section
variable {P : Program} {w : World} {K : Nat → World → Prop} {x y : Nat}
theorem rn_add2 {o p : Option Nat} (ho : Fl o x) (hp : Fl p y) (hk : ∀ v w', Fl (oadd2 o p) v → Ext w w' → w'.heap = w.heap → K v w') : Rn P (Value.float .f64) (Op.floatArith .add .f64 x y) w K := by
  refine arith_run .add _ rfl fun v w' hv => hk v w' ?_
  cases o with
  | some v' =>
    cases ho
    cases p with
    | some v'' => cases hp; exact hv
    | none => rw [add_nan_r hp] at hv; exact hv
  | none => rw [add_nan ho] at hv; exact hv
theorem rn_mul2 {o p : Option Nat} (ho : Fl o x) (hp : Fl p y) (hk : ∀ v w', Fl (omul2 o p) v → Ext w w' → w'.heap = w.heap → K v w') : Rn P (Value.float .f64) (Op.floatArith .mul .f64 x y) w K := by
  refine arith_run .mul _ rfl fun v w' hv => hk v w' ?_
  cases o with
  | some v' =>
    cases ho
    cases p with
    | some v'' => cases hp; exact hv
    | none => rw [mul_nan_r hp] at hv; exact hv
  | none => rw [mul_nan_l ho] at hv; exact hv
end

/-! ### A map gone through, in the words of a transformer -/
section
variable {κ ν : Type} [DecidableEq κ] {ek : κ → Value} {ev : ν → Value} {P : Program} {w : World} {b r : Nat} {l : List (κ × ν)}
/-- how many entries are left to come -/
def rgLeft (w : World) (r b : Nat) : Nat := match w.heap[r]?, w.heap[b]? with
  | some (.mapIter _ _ seen _), some (.map es _) => (leftOf es seen).toList.length
  | _, _ => 0
theorem Rg.left (h : Rg ek ev w r b l) : rgLeft w r b = l.length := by
  obtain ⟨es, clock, since, seen, c0, hr, hb, _, _, _, _, heq⟩ := h
  have := congrArg List.length heq
  unfold rgLeft; rw [hr, hb]
  simpa using this
theorem rn_range {mt kt et : Nat} {z : ν} {K : Value → World → Prop} (ht : MapT P mt kt et ek ev z) (h : Mp ek ev w b l) (hk : ∀ r w', Ext w w' → r = w.heap.size → Rg ek ev w' r b l → K (.pointer (some ⟨r, 0, none⟩)) w') :
    Rn P (fun x : Value => x) (Instr.range mt (.map (some b))) w K := by
  obtain ⟨r, w', hrun, he, hr, hR⟩ := range_run ht h
  exact ⟨_, w', hrun, hk r w' he hr hR⟩
theorem rn_next {ty : Nat} {K : Value → World → Prop} (h : Rg ek ev w r b l) (h0 : l = [] → K (.tuple #[.bool false]) w)
    (h1 : ∀ j k v w', l[j]? = some (k, v) → Chg (fun x => x = r) w w' → w'.heap.size = w.heap.size → Rg ek ev w' r b (l.eraseIdx j) → (Instr.entry (.pointer (some ⟨r, 0, none⟩))).run P w' = .ok (.tuple #[ek k, ev v]) w' → K (.tuple #[.bool true, ek k, ev v]) w') :
    Rn P (fun x : Value => x) (Instr.next (.pointer (some ⟨r, 0, none⟩)) false ty) w K := by
  rcases next_run (P := P) (ty := ty) h with ⟨hl, hrun⟩ | ⟨j, k, v, w', hj, hrun, hc, hs, hR, he⟩
  · exact ⟨_, w, hrun, h0 hl⟩
  · exact ⟨_, w', hrun, h1 j k v w' hj hc hs hR he⟩
theorem rnp_extract {α : Type} {enc : α → Value} {vs : Array Value} {i : Nat} {x : α} {K : α → Prop} (h : vs[i]? = some (enc x)) (hk : K x) : RnP P enc (Instr.extract (.tuple vs) i) K :=
  ⟨x, fun w => by simp [Instr.extract, h], hk⟩
end
end Go.Eng

/- The plain law of shares: what each split comes to, and the steps. -/
namespace Go.Proofs.Ytdoeegfcmbcbkaa.Ct
open Go Go.Eng Tr
set_option linter.unusedVariables false

/-- a share: a service, and a real or what is none -/
abbrev SH := ByteArray × Option Nat
def addS : List SH → ByteArray → Option Nat → List SH
  | [], n, x => [(n, oadd2 (some 0) x)]
  | p :: l, n, x => if p.1 = n then (n, oadd2 p.2 x) :: l else p :: addS l n x
theorem addS_hit {n : ByteArray} {x : Option Nat} : ∀ {ys : List SH} {k : Nat} (hk : k < ys.length), ys[k].1 = n → (∀ j (hj : j < k), (ys[j]'(by omega)).1 ≠ n) → addS ys n x = ys.set k (n, oadd2 ys[k].2 x)
  | p :: ys, 0, _, h, _ => by
    simp only [List.getElem_cons_zero] at h ⊢
    simp [addS, h]
  | p :: ys, k + 1, hk, h, hj => by
    have h0 := hj 0 (by omega)
    simp only [List.getElem_cons_zero, List.getElem_cons_succ] at h0 h ⊢
    have := addS_hit (x := x) (by simpa using hk) h (fun j hj' => by simpa using hj (j + 1) (by omega))
    simp [addS, h0, this]
theorem addS_miss {n : ByteArray} {x : Option Nat} : ∀ {ys : List SH}, (∀ p ∈ ys, p.1 ≠ n) → addS ys n x = ys ++ [(n, oadd2 (some 0) x)]
  | [], _ => rfl
  | p :: ys, h => by
    have h0 := h p (by simp)
    have := addS_miss (x := x) (ys := ys) fun q hq => h q (List.mem_cons_of_mem _ hq)
    simp [addS, h0, this]
theorem addS_keys {n : ByteArray} {x : Option Nat} : ∀ ys : List SH, (n ∈ ys.map (·.1) ∧ (addS ys n x).map (·.1) = ys.map (·.1)) ∨ (n ∉ ys.map (·.1) ∧ (addS ys n x).map (·.1) = ys.map (·.1) ++ [n])
  | [] => .inr ⟨by simp, rfl⟩
  | p :: ys => by
    unfold addS
    by_cases h : p.1 = n
    · rw [if_pos h]; exact .inl ⟨by simp [h], by simp [h]⟩
    · rw [if_neg h]
      rcases addS_keys (n := n) (x := x) ys with ⟨h1, h2⟩ | ⟨h1, h2⟩
      · exact .inl ⟨List.mem_cons_of_mem _ h1, by rw [List.map_cons, h2]; rfl⟩
      · refine .inr ⟨fun hm => ?_, by rw [List.map_cons, h2]; rfl⟩
        rw [List.map_cons] at hm
        rcases List.mem_cons.1 hm with e | hm
        · exact h e.symm
        · exact h1 hm
def wt (t : TTarget) : Option Nat := FloatKind.f64.format.div t.Weight 4636737291354636288
/-- what a target adds, the shares of splits being known -/
def mixS (x : Option Nat) (out : List SH) (zs : List SH) : List SH := zs.foldl (fun out s => addS out s.1 (omul2 x s.2)) out
def partS (f : ByteArray → List SH) (out : List SH) (t : TTarget) : List SH :=
  if t.Service = ⟨#[]⟩ then mixS (wt t) out (f t.Split) else addS out t.Service (wt t)
def sumS (f : ByteArray → List SH) (ts : List TTarget) : List SH := ts.foldl (partS f) []
theorem sumS_succ {f : ByteArray → List SH} {ts : List TTarget} {k : Nat} (h : k < ts.length) : sumS f (ts.take (k + 1)) = partS f (sumS f (ts.take k)) ts[k] := by
  unfold sumS; rw [List.take_add_one, List.getElem?_eq_getElem h, List.foldl_append]; rfl
theorem mixS_succ {x : Option Nat} {out zs : List SH} {k : Nat} (h : k < zs.length) : mixS x out (zs.take (k + 1)) = addS (mixS x out (zs.take k)) zs[k].1 (omul2 x zs[k].2) := by
  unfold mixS; rw [List.take_add_one, List.getElem?_eq_getElem h, List.foldl_append]; rfl
theorem sumS_congr {f g : ByteArray → List SH} {ts : List TTarget} (h : ∀ t ∈ ts, t.Service = ⟨#[]⟩ → f t.Split = g t.Split) : sumS f ts = sumS g ts := by
  unfold sumS
  generalize ([] : List SH) = out
  induction ts generalizing out with
  | nil => rfl
  | cons t ts ih =>
    have e : partS f out t = partS g out t := by
      unfold partS
      by_cases c : t.Service = ⟨#[]⟩
      · rw [if_pos c, if_pos c, h t (by simp) c]
      · rw [if_neg c, if_neg c]
    rw [List.foldl_cons, List.foldl_cons, e, ih (fun t ht => h t (by simp [ht]))]
/-- the shares of a split, by as many steps -/
def sh (l : List DRes) : Nat → ByteArray → List SH
  | 0, _ => []
  | k + 1, n => match splitOf l n with
    | none => []
    | some d => sumS (sh l k) d.targets
def shF (l : List DRes) (n : ByteArray) : List SH := sh l 9 n
section
variable {l : List DRes}
theorem kid_mem {n : ByteArray} {d : DRes} (hd' : splitOf l n = some d) {t : TTarget} (ht : t ∈ d.targets) (hs : t.Service = ⟨#[]⟩) : t.Split ∈ kids l n := by
  unfold kids; rw [hd']
  exact List.mem_map.2 ⟨t, List.mem_filter.2 ⟨ht, by simpa using hs⟩, rfl⟩
theorem kid_hd {n c : ByteArray} (h8 : hd l 8 n ≤ 8) (hc : c ∈ kids l n) : hd l 8 c < hd l 8 n := by
  have := hd_min l n
  have h1 : hd l 8 c ≤ maxl ((kids l n).map (hd l 8)) := le_maxl (List.mem_map.2 ⟨c, hc, rfl⟩)
  omega
theorem sh_stable : ∀ (j : Nat) (n : ByteArray), hd l 8 n ≤ 8 → hd l 8 n ≤ j → sh l j n = sh l (j + 1) n
  | 0, n, _, h => by have := (hd_bounds l 8 n).1; omega
  | j + 1, n, h8, h => by
    show (match splitOf l n with | none => [] | some d => sumS (sh l j) d.targets) = (match splitOf l n with | none => [] | some d => sumS (sh l (j + 1)) d.targets)
    cases hs : splitOf l n with
    | none => rfl
    | some d =>
      refine sumS_congr fun t ht hts => ?_
      have := kid_hd h8 (kid_mem hs ht hts)
      exact sh_stable j t.Split (by omega) (by omega)
theorem shF_eq {n : ByteArray} {d : DRes} (h8 : hd l 8 n ≤ 8) (hs : splitOf l n = some d) : shF l n = sumS (shF l) d.targets := by
  have : shF l n = sumS (sh l 8) d.targets := by
    show (match splitOf l n with | none => [] | some d => sumS (sh l 8) d.targets) = _
    rw [hs]
  rw [this]
  refine sumS_congr fun t ht hts => ?_
  have := kid_hd h8 (kid_mem hs ht hts)
  exact sh_stable 8 t.Split (by omega) (by omega)
theorem shF_none {n : ByteArray} (hs : splitOf l n = none) : shF l n = [] := by
  show (match splitOf l n with | none => [] | some d => sumS (sh l 8) d.targets) = _
  rw [hs]
/-- a list of shares whose services stand, each once -/
structure OkS (l : List DRes) (ys : List SH) : Prop where
  nodup : (ys.map (·.1)).Nodup
  has : ∀ p ∈ ys, Ct.has l 1 p.1 = true
theorem OkS.nil : OkS l [] := ⟨List.nodup_nil, fun p hp => by cases hp⟩
theorem sub_len {α : Type} [DecidableEq α] : ∀ {xs ys : List α}, xs.Nodup → (∀ x ∈ xs, x ∈ ys) → xs.length ≤ ys.length
  | [], _, _, _ => Nat.zero_le _
  | x :: xs, ys, hn, h => by
    have hx := h x (by simp)
    have h1 := List.length_erase_of_mem hx
    have h2 : 0 < ys.length := List.length_pos_of_mem hx
    simp only [List.nodup_cons] at hn
    have := sub_len (ys := ys.erase x) hn.2 fun y hy => (List.mem_erase_of_ne (fun e => hn.1 (by rw [← e]; exact hy))).2 (h y (by simp [hy]))
    simp only [List.length_cons]; omega
theorem OkS.len {ys : List SH} (h : OkS l ys) : ys.length ≤ l.length := by
  have := sub_len (ys := l.map (·.name)) h.nodup fun n hn => by
    obtain ⟨p, hp, rfl⟩ := List.mem_map.1 hn
    have h1 := h.has p hp
    rw [has_any] at h1
    obtain ⟨d, hd, h2⟩ := List.any_eq_true.1 h1
    simp only [Bool.and_eq_true, decide_eq_true_eq] at h2
    exact List.mem_map.2 ⟨d, hd, h2.2⟩
  simpa using this
theorem OkS.add {ys : List SH} (h : OkS l ys) {n : ByteArray} (hn : Ct.has l 1 n = true) (x : Option Nat) : OkS l (addS ys n x) := by
  have key : (addS ys n x).map (·.1) = ys.map (·.1) → OkS l (addS ys n x) := fun hk => ⟨by rw [hk]; exact h.nodup, fun p hp => by
    have : p.1 ∈ (addS ys n x).map (·.1) := List.mem_map.2 ⟨p, hp, rfl⟩
    rw [hk] at this
    obtain ⟨q, hq, e⟩ := List.mem_map.1 this
    rw [← e]; exact h.has q hq⟩
  rcases addS_keys (n := n) (x := x) ys with ⟨_, hk⟩ | ⟨hm, hk⟩
  · exact key hk
  · refine ⟨?_, fun p hp => ?_⟩
    · rw [hk, List.nodup_append]
      refine ⟨h.nodup, by simp, fun a ha b hb => ?_⟩
      simp only [List.mem_singleton] at hb
      subst hb
      exact fun e => hm (e ▸ ha)
    · have : p.1 ∈ (addS ys n x).map (·.1) := List.mem_map.2 ⟨p, hp, rfl⟩
      rw [hk] at this
      rcases List.mem_append.1 this with h3 | h3
      · obtain ⟨q, hq, e⟩ := List.mem_map.1 h3
        rw [← e]; exact h.has q hq
      · simp only [List.mem_singleton] at h3
        rw [h3]; exact hn
theorem OkS.mix {x : Option Nat} : ∀ {zs out : List SH}, OkS l out → (∀ p ∈ zs, Ct.has l 1 p.1 = true) → OkS l (mixS x out zs)
  | [], _, h, _ => h
  | z :: zs, out, h, hz => OkS.mix (zs := zs) (h.add (hz z (by simp)) _) fun p hp => hz p (by simp [hp])
theorem OkS.sum {f : ByteArray → List SH} {ts : List TTarget} (hs : ∀ t ∈ ts, t.Service ≠ ⟨#[]⟩ → Ct.has l 1 t.Service = true) (hf : ∀ t ∈ ts, t.Service = ⟨#[]⟩ → OkS l (f t.Split)) : OkS l (sumS f ts) := by
  unfold sumS
  have : ∀ out, OkS l out → OkS l (ts.foldl (partS f) out) := by
    induction ts with
    | nil => exact fun _ h => h
    | cons t ts ih =>
      intro out h
      rw [List.foldl_cons]
      refine ih (fun t ht => hs t (by simp [ht])) (fun t ht => hf t (by simp [ht])) _ ?_
      unfold partS
      by_cases c : t.Service = ⟨#[]⟩
      · rw [if_pos c]; exact h.mix (hf t (by simp) c).has
      · rw [if_neg c]; exact h.add (hs t (by simp) c) _
  exact this [] OkS.nil
/-- the targets of all splits stand -/
def Stand (l : List DRes) : Prop := ∀ d ∈ l, d.kind = 2 → ∀ t ∈ d.targets, t.Service ≠ ⟨#[]⟩ → Ct.has l 1 t.Service = true
theorem splitOf_mem {n : ByteArray} {d : DRes} (h : splitOf l n = some d) : d ∈ l ∧ d.kind = 2 ∧ d.name = n := by
  have h1 := List.find?_some h
  simp only [Bool.and_eq_true, decide_eq_true_eq] at h1
  exact ⟨List.mem_of_find?_eq_some h, h1⟩
theorem sh_ok (hS : Stand l) : ∀ (k : Nat) (n : ByteArray), OkS l (sh l k n)
  | 0, _ => OkS.nil
  | k + 1, n => by
    show OkS l (match splitOf l n with | none => [] | some d => sumS (sh l k) d.targets)
    cases hs : splitOf l n with
    | none => exact OkS.nil
    | some d =>
      obtain ⟨h1, h2, h3⟩ := splitOf_mem hs
      exact OkS.sum (hS d h1 h2) fun t _ _ => sh_ok hS k t.Split
theorem sumS_ok (hS : Stand l) {d : DRes} (hd' : d ∈ l) (h2 : d.kind = 2) (k : Nat) : OkS l (sumS (shF l) (d.targets.take k)) :=
  OkS.sum (fun t ht => hS d hd' h2 t (List.mem_of_mem_take ht)) fun t _ _ => sh_ok hS 9 t.Split
theorem stand_of (h : ∀ i, i < l.length → dangAt l i = false) : Stand l := fun d hd' hk t ht hs => by
  obtain ⟨i, hi, rfl⟩ := List.mem_iff_getElem.1 hd'
  have h1 := h i hi
  rw [dangAt_eq hi] at h1
  have h2 : dang (has l) l[i] < 0 := by simpa using h1
  unfold dang at h2
  simp only [hk] at h2
  obtain ⟨j, hj, rfl⟩ := List.mem_iff_getElem.1 ht
  by_cases hb : badT (has l) l[i].targets j = true
  · exfalso
    have hne : ¬ fst? (badT (has l) l[i].targets) l[i].targets.length < 0 := fun hlt => by
      have := fst?_neg hlt j hj
      rw [this] at hb; cases hb
    simp [line?, hne] at h2
    omega
  · have hb' : badT (has l) l[i].targets j = false := by simpa using hb
    rw [badT_eq hj, if_neg hs] at hb'
    simpa using hb'
end

/-! ### Steps -/
def one64 : Nat := 4607182418800017408
def stp (st : List SH × Option Nat) (y : SH) : List SH × Option Nat := if oGt y.2 0 = true then (st.1 ++ [(y.1, oadd2 st.2 y.2)], oadd2 st.2 y.2) else st
def rawS (ys : List SH) : List SH × Option Nat := ys.foldl stp ([], some 0)
def lastOne (ys : List SH) : List SH := ys.modify (ys.length - 1) fun y => (y.1, some one64)
def stepsS (ys : List SH) : List SH := lastOne (rawS ys).1
theorem rawS_succ {ys : List SH} {k : Nat} (h : k < ys.length) : rawS (ys.take (k + 1)) = stp (rawS (ys.take k)) ys[k] := by
  unfold rawS; rw [List.take_add_one, List.getElem?_eq_getElem h, List.foldl_append]; rfl
theorem rawS_len : ∀ (ys : List SH) (k : Nat), k ≤ ys.length → (rawS (ys.take k)).1.length ≤ k
  | ys, 0, _ => by simp [rawS]
  | ys, k + 1, h => by
    have := rawS_len ys k (by omega)
    rw [rawS_succ (by omega)]
    unfold stp
    split
    · simp; omega
    · omega
theorem lastOne_snoc (xs : List SH) (y : SH) : lastOne (xs ++ [y]) = xs ++ [(y.1, some one64)] := by
  unfold lastOne
  apply List.ext_getElem (by simp)
  intro i h1 h2
  rw [List.getElem_modify]
  simp only [List.length_append, List.length_cons, List.length_nil, Nat.add_sub_cancel] at *
  by_cases hi : i < xs.length
  · rw [if_neg (by omega), List.getElem_append_left hi, List.getElem_append_left hi]
  · have : i = xs.length := by simp at h1; omega
    subst this; simp
end Go.Proofs.Ytdoeegfcmbcbkaa.Ct

/- Contracts: shares compared, added to, and their steps. -/
namespace Go.Proofs.Ytdoeegfcmbcbkaa.Ct
open Go Go.Eng Tr
set_option linter.unusedVariables false
set_option maxRecDepth 100000

/-- what shares in memory say -/
structure ShD (xs : List TShare) (ys : List SH) : Prop where
  len : xs.length = ys.length
  el : ∀ k (h : k < xs.length) (h' : k < ys.length), xs[k].Service = ys[k].1 ∧ Fl ys[k].2 xs[k].Upto
theorem ShD.nil : ShD [] [] := ⟨rfl, fun k h => absurd h (Nat.not_lt_zero _)⟩
theorem ShD.snoc {xs : List TShare} {ys : List SH} (h : ShD xs ys) {x : TShare} {y : SH} (h1 : x.Service = y.1) (h2 : Fl y.2 x.Upto) : ShD (xs ++ [x]) (ys ++ [y]) := by
  have hl := h.len
  refine ⟨by simp [hl], fun k a b => ?_⟩
  by_cases hk : k < xs.length
  · rw [List.getElem_append_left hk, List.getElem_append_left (by omega)]; exact h.el k hk (by omega)
  · have : k = xs.length := by simp at a; omega
    subst this
    simp only [List.getElem_append_right (Nat.le_refl _), Nat.sub_self, List.getElem_cons_zero]
    simp only [hl, List.getElem_append_right (Nat.le_refl _), Nat.sub_self, List.getElem_cons_zero]
    exact ⟨h1, h2⟩
theorem ShD.set {xs : List TShare} {ys : List SH} (h : ShD xs ys) {k : Nat} {x : TShare} {y : SH} (h1 : x.Service = y.1) (h2 : Fl y.2 x.Upto) : ShD (xs.set k x) (ys.set k y) := by
  refine ⟨by simp [h.len], fun j a b => ?_⟩
  rw [List.getElem_set, List.getElem_set]
  by_cases e : k = j
  · rw [if_pos e, if_pos e]; exact ⟨h1, h2⟩
  · rw [if_neg e, if_neg e]; exact h.el j (by simpa using a) (by simpa using b)
/-- a list of shares as it lies -/
def saysS (xs : List TShare) : List SH := xs.map fun x => (x.Service, some x.Upto)
theorem ShD.of (xs : List TShare) : ShD xs (saysS xs) := ⟨by simp [saysS], fun k a b => by simp [saysS, Fl]⟩
section
variable {w : World} {F G : Nat → Prop} {s s' : Sl} {xs xs' : List TShare} {ys : List SH}
theorem alikeF_ok {x y : Nat} {o : Option Nat} (hx : Fl o x) (hy : Fl o y) : Ans Value.bool 61 #[.float .f64 x, .float .f64 y] w true := by
  refine c61 ?_
  unfold f61
  refine Jn.dup ?_
  refine rx_bits (rx_bits ?_)
  by_cases c : (x : Int) = (y : Int)
  · rw [if_pos c]; exact ⟨Ext.refl _, rfl⟩
  · rw [if_neg c]
    cases o with
    | some v => cases hx; cases hy; exact absurd rfl c
    | none =>
      have h1 : fNe x x = true := by simp [fNe, order_nan hx]
      have h2 : fNe y y = true := by simp [fNe, order_nan hy]
      rw [if_pos h1, h2]
      exact ⟨Ext.refl _, rfl⟩
theorem sharesF_ok (h0 : Rd TShare.cells 2 F w s xs) (h1 : Rd TShare.cells 2 G w s' xs') (d0 : ShD xs ys) (d1 : ShD xs' ys) : Ans Value.bool 20 #[s.v, s'.v] w true := by
  refine c20 ?_
  unfold f20
  have hl0 := d0.len; have hl1 := d1.len
  rw [if_neg (by rw [h0.len, h1.len, hl0, hl1]; simp)]
  refine Lp.mk (fun i w' => ∃ k : Nat, i = k ∧ k ≤ xs.length ∧ Ext w w') (fun i => xs.length - i.toNat) ⟨0, rfl, Nat.zero_le _, Ext.refl _⟩ ?_
  rintro i w' K ⟨k, rfl, hk, hE⟩ hK
  by_cases hlt : k < xs.length
  · rw [if_pos (by rw [h0.len]; omega)]
    have k0 := d0.el k hlt (by omega); have k1 := d1.el k (by omega) (by omega)
    refine Jn.dup ?_
    refine Dr.mk fun w1 hD _ => ?_
    replace hE := hE.trans hD
    refine rnp_idx sl23 (h0.ext hE) hlt rfl fun p _ hp => ?_
    refine rnl_at one9 hp rfl ?_
    refine rnp_idx sl23 (h1.ext hE) (k := k) (by omega) rfl fun q _ hq => ?_
    refine rnl_at one9 hq rfl ?_
    rw [if_neg (by rw [k0.1, k1.1]; simp)]
    refine rnp_idx sl23 (h0.ext hE) hlt rfl fun p _ hp => ?_
    refine rnl_at one30 hp rfl ?_
    refine rnp_idx sl23 (h1.ext hE) (k := k) (by omega) rfl fun q _ hq => ?_
    refine rnl_at one30 hq rfl ?_
    refine (alikeF_ok k0.2 k1.2).mono ?_
    rintro _ w2 ⟨hE2, rfl⟩
    rw [if_neg (by simp), h0.wr hlt]
    exact hK _ _ ⟨k + 1, rfl, hlt, hE.trans hE2⟩ (by omega)
  · rw [if_neg (by rw [h0.len]; omega)]
    exact ⟨hE, rfl⟩

/-! ### Added to -/
def atS (xs : List TShare) (n : ByteArray) (i : Nat) : Bool := match xs[i]? with
  | some x => decide (x.Service = n)
  | none => false
theorem atS_eq {n : ByteArray} {i : Nat} (h : i < xs.length) : atS xs n i = decide (xs[i].Service = n) := by simp [atS, h]
theorem isS_ok {x : TShare} {n : ByteArray} {b : Nat} (hb : Blk w b 9 [.string n]) : Ans Value.bool 125 #[x.v, Ptr ⟨b, 0, none⟩] w (decide (x.Service = n)) := by
  refine c125 ?_
  unfold f125
  refine New.mk fun b2 w1 e1 h2 _ _ => ?_
  refine rn_blk one9 h2 rfl rfl ?_
  refine rn_blk (x := n) one9 (hb.ext e1) rfl rfl ?_
  exact ⟨e1, rfl⟩
theorem index124_ok (h : Rd TShare.cells 2 F w s xs) {n : ByteArray} {b : Nat} (hb : Blk w b 9 [.string n]) : Ans (Value.int .i64) 124 #[s.v, .func (.func 125) #[] #[Ptr ⟨b, 0, none⟩]] w (fst? (atS xs n) xs.length) := by
  refine c124 ?_
  unfold f124
  refine Lp.mk (fun (i : Int) w' => ∃ k : Nat, i = k ∧ k ≤ xs.length ∧ Ext w w' ∧ ∀ j, j < k → atS xs n j = false) (fun i => xs.length - i.toNat) ⟨0, rfl, Nat.zero_le _, Ext.refl _, fun j hj => absurd hj (Nat.not_lt_zero _)⟩ ?_
  rintro i w1 K ⟨k, rfl, hk, hE, hall⟩ hK
  by_cases hlt : k < xs.length
  · rw [if_pos (by rw [h.len]; omega)]
    refine rnp_idx sl23 (h.ext hE) hlt rfl fun p _ hp => ?_
    refine rn_ldN (x := xs[k]) many32 hp rfl rfl ?_
    refine ⟨125, #[], #[Ptr ⟨b, 0, none⟩], rfl, fun vs w => enters Try.func125 rfl rfl vs w, ?_⟩
    refine Cal.mono (isS_ok (x := xs[k]) (hb.ext hE)) ?_
    rintro _ w2 ⟨e2, rfl⟩
    have ha := atS_eq (n := n) hlt
    by_cases c : xs[k].Service = n
    · exact iteT (by simpa using c) ⟨hE.trans e2, (fst?_some hlt (by rw [ha]; simpa using c) hall).symm⟩
    · refine iteF (by simpa using c) ?_
      rw [h.wr hlt]; exact hK _ _ ⟨k + 1, rfl, hlt, hE.trans e2, all_succ hall (by rw [ha]; simpa using c)⟩ (by omega)
  · rw [if_neg (by rw [h.len]; omega)]
    exact ⟨hE, (fst?_none fun j hj => hall j (by omega)).symm⟩
/-- first place of a name -/
theorem atS_cases (xs : List TShare) (n : ByteArray) : (fst? (atS xs n) xs.length = -1 ∧ ∀ j, j < xs.length → atS xs n j = false) ∨ ∃ k : Nat, fst? (atS xs n) xs.length = k ∧ k < xs.length ∧ atS xs n k = true ∧ ∀ j, j < k → atS xs n j = false := by
  by_cases h : ∃ k, k < xs.length ∧ atS xs n k = true
  · right
    obtain ⟨k, ⟨hk, hp⟩, hmin⟩ := least h
    refine ⟨k, fst?_some hk hp (fun j hj => ?_), hk, hp, fun j hj => ?_⟩ <;>
    · cases c : atS xs n j with
      | false => rfl
      | true => have := hmin j ⟨by omega, c⟩; omega
  · left
    have : ∀ j, j < xs.length → atS xs n j = false := fun j hj => by
      cases c : atS xs n j with
      | false => rfl
      | true => exact absurd ⟨j, hj, c⟩ h
    exact ⟨fst?_none this, this⟩
theorem addS_at (d : ShD xs ys) {n : ByteArray} {x : Option Nat} {k : Nat} (hk : k < xs.length) (hp : atS xs n k = true) (hall : ∀ j, j < k → atS xs n j = false) (hk' : k < ys.length) : addS ys n x = ys.set k (n, oadd2 ys[k].2 x) ∧ ys[k].1 = n := by
  have hl := d.len
  have e : ∀ j (hj : j < xs.length), ys[j].1 = xs[j].Service := fun j hj => (d.el j hj (by omega)).1.symm
  have h0 : ys[k].1 = n := by rw [e k hk]; rw [atS_eq hk] at hp; simpa using hp
  refine ⟨addS_hit hk' h0 fun j hj => ?_, h0⟩
  rw [e j (by omega)]
  have := hall j hj
  rw [atS_eq (by omega)] at this; simpa using this
theorem addS_no (d : ShD xs ys) {n : ByteArray} {x : Option Nat} (hall : ∀ j, j < xs.length → atS xs n j = false) : addS ys n x = ys ++ [(n, oadd2 (some 0) x)] := addS_miss fun p hp => by
  obtain ⟨j, hj, rfl⟩ := List.mem_iff_getElem.1 hp
  have hl := d.len
  have := hall j (by omega)
  rw [atS_eq (by omega), (d.el j (by omega) hj).1] at this; simpa using this
variable {B : Nat} {n : ByteArray} {x : Nat} {p : Option Nat}
/-- what an addition to shares of our own does -/
def Adds (B : Nat) (w : World) (s : Sl) (ys : List SH) (s' : Sl) (w' : World) : Prop :=
  Chg (own? s) w w' ∧ (∀ b, own? s' b → own? s b ∨ w.heap.size ≤ b) ∧ ∃ xs', Own TShare.cells 2 32 B w' s' xs' ∧ ShD xs' ys
theorem add_ok (hO : Own TShare.cells 2 32 B w s xs) (d : ShD xs ys) (hB : B ≤ w.heap.size) (hp : Fl p x) (hbytes : (ys.length + 1) * 24 ≤ 140737488355328) :
    Cal PP Sl.v 100 #[s.v, .string n, .float .f64 x] w (Adds B w s (addS ys n p)) := by
  refine c100 ?_
  unfold f100
  have hl := d.len
  refine New.mk fun b4 w1 e1 h4 n4 s4 => ?_
  refine (index124_ok ((hO.ext e1).rd (F := fun _ => True) (fun _ _ => trivial)) h4).mono ?_
  rintro _ w2 ⟨e2, rfl⟩
  replace h4 := h4.ext e2
  have E := e1.trans e2
  have hO2 := hO.ext E
  have g2 := E.size
  refine ⟨fun (y : Sl × Int) w' => ∃ (k : Nat) (xs' : List TShare) (ys' : List SH) (hk : k < ys'.length), y.2 = k ∧ Chg (own? s) w w' ∧ (∀ b, own? y.1 b → own? s b ∨ w.heap.size ≤ b) ∧ Own TShare.cells 2 32 B w' y.1 xs' ∧ ShD xs' ys' ∧
      addS ys n p = ys'.set k (n, oadd2 ys'[k].2 p) ∧ ys'[k].1 = n, ?_, ?_⟩
  · rcases atS_cases xs n with ⟨h0, hall⟩ | ⟨k, h0, hk, hpk, hall⟩
    · refine iteT (by rw [h0]; decide) ?_
      refine rn_blk (x := n) one9 h4 rfl rfl ?_
      refine New.mk fun b18 w3 e3 h18 n18 s18 => ?_
      refine rn_app1 (x := (⟨n, 0⟩ : TShare)) el23 (hO2.ext e3) h18 rfl rfl (oc_share _) (by rw [hl]; exact hbytes) (by decide) (by have := e3.size; omega) fun s' w4 O4 c4 n4' => ?_
      refine ⟨ys.length, xs ++ [⟨n, 0⟩], ys ++ [(n, some 0)], by simp, by simp only [hO.len, hl], ((E.trans e3).chg _).trans c4, fun b hb => ?_, O4, d.snoc (x := ⟨n, 0⟩) (y := (n, some 0)) rfl rfl, ?_, by simp⟩
      · rcases n4' b hb with h | h
        · exact .inl h
        · right; have := e3.size; omega
      · rw [addS_no d hall]; simp
    · refine iteF (by rw [h0]; omega) ?_
      obtain ⟨h5, h6⟩ := addS_at d (x := p) hk hpk hall (by omega)
      exact ⟨k, xs, ys, by omega, h0, E.chg _, fun b hb => .inl hb, hO2, d, h5, h6⟩
  rintro ⟨s', _⟩ w5 ⟨k, xs', ys', hk, rfl, c5, n5, O5, d5, h5, h6⟩
  dsimp only at n5 O5 ⊢
  have hl5 := d5.len
  refine rnp_idx sl23 (O5.rd (F := fun _ => True) (fun _ _ => trivial)) (k := k) (by omega) rfl fun q _ hq => ?_
  refine rn_at one30 hq rfl ?_
  refine rn_add2 (d5.el k (by omega) hk).2 hp fun v w6 hv e6 _ => ?_
  refine own_setN (f := 1) (vs := [.float .f64 v]) (x' := (⟨n, v⟩ : TShare)) sl23 (O5.ext e6) (k := k) (by omega) rfl (by simp) sz30 rfl (by simp [Value.oneCell']) ?_ fun w7 c7 O7 s7 => ?_
  · rw [show n = xs'[k].Service by rw [(d5.el k (by omega) hk).1, h6]]; rfl
  · refine ⟨(c5.thenE e6).then c7 fun b hb ho => ?_, n5, _, O7, ?_⟩
    · rcases n5 b ho with h | h
      · exact h
      · omega
    · rw [h5]; exact d5.set rfl hv
theorem refAdd_ok (hO : Own TShare.cells 2 32 B w s xs) (d : ShD xs ys) (hB : B ≤ w.heap.size) (hp : Fl p x) (hbytes : (ys.length + 1) * 24 ≤ 140737488355328) :
    Cal PP Sl.v 129 #[s.v, .string n, .float .f64 x] w (Adds B w s (addS ys n p)) := by
  refine c129 ?_
  unfold f129
  have hl := d.len
  have hR : ∀ {w'}, Ext w w' → Rd TShare.cells 2 (fun _ => True) w' s xs := fun e => (hO.ext e).rd (fun _ _ => trivial)
  refine Lp.mk (fun (i : Int) w' => ∃ k : Nat, i = k ∧ k ≤ xs.length ∧ w' = w ∧ ∀ j, j < k → atS xs n j = false) (fun i => xs.length - i.toNat) ⟨0, rfl, Nat.zero_le _, rfl, fun j hj => absurd hj (Nat.not_lt_zero _)⟩ ?_
  rintro i _ K ⟨k, rfl, hk, rfl, hall⟩ hK
  by_cases hlt : k < xs.length
  · refine iteT (by rw [hO.len]; omega) ?_
    refine rnp_idx sl23 (hR (Ext.refl _)) hlt rfl fun q _ hq => ?_
    refine rn_at one9 hq rfl ?_
    have ha := atS_eq (n := n) hlt
    by_cases c : xs[k].Service = n
    · refine iteT c ?_
      obtain ⟨h5, h6⟩ := addS_at d (x := p) hlt (by rw [ha]; simpa using c) hall (by omega)
      refine rnp_idx sl23 (hR (Ext.refl _)) hlt rfl fun q _ hq => ?_
      refine rn_at one30 hq rfl ?_
      refine rn_add2 (d.el k hlt (by omega)).2 hp fun v w6 hv e6 _ => ?_
      refine own_setN (f := 1) (vs := [.float .f64 v]) (x' := (⟨n, v⟩ : TShare)) sl23 (hO.ext e6) hlt rfl (by simp) sz30 rfl (by simp [Value.oneCell']) ?_ fun w7 c7 O7 s7 => ?_
      · rw [← c]; rfl
      · exact ⟨(e6.chg _).trans c7, fun b hb => .inl hb, _, O7, by rw [h5]; exact d.set rfl hv⟩
    · refine iteF c ?_
      rw [(hR (Ext.refl _)).wr hlt]
      exact hK _ _ ⟨k + 1, rfl, hlt, rfl, all_succ hall (by rw [ha]; simpa using c)⟩ (by omega)
  · refine iteF (by rw [hO.len]; omega) ?_
    refine rn_add2 (o := some 0) rfl hp fun v w2 hv e2 _ => ?_
    refine New.mk fun b18 w3 e3 h18 n18 s18 => ?_
    have E := e2.trans e3
    refine rn_app1 (x := (⟨n, v⟩ : TShare)) el23 (hO.ext E) h18 rfl rfl (oc_share _) (by rw [hl]; exact hbytes) (by decide) (by have := E.size; omega) fun s' w4 O4 c4 n4' => ?_
    refine ⟨(E.chg _).trans c4, fun b hb => ?_, _, O4, ?_⟩
    · rcases n4' b hb with h | h
      · exact .inl h
      · right; have := E.size; omega
    · rw [addS_no d fun j hj => hall j (by omega)]; exact d.snoc rfl hv
end
end Go.Proofs.Ytdoeegfcmbcbkaa.Ct

/- Contracts: steps of shares, by the program and by the document's package. -/
namespace Go.Proofs.Ytdoeegfcmbcbkaa.Ct
open Go Go.Eng Tr
set_option linter.unusedVariables false
set_option maxRecDepth 100000

section
variable {w : World} {F : Nat → Prop} {s : Sl} {xs : List TShare} {ys : List SH}
theorem lastOne_len (ys : List SH) : (lastOne ys).length = ys.length := by simp [lastOne]
theorem ShD.last {xs : List TShare} {ys : List SH} (h : ShD xs ys) (h0 : 0 < xs.length) : ShD (xs.set (xs.length - 1) ⟨(xs[xs.length - 1]'(by omega)).Service, one64⟩) (lastOne ys) := by
  have hl := h.len
  have e : lastOne ys = ys.set (xs.length - 1) ((ys[xs.length - 1]'(by omega)).1, some one64) := by
    unfold lastOne
    apply List.ext_getElem (by simp)
    intro i h1 h2
    rw [List.getElem_modify, List.getElem_set]
    by_cases hi : xs.length - 1 = i
    · subst hi; rw [if_pos (by omega), if_pos rfl]
    · rw [if_neg (by omega), if_neg hi]
  rw [e]
  exact h.set (h.el _ (by omega) (by omega)).1 rfl
theorem stp_yes {st : List SH × Option Nat} {y : SH} (h : oGt y.2 0 = true) : stp st y = (st.1 ++ [(y.1, oadd2 st.2 y.2)], oadd2 st.2 y.2) := by unfold stp; rw [if_pos h]
theorem stp_no {st : List SH × Option Nat} {y : SH} (h : ¬ oGt y.2 0 = true) : stp st y = st := by unfold stp; rw [if_neg h]
theorem steps_ok (h : Rd TShare.cells 2 F w s xs) (d : ShD xs ys) (hbytes : (ys.length + 1) * 24 ≤ 140737488355328) :
    Cal PP Sl.v 19 #[s.v] w fun s' w' => Ext w w' ∧ ∃ xs', Own TShare.cells 2 32 w.heap.size w' s' xs' ∧ ShD xs' (stepsS ys) := by
  refine c19 ?_
  unfold f19
  have hl := d.len
  refine Lp.mk (fun (y : Sl × Nat × Int) w' => ∃ (k : Nat) (xs' : List TShare), y.2.2 = k ∧ k ≤ xs.length ∧ Ext w w' ∧ Own TShare.cells 2 32 w.heap.size w' y.1 xs' ∧ ShD xs' (rawS (ys.take k)).1 ∧ Fl (rawS (ys.take k)).2 y.2.1) (fun y => xs.length - y.2.2.toNat)
    ⟨0, [], rfl, Nat.zero_le _, Ext.refl _, Own.nil_ _ _, ShD.nil, rfl⟩ ?_
  rintro ⟨z, u, _⟩ w1 K ⟨k, xs', rfl, hk, hE, hO, hd, hu⟩ hK
  dsimp only at hO hd hu ⊢
  by_cases hlt : k < xs.length
  · rw [if_pos (by rw [h.len]; omega)]
    have hky : k < ys.length := by omega
    have hel := d.el k hlt hky
    refine ⟨fun (y : Sl × Nat) w' => ∃ xs', Ext w w' ∧ Own TShare.cells 2 32 w.heap.size w' y.1 xs' ∧ ShD xs' (rawS (ys.take (k + 1))).1 ∧ Fl (rawS (ys.take (k + 1))).2 y.2, ?_, ?_⟩
    · rw [rawS_succ hky]
      refine rnp_idx sl23 (h.ext hE) hlt rfl fun p _ hp => ?_
      refine rn_ldN (x := xs[k]) many32 hp rfl rfl ?_
      refine New.var (TShare.cells xs[k]) sz32 rfl (oc_share _) rfl fun b6 w2 e2 h6 _ => ?_
      replace hE := hE.trans e2; replace hO := hO.ext e2
      refine rn_blk (x := xs[k].Upto) one30 h6 rfl rfl ?_
      rw [hel.2.gt]
      by_cases c : oGt ys[k].2 0 = true
      · refine iteT c ?_
        rw [stp_yes c]
        refine rn_blk (x := xs[k].Upto) one30 h6 rfl rfl ?_
        refine rn_add2 hu hel.2 fun v w3 hv e3 _ => ?_
        replace hE := hE.trans e3; replace hO := hO.ext e3; replace h6 := h6.ext e3
        refine rn_blk (x := xs[k].Service) one9 h6 rfl rfl ?_
        refine New.mk fun b25 w4 e4 h25 _ _ => ?_
        replace hE := hE.trans e4; replace hO := hO.ext e4
        have hlen : xs'.length ≤ k := by rw [hd.len]; exact rawS_len ys k (by omega)
        refine rn_app1 (x := (⟨xs[k].Service, v⟩ : TShare)) el23 hO h25 rfl rfl (oc_share _) (by omega) (by decide) hE.size fun s' w5 O5 c5 n5 => ?_
        exact ⟨_, hE.then c5 (fun b hb => (hO.ge hb).1), O5, hd.snoc hel.1 hv, hv⟩
      · refine iteF c ?_
        rw [stp_no c]
        exact ⟨xs', hE, hO, hd, hu⟩
    · rintro ⟨z, u⟩ w2 ⟨xs', hE, hO, hd, hu⟩
      dsimp only at hO hu ⊢
      rw [h.wr hlt]
      exact hK _ _ ⟨k + 1, xs', rfl, hlt, hE, hO, hd, hu⟩ (by dsimp only; omega)
  · rw [if_neg (by rw [h.len]; omega)]
    obtain rfl : k = xs.length := by omega
    rw [hl, List.take_length] at hd
    refine ⟨fun _ w' => Ext w w' ∧ ∃ xs', Own TShare.cells 2 32 w.heap.size w' z xs' ∧ ShD xs' (stepsS ys), ?_, fun _ w' h => h⟩
    by_cases c : 0 < xs'.length
    · refine iteT (by rw [hO.len]; omega) ?_
      have hlim := (hO.rd (F := fun _ => True) (fun _ _ => trivial)).lim
      have hcap := (hO.rd (F := fun _ => True) (fun _ _ => trivial)).cap
      have hn := hO.len
      have ei : IntKind.i64.wrap ((z.n : Int) - 1) = ((xs'.length - 1 : Nat) : Int) := by
        unfold maxLen at hlim
        rw [hn, wrap_in ⟨by omega, by omega⟩]; omega
      rw [ei]
      refine own_setN (f := 1) (vs := [.float .f64 one64]) (x' := (⟨(xs'[xs'.length - 1]'(by omega)).Service, one64⟩ : TShare)) sl23 hO (k := xs'.length - 1) (by omega) rfl (by simp) sz30 rfl (by simp [Value.oneCell']) rfl fun w2 c2 O2 s2 => ?_
      exact ⟨hE.then c2 (fun b hb => (hO.ge hb).1), _, O2, hd.last c⟩
    · refine iteF (by rw [hO.len]; omega) ?_
      have h0 : xs' = [] := List.eq_nil_of_length_eq_zero (by omega)
      have h1 : (rawS ys).1 = [] := List.eq_nil_of_length_eq_zero (by rw [← hd.len]; omega)
      exact ⟨hE, xs', hO, by unfold stepsS; rw [h1, h0]; exact ShD.nil⟩

/-! ### by the document's package -/
def posAt (ys : List SH) (k : Nat) : Bool := match ys[k]? with
  | some y => oGt y.2 0
  | none => false
theorem posAt_eq {k : Nat} (h : k < ys.length) : posAt ys k = oGt ys[k].2 0 := by simp [posAt, h]
def lst (ys : List SH) : Nat → Int
  | 0 => -1
  | k + 1 => if posAt ys k = true then (k : Int) else lst ys k
theorem lst_lt : ∀ k, lst ys k < k
  | 0 => by simp [lst]
  | k + 1 => by
    have := lst_lt k
    unfold lst; split <;> omega
theorem lst_ge {j : Nat} (hp : posAt ys j = true) : ∀ k, j < k → (j : Int) ≤ lst ys k
  | 0, h => absurd h (Nat.not_lt_zero _)
  | k + 1, h => by
    unfold lst
    by_cases c : posAt ys k = true
    · rw [if_pos c]; omega
    · rw [if_neg c]
      have : j ≠ k := fun e => c (e ▸ hp)
      exact lst_ge hp k (by omega)
theorem lst_pos {j : Nat} : ∀ k, lst ys k = j → posAt ys j = true
  | 0, h => by simp [lst] at h
  | k + 1, h => by
    unfold lst at h
    by_cases c : posAt ys k = true
    · rw [if_pos c] at h
      have : k = j := by omega
      exact this ▸ c
    · rw [if_neg c] at h; exact lst_pos k h
/-- which one gets the one -/
def cutS (m : Int) (k : Nat) (ys : List SH) : List SH := if m < (k : Int) then lastOne ys else ys
theorem refSteps_ok (h : Rd TShare.cells 2 F w s xs) (d : ShD xs ys) (hbytes : (ys.length + 1) * 24 ≤ 140737488355328) :
    Cal PP Sl.v 22 #[s.v] w fun s' w' => Ext w w' ∧ ∃ xs', Own TShare.cells 2 32 w.heap.size w' s' xs' ∧ ShD xs' (stepsS ys) := by
  refine c22 ?_
  unfold f22
  have hl := d.len
  refine Lp.mk (fun (y : Int × Int) w' => ∃ k : Nat, y.2 = k ∧ k ≤ xs.length ∧ w' = w ∧ y.1 = lst ys k) (fun y => xs.length - y.2.toNat) ⟨0, rfl, Nat.zero_le _, rfl, rfl⟩ ?_
  rintro ⟨_, _⟩ w0 K ⟨k, rfl, hk, hw0, rfl⟩ hK
  dsimp only at *
  subst hw0
  by_cases hlt : k < xs.length
  · rw [if_pos (by rw [h.len]; omega)]
    have hky : k < ys.length := by omega
    have hel := d.el k hlt hky
    refine ⟨fun y w' => w' = w0 ∧ y = lst ys (k + 1), ?_, ?_⟩
    · refine rnp_idx sl23 h hlt rfl fun p _ hp => ?_
      refine rn_at one30 hp rfl ?_
      rw [hel.2.gt]
      have hp := posAt_eq hky
      by_cases c : oGt ys[k].2 0 = true
      · exact iteT c ⟨rfl, by unfold lst; rw [hp, if_pos c]⟩
      · exact iteF c ⟨rfl, by conv => rhs; unfold lst
                              rw [hp, if_neg c]⟩
    rintro y w1 ⟨rfl, rfl⟩
    rw [h.wr hlt]
    exact hK _ _ ⟨k + 1, rfl, hlt, rfl, rfl⟩ (by dsimp only; omega)
  rw [if_neg (by rw [h.len]; omega)]
  obtain rfl : k = xs.length := by omega
  clear hK
  have hm1 := lst_lt (ys := ys) xs.length
  have hm2 : ∀ j, j < xs.length → posAt ys j = true → (j : Int) ≤ lst ys xs.length := fun j hj hp => lst_ge hp _ hj
  have hm3 : ∀ j : Nat, j < xs.length → lst ys xs.length = j → posAt ys j = true := fun j _ e => lst_pos _ e
  generalize lst ys xs.length = m at hm1 hm2 hm3
  refine Lp.mk (fun (y : Sl × Nat × Int) w' => ∃ (k : Nat) (xs' : List TShare), y.2.2 = k ∧ k ≤ xs.length ∧ Ext w0 w' ∧ Own TShare.cells 2 32 w0.heap.size w' y.1 xs' ∧ ShD xs' (cutS m k (rawS (ys.take k)).1) ∧ Fl (rawS (ys.take k)).2 y.2.1) (fun y => xs.length - y.2.2.toNat)
    ⟨0, [], rfl, Nat.zero_le _, Ext.refl _, Own.nil_ _ _, by
      have : cutS m 0 (rawS (ys.take 0)).1 = [] := by
        have h0 : (rawS (ys.take 0)).1 = [] := by simp [rawS]
        rw [h0]; unfold cutS; split <;> rfl
      rw [this]; exact ShD.nil, rfl⟩ ?_
  rintro ⟨z, u, _⟩ w1 K ⟨k, xs', rfl, hk, hE, hO, hd, hu⟩ hK
  dsimp only at hO hd hu ⊢
  by_cases hlt : k < xs.length
  · rw [if_pos (by rw [h.len]; omega)]
    have hky : k < ys.length := by omega
    have hel := d.el k hlt hky
    have hpk := posAt_eq hky
    refine ⟨fun (y : Sl × Nat) w' => ∃ xs', Ext w0 w' ∧ Own TShare.cells 2 32 w0.heap.size w' y.1 xs' ∧ ShD xs' (cutS m (k + 1) (rawS (ys.take (k + 1))).1) ∧ Fl (rawS (ys.take (k + 1))).2 y.2, ?_, ?_⟩
    · rw [rawS_succ hky]
      refine rnp_idx sl23 (h.ext hE) hlt rfl fun p _ hp => ?_
      refine rn_at one30 hp rfl ?_
      rw [hel.2.gt]
      by_cases c : oGt ys[k].2 0 = true
      · refine iteF (by simp [c]) ?_
        rw [stp_yes c]
        have hkm := hm2 k hlt (by rw [hpk]; exact c)
        refine rnp_idx sl23 (h.ext hE) hlt rfl fun p _ hp => ?_
        refine rn_at one30 hp rfl ?_
        refine rn_add2 hu hel.2 fun v w3 hv e3 _ => ?_
        replace hE := hE.trans e3; replace hO := hO.ext e3
        refine rnp_idx sl23 (h.ext hE) hlt rfl fun p _ hp => ?_
        refine rn_at one9 hp rfl ?_
        have hO3 := hO; have gE3 := hE.size
        refine New.var (TShare.cells ⟨xs[k].Service, v⟩) sz32 rfl (oc_share _) rfl fun b8 w4 e4 h8 nb8 => ?_
        replace hE := hE.trans e4; replace hO := hO.ext e4
        have hlen : xs'.length ≤ k := by
          rw [hd.len]
          have := rawS_len ys k (by omega)
          unfold cutS; split
          · rw [lastOne_len]; exact this
          · exact this
        have hcut : cutS m k (rawS (ys.take k)).1 = (rawS (ys.take k)).1 := by unfold cutS; rw [if_neg (by omega)]
        rw [hcut] at hd
        refine ⟨fun _ w' => ∃ v', Ext w0 w' ∧ Own TShare.cells 2 32 w0.heap.size w' z xs' ∧ Blk w' b8 32 (TShare.cells ⟨xs[k].Service, v'⟩) ∧ ShD (xs' ++ [⟨xs[k].Service, v'⟩]) (cutS m (k + 1) ((rawS (ys.take k)).1 ++ [(ys[k].1, oadd2 (rawS (ys.take k)).2 ys[k].2)])), ?_, ?_⟩
        · have gO : ∀ b, own? z b → b < w3.heap.size := fun b hb => (hO3.ge hb).2
          by_cases cm : (k : Int) = m
          · refine iteT cm ?_
            refine rnu_st (b := b8) (o := 1) rfl h8 [.float .f64 one64] sz30 rfl (by simp [Value.oneCell']) (by simp [TShare.cells]) fun w5 c5 s5 h8' => ?_
            refine ⟨one64, hE.then c5 (fun b hb => by omega), hO.chg c5 (fun b hb he => by have := gO b hb; omega), h8', ?_⟩
            unfold cutS; rw [if_pos (by omega), lastOne_snoc]
            exact hd.snoc hel.1 rfl
          · refine iteF cm ⟨v, hE, hO, h8, ?_⟩
            unfold cutS; rw [if_neg (by omega)]
            exact hd.snoc hel.1 hv
        rintro _ w5 ⟨v', hE, hO, h8, hd⟩
        refine rn_blkN (x := (⟨xs[k].Service, v'⟩ : TShare)) many32 h8 rfl rfl ?_
        refine New.mk fun b55 w6 e6 h55 _ _ => ?_
        replace hE := hE.trans e6; replace hO := hO.ext e6
        refine rn_app1 (x := (⟨xs[k].Service, v'⟩ : TShare)) el23 hO h55 rfl rfl (oc_share _) (by omega) (by decide) hE.size fun s' w7 O7 c7 n7 => ?_
        exact ⟨_, hE.then c7 (fun b hb => (hO.ge hb).1), O7, hd, hv⟩
      · refine iteT (by simp [c]) ?_
        rw [stp_no c]
        refine ⟨xs', hE, hO, ?_, hu⟩
        have hne : ¬ m = (k : Int) := fun e => c (by rw [← hpk]; exact hm3 k hlt e)
        have : cutS m (k + 1) (rawS (ys.take k)).1 = cutS m k (rawS (ys.take k)).1 := by
          unfold cutS
          by_cases c1 : m < (k : Int)
          · rw [if_pos c1, if_pos (by omega)]
          · rw [if_neg c1, if_neg (by omega)]
        rw [this]; exact hd
    · rintro ⟨z, u⟩ w2 ⟨xs', hE, hO, hd, hu⟩
      dsimp only at hO hu ⊢
      rw [h.wr hlt]
      exact hK _ _ ⟨k + 1, xs', rfl, hlt, hE, hO, hd, hu⟩ (by dsimp only; omega)
  · rw [if_neg (by rw [h.len]; omega)]
    obtain rfl : k = xs.length := by omega
    rw [hl, List.take_length] at hd
    refine ⟨hE, xs', hO, ?_⟩
    have : cutS m ys.length (rawS ys).1 = stepsS ys := by unfold cutS stepsS; rw [if_pos (by omega)]
    rw [← this]; exact hd
end
end Go.Proofs.Ytdoeegfcmbcbkaa.Ct

/- Contracts: resources of a kind, looked for, copied; the shares of all splits by the program. -/
namespace Go.Proofs.Ytdoeegfcmbcbkaa.Ct
open Go Go.Eng Tr
set_option linter.unusedVariables false
set_option maxRecDepth 100000

section
variable {w : World} {F : Nat → Prop} {s : Sl} {rs : List TResource}
/-- the resources of a kind -/
def ofKind (kind : Int) (rs : List TResource) : List TResource := rs.filter fun r => decide (r.Kind = kind)
theorem ofKind_succ {kind : Int} {k : Nat} (h : k < rs.length) : ofKind kind (rs.take (k + 1)) = ofKind kind (rs.take k) ++ if rs[k].Kind = kind then [rs[k]] else [] := by
  unfold ofKind
  rw [List.take_add_one, List.getElem?_eq_getElem h, List.filter_append]
  by_cases c : rs[k].Kind = kind <;> simp [c]
theorem ofKind_len (kind : Int) (rs : List TResource) : (ofKind kind rs).length ≤ rs.length := List.length_filter_le _ _
theorem named_ok (h : Rd TResource.cells 8 F w s rs) (kind : Int) (hb : (rs.length + 1) * 136 ≤ 140737488355328) :
    Cal PP Sl.v 54 #[s.v, .int .i64 kind] w fun s' w' => Ext w w' ∧ Own TResource.cells 8 48 w.heap.size w' s' (ofKind kind rs) := by
  refine c54 ?_
  unfold f54
  refine Lp.mk (fun (y : Sl × Int) w' => ∃ k : Nat, y.2 = k ∧ k ≤ rs.length ∧ Ext w w' ∧ Own TResource.cells 8 48 w.heap.size w' y.1 (ofKind kind (rs.take k))) (fun y => rs.length - y.2.toNat) ⟨0, rfl, Nat.zero_le _, Ext.refl _, Own.nil_ _ _⟩ ?_
  rintro ⟨z, _⟩ w1 K ⟨k, rfl, hk, hE, hO⟩ hK
  dsimp only at hO ⊢
  by_cases hlt : k < rs.length
  · rw [if_pos (by rw [h.len]; omega)]
    refine ⟨fun y w' => Ext w w' ∧ Own TResource.cells 8 48 w.heap.size w' y (ofKind kind (rs.take (k + 1))), ?_, ?_⟩
    · rw [ofKind_succ hlt]
      refine rnp_idx sl22 (h.ext hE) hlt rfl fun p _ hp => ?_
      refine rn_ldN (x := rs[k]) many48 hp rfl rfl ?_
      refine New.var (TResource.cells rs[k]) sz48 rfl (oc_res _) rfl fun b7 w2 e2 h7 _ => ?_
      replace hE := hE.trans e2; replace hO := hO.ext e2
      refine rn_blk (x := rs[k].Kind) one3 h7 rfl rfl ?_
      by_cases c : rs[k].Kind = kind
      · refine iteT c ?_
        rw [if_pos c]
        refine rn_blkN (x := rs[k]) many48 h7 rfl rfl ?_
        refine New.mk fun b20 w3 e3 h20 _ _ => ?_
        have hlen := ofKind_len kind (rs.take k)
        rw [List.length_take] at hlen
        refine rn_app1 (x := rs[k]) el22 (hO.ext e3) h20 rfl rfl (oc_res _) (by omega) (by decide) (by have := (hE.trans e3).size; omega) fun s' w4 O4 c4 n4 => ?_
        exact ⟨(hE.trans e3).then c4 (fun b hb => (hO.ge hb).1), O4⟩
      · refine iteF c ⟨hE, ?_⟩
        rw [if_neg c, List.append_nil]; exact hO
    · rintro y w2 ⟨hE, hO⟩
      rw [h.wr hlt]
      exact hK _ _ ⟨k + 1, rfl, hlt, hE, hO⟩ (by dsimp only; omega)
  · rw [if_neg (by rw [h.len]; omega)]
    obtain rfl : k = rs.length := by omega
    rw [List.take_length] at hO
    exact ⟨hE, hO⟩
def atR (rs : List TResource) (n : ByteArray) (i : Nat) : Bool := match rs[i]? with
  | some r => decide (r.Name = n)
  | none => false
theorem atR_eq {n : ByteArray} {i : Nat} (h : i < rs.length) : atR rs n i = decide (rs[i].Name = n) := by simp [atR, h]
theorem isR_ok {x : TResource} {n : ByteArray} {b : Nat} (hb : Blk w b 9 [.string n]) : Ans Value.bool 55 #[x.v, Ptr ⟨b, 0, none⟩] w (decide (x.Name = n)) := by
  refine c55 ?_
  unfold f55
  refine New.mk fun b2 w1 e1 h2 _ _ => ?_
  refine rn_blk (x := x.Name) one9 h2 rfl rfl ?_
  refine rn_blk (x := n) one9 (hb.ext e1) rfl rfl ?_
  exact ⟨e1, rfl⟩
theorem index98_ok (h : Rd TResource.cells 8 F w s rs) {n : ByteArray} {b : Nat} (hb : Blk w b 9 [.string n]) : Ans (Value.int .i64) 98 #[s.v, .func (.func 55) #[] #[Ptr ⟨b, 0, none⟩]] w (fst? (atR rs n) rs.length) := by
  refine c98 ?_
  unfold f98
  refine Lp.mk (fun (i : Int) w' => ∃ k : Nat, i = k ∧ k ≤ rs.length ∧ Ext w w' ∧ ∀ j, j < k → atR rs n j = false) (fun i => rs.length - i.toNat) ⟨0, rfl, Nat.zero_le _, Ext.refl _, fun j hj => absurd hj (Nat.not_lt_zero _)⟩ ?_
  rintro i w1 K ⟨k, rfl, hk, hE, hall⟩ hK
  by_cases hlt : k < rs.length
  · rw [if_pos (by rw [h.len]; omega)]
    refine rnp_idx sl22 (h.ext hE) hlt rfl fun p _ hp => ?_
    refine rn_ldN (x := rs[k]) many48 hp rfl rfl ?_
    refine ⟨55, #[], #[Ptr ⟨b, 0, none⟩], rfl, fun vs w => enters Try.func55 rfl rfl vs w, ?_⟩
    refine Cal.mono (isR_ok (x := rs[k]) (hb.ext hE)) ?_
    rintro _ w2 ⟨e2, rfl⟩
    have ha := atR_eq (n := n) hlt
    by_cases c : rs[k].Name = n
    · exact iteT (by simpa using c) ⟨hE.trans e2, (fst?_some hlt (by rw [ha]; simpa using c) hall).symm⟩
    · refine iteF (by simpa using c) ?_
      rw [h.wr hlt]; exact hK _ _ ⟨k + 1, rfl, hlt, hE.trans e2, all_succ hall (by rw [ha]; simpa using c)⟩ (by omega)
  · rw [if_neg (by rw [h.len]; omega)]
    exact ⟨hE, (fst?_none fun j hj => hall j (by omega)).symm⟩
/-- is one of a name there? -/
def hasR (rs : List TResource) (n : ByteArray) : Bool := decide (0 ≤ fst? (atR rs n) rs.length)
theorem hasR_iff {n : ByteArray} : hasR rs n = true ↔ ∃ r ∈ rs, r.Name = n := by
  unfold hasR
  constructor
  · intro h
    have h' : 0 ≤ fst? (atR rs n) rs.length := by simpa using h
    rcases fst?_le (p := atR rs n) (n := rs.length) with h0 | ⟨k, _, hk, hp⟩
    · omega
    · exact ⟨rs[k], List.getElem_mem hk, by rw [atR_eq hk] at hp; simpa using hp⟩
  · rintro ⟨r, hr, hn⟩
    obtain ⟨k, hk, rfl⟩ := List.mem_iff_getElem.1 hr
    by_cases h : 0 ≤ fst? (atR rs n) rs.length
    · simpa using h
    · have := fst?_neg (by omega : fst? (atR rs n) rs.length < 0) k hk
      rw [atR_eq hk] at this
      simp [hn] at this
theorem contains_ok (h : Rd TResource.cells 8 F w s rs) {n : ByteArray} {b : Nat} (hb : Blk w b 9 [.string n]) : Ans Value.bool 53 #[s.v, .func (.func 55) #[] #[Ptr ⟨b, 0, none⟩]] w (hasR rs n) := by
  refine c53 ?_
  unfold f53
  refine (index98_ok h hb).mono ?_
  rintro _ w1 ⟨e1, rfl⟩
  exact ⟨e1, rfl⟩
theorem cloneShares_ok {xs : List TShare} (h : Rd TShare.cells 2 F w s xs) (hb : xs.length * 24 ≤ 140737488355328) :
    Cal PP Sl.v 56 #[s.v] w fun s' w' => Ext w w' ∧ Rd TShare.cells 2 (fun b => w.heap.size ≤ b ∧ b < w'.heap.size) w' s' xs := by
  refine c56 ?_
  unfold f56
  by_cases c : s.a.isNone = true
  · refine iteT c ⟨Ext.refl _, ?_⟩
    have h0 : xs = [] := by
      cases xs with
      | nil => rfl
      | cons x xs =>
        obtain ⟨a, ha, _⟩ := h.el 0 (by simp)
        rw [ha] at c; cases c
    subst h0
    exact Rd.nil_ _ _
  · refine iteF c ?_
    refine New.mk fun b5 w1 e1 h5 n5 s5 => ?_
    refine rn_copy el23 h5 (h.ext e1) (fun _ => rfl) oc_share hb (by decide) fun x w2 c2 r2 => ?_
    have g2 := c2.size
    exact ⟨e1.then c2 (fun b hb => by omega), r2.mono fun b hb => ⟨by omega, hb.2⟩⟩
end

/-! ### The shares of all splits -/
theorem mapT97 : MapT PP 97 9 23 Value.string Sl.v Sl.nil := ⟨Try.underlying97, keyT_string Try.underlying9, by kernel_rfl⟩
theorem mapT153 : MapT PP 153 9 45 Value.string Sl.v Sl.nil := ⟨Try.underlying153, keyT_string Try.underlying9, by kernel_rfl⟩
def ofV (b6 b3 b7 : Nat) : Value := .func (.func 99) #[] #[Ptr ⟨b6, 0, none⟩, Ptr ⟨b3, 0, none⟩, Ptr ⟨b7, 0, none⟩]
/-- what the search for shares goes by -/
structure AllW (F : Nat → Prop) (l : List DRes) (b3 b6 b7 b9 b23 : Nat) (ms : List (ByteArray × Sl)) (w : World) : Prop where
  hb3 : Blk w b3 153 [.map (some b9)]
  hb6 : Blk w b6 97 [.map (some b23)]
  hb7 : Blk w b7 154 [ofV b6 b3 b7]
  hms : Mp Value.string Sl.v w b9 ms
  tg : ∀ n d, splitOf l n = some d → ∃ t, mget ms n = some t ∧ Rd TTarget.cells 3 F w t d.targets
  no : ∀ n, splitOf l n = none → mget ms n = none
  ne : b3 ≠ b23 ∧ b6 ≠ b23 ∧ b7 ≠ b23 ∧ b9 ≠ b23
  nF : ∀ b, F b → b ≠ b23
section
variable {F Q Q' S : Nat → Prop} {l : List DRes} {b3 b6 b7 b9 b23 : Nat} {ms : List (ByteArray × Sl)} {m : List (ByteArray × Sl)} {w w' : World}
theorem AllW.chg (h : AllW F l b3 b6 b7 b9 b23 ms w) (k : Chg (fun b => b = b23) w w') : AllW F l b3 b6 b7 b9 b23 ms w' :=
  ⟨h.hb3.chg k h.ne.1, h.hb6.chg k h.ne.2.1, h.hb7.chg k h.ne.2.2.1, h.hms.chg k h.ne.2.2.2, fun n d hs => let ⟨t, h1, h2⟩ := h.tg n d hs; ⟨t, h1, h2.chg k (fun b hb _ => h.nF b hb)⟩, h.no, h.ne, h.nF⟩
theorem AllW.chgR {r : Nat} (h : AllW F l b3 b6 b7 b9 b23 ms w) (k : Chg (fun b => b = r) w w') (h3 : b3 ≠ r) (h6 : b6 ≠ r) (h7 : b7 ≠ r) (h9 : b9 ≠ r) (hF : ∀ b, F b → b ≠ r) : AllW F l b3 b6 b7 b9 b23 ms w' :=
  ⟨h.hb3.chg k h3, h.hb6.chg k h6, h.hb7.chg k h7, h.hms.chg k h9, fun n d hs => let ⟨t, h1, h2⟩ := h.tg n d hs; ⟨t, h1, h2.chg k (fun b hb _ => hF b hb)⟩, h.no, h.ne, h.nF⟩
/-- the shares that are known, none in the blocks Q -/
structure DoneI (Q : Nat → Prop) (l : List DRes) (b23 : Nat) (w : World) (m : List (ByteArray × Sl)) : Prop where
  mp : Mp Value.string Sl.v w b23 m
  el : ∀ n v, mget m n = some v → ∃ xs, Rd TShare.cells 2 (fun b => (b ≠ b23 ∧ ¬ Q b) ∧ b < w.heap.size) w v xs ∧ ShD xs (shF l n)
theorem DoneI.chg (h : DoneI Q l b23 w m) (k : Chg S w w') (h1 : ¬ S b23) (h2 : ∀ b, b < w.heap.size → S b → Q b) (h3 : ∀ b, b < w.heap.size → Q' b → Q b) : DoneI Q' l b23 w' m :=
  ⟨h.mp.chg k h1, fun n v hv => let ⟨xs, r, d⟩ := h.el n v hv; ⟨xs, (r.chg k (fun b hb _ hS => hb.1.2 (h2 b hb.2 hS))).mono fun b hb => ⟨⟨hb.1.1, fun hq => hb.1.2 (h3 b hb.2 hq)⟩, by have := k.size; omega⟩, d⟩⟩
theorem DoneI.ext (h : DoneI Q l b23 w m) (k : Ext w w') : DoneI Q l b23 w' m := h.chg (k.chg (fun _ => False)) (fun h => h) (fun _ _ h => h.elim) (fun _ _ h => h)
theorem DoneI.weaken (h : DoneI Q l b23 w m) (h3 : ∀ b, b < w.heap.size → Q' b → Q b) : DoneI Q' l b23 w m := h.chg (Chg.refl (fun _ => False) _) (fun h => h) (fun _ _ h => h.elim) h3
/-- a list of shares that is known -/
def Knows (Q : Nat → Prop) (l : List DRes) (b23 : Nat) (n : ByteArray) (v : Sl) (w : World) : Prop := ∃ xs, Rd TShare.cells 2 (fun b => (b ≠ b23 ∧ ¬ Q b) ∧ b < w.heap.size) w v xs ∧ ShD xs (shF l n)
theorem of_shares (hS : Stand l) (hlen : l.length ≤ 64) : ∀ (j : Nat) (w : World) (Q : Nat → Prop) (m : List (ByteArray × Sl)) (n : ByteArray), hd l 8 n ≤ 8 → hd l 8 n ≤ j →
    AllW F l b3 b6 b7 b9 b23 ms w → DoneI Q l b23 w m → (∀ b, Q b → b < w.heap.size) →
    Cal PP Sl.v 99 #[.string n, Ptr ⟨b6, 0, none⟩, Ptr ⟨b3, 0, none⟩, Ptr ⟨b7, 0, none⟩] w fun v w' => Chg (fun b => b = b23) w w' ∧ Knows Q l b23 n v w' ∧ ∃ m', DoneI Q l b23 w' m' ∧ n ∈ mkeys m' ∧ ∀ k, k ∈ mkeys m → k ∈ mkeys m' := by
  intro j
  induction j with
  | zero => intro w Q m n _ h; have := (hd_bounds l 8 n).1; omega
  | succ j ih =>
  intro w Q m n h8 hj hW hD hQ
  refine c99 ?_
  unfold f99
  have h23 : b23 < w.heap.size := hD.mp.lt
  refine rn_blk (x := some b23) one97 hW.hb6 rfl rfl ?_
  refine rn_get2 (k := n) (fun _ => rfl) mapT97 hD.mp ?_
  cases hg : mget m n with
  | some v =>
    refine iteT rfl ⟨Chg.refl _ _, hD.el n v hg, m, hD, ?_, fun _ h => h⟩
    exact Classical.byContradiction fun h => by rw [mget_none.2 h] at hg; cases hg
  | none =>
  refine iteF (by simp) ?_
  refine rn_blk (x := some b9) one153 hW.hb3 rfl rfl ?_
  refine rn_get (k := n) mapT153 hW.hms ?_
  -- what its targets are
  have htg : ∃ ts : List TTarget, (∀ w', Chg (fun b => b = b23) w w' → Rd TTarget.cells 3 (fun b => F b ∨ False) w' ((mget ms n).getD Sl.nil) ts) ∧ sumS (shF l) ts = shF l n ∧ (∀ k, OkS l (sumS (shF l) (ts.take k))) ∧
      (∀ t ∈ ts, t.Service = ⟨#[]⟩ → hd l 8 t.Split < hd l 8 n) := by
    cases hs : splitOf l n with
    | none =>
      refine ⟨[], fun w' _ => ?_, by rw [shF_none hs]; rfl, fun k => by rw [List.take_nil]; exact OkS.nil, fun t ht => by cases ht⟩
      rw [hW.no n hs]; exact Rd.nil_ _ _
    | some d =>
      obtain ⟨t, h1, h2⟩ := hW.tg n d hs
      obtain ⟨q1, q2, q3⟩ := splitOf_mem hs
      refine ⟨d.targets, fun w' k => ?_, (shF_eq h8 hs).symm, fun k => sumS_ok hS q1 q2 k, fun t ht hts => kid_hd h8 (kid_mem hs ht hts)⟩
      rw [h1]; exact (h2.chg k (fun b hb _ => hW.nF b hb)).mono fun b hb => .inl hb
  obtain ⟨ts, hrd, hsum, hok, hkid⟩ := htg
  generalize (mget ms n).getD Sl.nil = st at hrd
  refine Lp.mk (fun (y : Sl × Int) w' => ∃ (k : Nat) (m' : List (ByteArray × Sl)) (xs : List TShare), y.2 = k ∧ k ≤ ts.length ∧ Chg (fun b => b = b23) w w' ∧ Own TShare.cells 2 32 w.heap.size w' y.1 xs ∧ ShD xs (sumS (shF l) (ts.take k)) ∧
      DoneI (fun b => Q b ∨ own? y.1 b) l b23 w' m' ∧ ∀ k, k ∈ mkeys m → k ∈ mkeys m') (fun y => ts.length - y.2.toNat)
    ⟨0, m, [], rfl, Nat.zero_le _, Chg.refl _ _, Own.nil_ _ _, ShD.nil, hD.weaken fun b _ hb => hb.elim id (fun ⟨a, ha, _⟩ => by cases ha), fun _ h => h⟩ ?_
  rintro ⟨z, _⟩ w1 K ⟨k, m1, xs, rfl, hk, hC, hO, hd1, hD1, hg1⟩ hK
  dsimp only at hO hD1 ⊢
  have hrd1 := hrd w1 hC
  by_cases hlt : k < ts.length
  · rw [if_pos (by rw [hrd1.len]; omega)]
    refine ⟨fun z w' => ∃ (m' : List (ByteArray × Sl)) (xs : List TShare), Chg (fun b => b = b23) w w' ∧ Own TShare.cells 2 32 w.heap.size w' z xs ∧ ShD xs (sumS (shF l) (ts.take (k + 1))) ∧
      DoneI (fun b => Q b ∨ own? z b) l b23 w' m' ∧ ∀ k, k ∈ mkeys m → k ∈ mkeys m', ?_, ?_⟩
    · have hok1 := hok (k + 1)
      rw [sumS_succ hlt] at hok1 ⊢
      refine rnp_idx sl45 hrd1 hlt rfl fun p _ hp => ?_
      refine rn_ldN (x := ts[k]) many84 hp rfl rfl ?_
      refine New.var (TTarget.cells ts[k]) sz84 rfl (oc_target _) rfl fun b10 w2 e2 h10 _ => ?_
      replace hC := hC.thenE e2; replace hO := hO.ext e2; replace hD1 := hD1.ext e2
      refine rn_blk (x := ts[k].Weight) one30 h10 rfl rfl ?_
      refine arith_run .quo _ rfl fun wv w3 hwv e3 _ => ?_
      replace hwv : Fl (wt ts[k]) wv := hwv
      replace hC := hC.thenE e3; replace hO := hO.ext e3; replace hD1 := hD1.ext e3; replace h10 := h10.ext e3
      refine rn_blk (x := ts[k].Service) one9 h10 rfl rfl ?_
      unfold partS at hok1 ⊢
      by_cases c : ts[k].Service = ⟨#[]⟩
      · rw [if_pos c] at hok1 ⊢
        refine iteF (by simpa using c) ?_
        have hW3 := hW.chg hC
        refine rn_blk (x := ofV b6 b3 b7) one154 hW3.hb7 rfl rfl ?_
        refine rn_blk (x := ts[k].Split) one9 h10 rfl rfl ?_
        refine ⟨99, #[], #[Ptr ⟨b6, 0, none⟩, Ptr ⟨b3, 0, none⟩, Ptr ⟨b7, 0, none⟩], rfl, fun vs w => enters Try.func99 rfl rfl vs w, ?_⟩
        have hkd := hkid _ (List.getElem_mem hlt) c
        refine Cal.mono (ih w3 (fun b => Q b ∨ own? z b) m1 ts[k].Split (by omega) (by omega) hW3 hD1 (fun b hb => ?_)) ?_
        · rcases hb with hb | hb
          · have := hQ b hb; have := hC.size; omega
          · exact (hO.ge hb).2
        rintro v w4 ⟨c4, ⟨vs, hv, hvd⟩, m4, hD4, _, hg4⟩
        have hO4 := hO.chg c4 (fun b hb => by have := (hO.ge hb).1; omega)
        have hC4 := hC.trans c4
        clear hD1 hO h10 hC
        have hvl := hvd.len
        refine Lp.mk (fun (y : Sl × Int) w' => ∃ (q : Nat) (xs : List TShare), y.2 = q ∧ q ≤ vs.length ∧ Chg (fun b => b = b23) w w' ∧ Own TShare.cells 2 32 w.heap.size w' y.1 xs ∧ ShD xs (mixS (wt ts[k]) (sumS (shF l) (ts.take k)) ((shF l ts[k].Split).take q)) ∧
            DoneI (fun b => Q b ∨ own? y.1 b) l b23 w' m4 ∧ Rd TShare.cells 2 (fun b => (b ≠ b23 ∧ ¬ (Q b ∨ own? y.1 b)) ∧ b < w'.heap.size) w' v vs) (fun y => vs.length - y.2.toNat)
          ⟨0, xs, rfl, Nat.zero_le _, hC4, hO4, hd1, hD4, hv⟩ ?_
        rintro ⟨y, _⟩ w5 K2 ⟨q, xs5, rfl, hq, hC5, hO5, hd5, hD5, hv5⟩ hK2
        dsimp only at hO5 hD5 hv5 ⊢
        by_cases hqv : q < vs.length
        · rw [if_pos (by rw [hv5.len]; omega)]
          have hqs : q < (shF l ts[k].Split).length := by omega
          have hel := hvd.el q hqv hqs
          refine rnp_idx sl23 hv5 hqv rfl fun p _ hp => ?_
          refine rn_ldN (x := vs[q]) many32 hp rfl rfl ?_
          refine New.var (TShare.cells vs[q]) sz32 rfl (oc_share _) rfl fun b13 w6 e6 h13 _ => ?_
          refine rn_blk (x := vs[q].Service) one9 h13 rfl rfl ?_
          refine rn_blk (x := vs[q].Upto) one30 h13 rfl rfl ?_
          refine rn_mul2 hwv hel.2 fun pv w7 hpv e7 _ => ?_
          have e := e6.trans e7
          have hb := OkS.len (OkS.mix (x := wt ts[k]) (zs := (shF l ts[k].Split).take q) (hok k) fun p hp => (sh_ok hS 9 ts[k].Split).has p (List.mem_of_mem_take hp))
          have gsz := hC5.size
          have gs := e.size
          refine Cal.mono (add_ok (n := vs[q].Service) (hO5.ext e) hd5 (by omega) hpv (by omega)) ?_
          rintro z' w8 ⟨c8, n8, xs8, hO8, hd8⟩
          rw [hv5.wr hqv]
          have own5 : ∀ b, own? y b → w.heap.size ≤ b ∧ b < w5.heap.size := fun b hb => hO5.ge hb
          have own8 : ∀ b, b < w7.heap.size → own? z' b → own? y b := fun b hb ho => by
            rcases n8 b ho with h | h
            · exact h
            · omega
          refine hK2 _ _ ⟨q + 1, xs8, rfl, hqv, (hC5.thenE e).then c8 (fun b hb ho => by have := (own5 b ho).1; omega), hO8, ?_, ?_, ?_⟩ (by dsimp only; omega)
          · rw [mixS_succ hqs]; rw [hel.1] at hd8; exact hd8
          · exact (hD5.ext e).chg c8 (fun ho => by have := (own5 _ ho).1; omega) (fun b _ ho => .inr ho) (fun b hb h => h.imp id (own8 b hb))
          · have c8s := c8.size
            exact ((hv5.ext e).chg c8 (fun b hb _ ho => hb.1.2 (.inr ho))).mono fun b hb => ⟨⟨hb.1.1, fun h => hb.1.2 (h.imp id (own8 b (by omega)))⟩, by omega⟩
        · rw [if_neg (by rw [hv5.len]; omega)]
          obtain rfl : q = vs.length := by omega
          rw [hvl, List.take_length] at hd5
          exact ⟨m4, xs5, hC5, hO5, hd5, hD5, fun k hk => hg4 k (hg1 k hk)⟩
      · rw [if_neg c] at hok1 ⊢
        refine iteT (by simpa using c) ?_
        refine rn_blk (x := ts[k].Service) one9 h10 rfl rfl ?_
        have hb := (hok k).len
        have gsz := hC.size
        refine Cal.mono (add_ok (n := ts[k].Service) hO hd1 (by omega) hwv (by omega)) ?_
        rintro z' w8 ⟨c8, n8, xs8, hO8, hd8⟩
        have own3 : ∀ b, own? z b → w.heap.size ≤ b ∧ b < w3.heap.size := fun b hb => hO.ge hb
        have own8 : ∀ b, b < w3.heap.size → own? z' b → own? z b := fun b hb ho => by
          rcases n8 b ho with h | h
          · exact h
          · omega
        exact ⟨m1, xs8, hC.then c8 (fun b hb ho => by have := (own3 b ho).1; omega), hO8, hd8, hD1.chg c8 (fun ho => by have := (own3 _ ho).1; omega) (fun b _ ho => .inr ho) (fun b hb h => h.imp id (own8 b hb)), hg1⟩
    · rintro z' w2 ⟨m2, xs2, hC2, hO2, hd2, hD2, hg2⟩
      rw [hrd1.wr hlt]
      exact hK _ _ ⟨k + 1, m2, xs2, rfl, hlt, hC2, hO2, hd2, hD2, hg2⟩ (by dsimp only; omega)
  · rw [if_neg (by rw [hrd1.len]; omega)]
    obtain rfl : k = ts.length := by omega
    rw [List.take_length, hsum] at hd1
    have hW1 := hW.chg hC
    refine rn_blk (x := some b23) one97 hW1.hb6 rfl rfl ?_
    refine rnu_put (k := n) (v := z) mapT97 hD1.mp fun w2 c2 hm2 s2 => ?_
    have hz : Rd TShare.cells 2 (fun b => (b ≠ b23 ∧ ¬ Q b) ∧ b < w2.heap.size) w2 z xs := ((hO.rd (F := fun b => own? z b) (fun b hb => hb)).chg c2 (fun b hb _ => by have := (hO.ge hb).1; omega)).mono fun b hb => by
      have h1 := hO.ge hb
      exact ⟨⟨by omega, fun hq => by have := hQ b hq; omega⟩, by omega⟩
    refine ⟨hC.trans c2, ⟨xs, hz, hd1⟩, mput m1 n z, ⟨hm2, fun n' v hv => ?_⟩, mem_mkeys_put.2 (.inl rfl), fun k hk => mem_mkeys_put.2 (.inr (hg1 k hk))⟩
    rw [mget_put] at hv
    by_cases e : n = n'
    · rw [if_pos e] at hv; cases hv; subst e; exact ⟨xs, hz, hd1⟩
    · rw [if_neg e] at hv
      obtain ⟨ys, r, d⟩ := hD1.el n' v hv
      exact ⟨ys, (r.chg c2 (fun b hb _ => hb.1.1)).mono fun b hb => ⟨⟨hb.1.1, fun hq => hb.1.2 (.inl hq)⟩, by omega⟩, d⟩
end
end Go.Proofs.Ytdoeegfcmbcbkaa.Ct

