/- TablesShares, where what comes in holds at most 1048576 values and letters: for each configuration, name and list of shares the law answers true, and each argument reads as before. -/
import Derived.Test.YtdoeegfcmbcbkaaAZ5
import Derived.Test.YtdoeegfcmbcbkaaRows
import Derived.ProofKit
import Derived.OpenShut
import Derived.JoinedCond
import Derived.Carry
import Derived.Deep.Slices
set_option linter.all false
/- What comes in, read as data, is read as lists: a law on each shape; and the frame of a law whose walk leaves all that stood as it was. -/
namespace Go.Proofs.Ytdoeegfcmbcbkaa.Opn
open Go Go.Eng
open Go.ChangeShapes Go.WideShapes Go.RowKit
set_option linter.unusedVariables false

/-! ### Lists out of indices, sums -/
theorem list_of {α : Type} : ∀ {n : Nat} {p : Nat → α → Prop}, (∀ i, i < n → ∃ x, p i x) → ∃ l : List α, l.length = n ∧ ∀ i (h : i < l.length), p i l[i]
  | 0, _, _ => ⟨[], rfl, fun i h => absurd h (Nat.not_lt_zero _)⟩
  | n + 1, p, h => by
    obtain ⟨l, hl, hp⟩ := list_of (n := n) (p := p) fun i hi => h i (by omega)
    obtain ⟨x, hx⟩ := h n (Nat.lt_succ_self n)
    refine ⟨l ++ [x], by simp [hl], fun i hi => ?_⟩
    by_cases c : i < l.length
    · rw [List.getElem_append_left c]; exact hp i c
    · have : i = l.length := by simp at hi; omega
      subst this
      simpa [hl] using hx
theorem bulk_sum {H α : Type} {bulk : α → Nat} : ∀ (l : List α) (ds : List (DataW H)), l.length = ds.length → (∀ i (h : i < l.length) (h' : i < ds.length), bulk l[i] ≤ Rows.uptoBulk ds[i]) → (l.map bulk).sum ≤ Rows.uptoBulkAll ds
  | [], [], _, _ => Nat.zero_le _
  | x :: l, d :: ds, hl, h => by
    have h0 := h 0 (by simp) (by simp)
    have := bulk_sum l ds (by simpa using hl) fun i a b => h (i + 1) (Nat.succ_lt_succ a) (Nat.succ_lt_succ b)
    simp only [List.map_cons, List.sum_cons, Rows.uptoBulkAll, List.getElem_cons_zero] at h0 ⊢
    omega
  | [], d :: ds, hl, _ => by simp at hl
  | x :: l, [], hl, _ => by simp at hl

/-- what a type's reading gives: a shape, a fact, and no more bulk than the reading's -/
structure Dec {α : Type} (P : Program) (t : TypeId) (cells : α → List Value) (Q : World → α → Prop) (bulk : α → Nat) : Prop where
  dec : ∀ {H : Type} {enc : TypeId × Value → H} {w : World} {base : Nat} {spare : Nat → Bool} {held : Bool} {n : Nat} {cs : List Value} {y : DataW H × List MemPlace},
    DataW.trod enc P w base spare held n t cs = some y → ∃ x : α, cs = cells x ∧ Q w x ∧ bulk x ≤ Rows.uptoBulk y.1
section
variable {P : Program} {t : TypeId}
def strC (x : ByteArray) : List Value := [.string x]
theorem dec_str (hu : P.underlying t = some .string) : Dec P t strC (fun _ x => x.size ≤ maxLen) (fun x => x.size + 1) := ⟨fun h => by
  obtain ⟨s, rfl, rfl, hs⟩ := DataW.trod_string hu h
  refine ⟨s, rfl, hs, ?_⟩
  have e : s.data.toList.length = s.size := by rw [Array.length_toList]; rfl
  simp only [Rows.uptoBulk, e]; omega⟩
theorem dec_int {k : IntKind} (hu : P.underlying t = some (.int k)) : Dec P t (fun x : Int => [.int k x]) (fun _ x => (Lit.int k x).wf = true) (fun _ => 1) := ⟨fun h => by
  obtain ⟨s, rfl, rfl, hs⟩ := DataW.trod_int hu h
  exact ⟨s, rfl, hs, by simp [Rows.uptoBulk]⟩⟩
theorem dec_bool (hu : P.underlying t = some .bool) : Dec P t (fun x : Bool => [.bool x]) (fun _ _ => True) (fun _ => 1) := ⟨fun h => by
  obtain ⟨s, rfl, rfl⟩ := DataW.trod_bool hu h
  exact ⟨s, rfl, trivial, by simp [Rows.uptoBulk]⟩⟩
theorem dec_flt {k : FloatKind} (hu : P.underlying t = some (.float k)) : Dec P t (fun x : Nat => [.float k x]) (fun _ _ => True) (fun _ => 1) := ⟨fun {H enc w base spare held n cs y} h => by
  have : ∃ b, cs = [.float k b] ∧ y.1 = .lit (.float k b) := by
    cases n with
    | zero => simp [DataW.trod] at h
    | succ n =>
      unfold DataW.trod at h
      rw [hu] at h
      split at h <;> simp_all
      rw [← h.2]
  obtain ⟨b, rfl, hy⟩ := this
  exact ⟨b, rfl, trivial, by rw [hy]; simp [Rows.uptoBulk]⟩⟩
theorem dec_slice {α : Type} {e sz : Nat} {cells : α → List Value} {Q : World → α → Prop} {bulk : α → Nat} (d : Dec P e cells Q bulk) (ht : P.underlying t = some (.slice e)) (hsz : P.cellsOf e = sz) :
    Dec P t (fun x : Sl × List α => [Sl.v x.1]) (fun w x => Rd cells sz (fun _ => True) w x.1 x.2 ∧ ∀ y ∈ x.2, Q w y) (fun x => (x.2.map bulk).sum + 1) := ⟨fun {H enc w base spare held n cs y} h => by
  subst hsz
  rcases DataW.trod_slice ht h with ⟨rfl, rfl⟩ | ⟨a, len, cap, elems, rest, m, rfl, rfl, rfl, hb, hl, hc, hlen, hel, _⟩
  · exact ⟨(Sl.nil, []), rfl, ⟨Rd.nil_ _ _, fun y hy => by cases hy⟩, by simp [Rows.uptoBulk]⟩
  · obtain ⟨l, hll, hp⟩ := list_of (n := len) (p := fun i (x : α) => At w (a.add (i * P.cellsOf e)) (cells x) ∧ Q w x ∧ ∀ (h : i < elems.length), bulk x ≤ Rows.uptoBulk elems[i].1) fun i hi => by
      have h1 := hel i hi
      have hi' : i < elems.length := by omega
      rw [List.getElem?_eq_getElem hi', Option.bind_eq_some_iff] at h1
      obtain ⟨cs, h2, h3⟩ := h1
      obtain ⟨x, rfl, hq, hbk⟩ := d.dec h3
      obtain ⟨_, hcl, hcell⟩ := World.cells?_some h2
      exact ⟨x, fun j hj => by rw [hcell j (by omega), List.getElem?_eq_getElem hj], hq, fun _ => hbk⟩
    refine ⟨(⟨some a, len, cap⟩, l), rfl, ⟨⟨hll.symm, hl, hc, fun k hk => ⟨a, rfl, trivial, (hp k hk).1⟩⟩, fun y hy => ?_⟩, ?_⟩
    · obtain ⟨i, hi, rfl⟩ := List.mem_iff_getElem.1 hy
      exact (hp i hi).2.1
    · have := bulk_sum (bulk := bulk) l (elems.map (·.1)) (by simp; omega) fun i a b => by
        rw [List.getElem_map]; exact (hp i a).2.2 (by simpa using b)
      simp only [Rows.uptoBulk]; omega⟩
theorem len2 {α : Type} : ∀ {l : List α}, l.length = 2 → ∃ a b, l = [a, b]
  | [a, b], _ => ⟨a, b, rfl⟩
theorem len3 {α : Type} : ∀ {l : List α}, l.length = 3 → ∃ a b c, l = [a, b, c]
  | [a, b, c], _ => ⟨a, b, c, rfl⟩
theorem len4 {α : Type} : ∀ {l : List α}, l.length = 4 → ∃ a b c d, l = [a, b, c, d]
  | [a, b, c, d], _ => ⟨a, b, c, d, rfl⟩
theorem len8 {α : Type} : ∀ {l : List α}, l.length = 8 → ∃ a b c d e f g h, l = [a, b, c, d, e, f, g, h]
  | [a, b, c, d, e, f, g, h], _ => ⟨a, b, c, d, e, f, g, h, rfl⟩
/-- one field of a struct, of one cell -/
theorem fld {α : Type} {H : Type} {enc : TypeId × Value → H} {w : World} {base : Nat} {spare : Nat → Bool} {held : Bool} {n : Nat} {cs : List Value} {c : Value} {y : DataW H × List MemPlace} {o : Nat} {v : α → Value} {Q : World → α → Prop} {bulk : α → Nat}
    (d : Dec P t (fun x => [v x]) Q bulk) (hk : P.cellsOf t = 1) (h : DataW.trod enc P w base spare held n t ((cs.drop o).take (P.cellsOf t)) = some y) (hc : cs[o]? = some c) : ∃ x, c = v x ∧ Q w x ∧ bulk x ≤ Rows.uptoBulk y.1 := by
  rw [hk] at h
  have e : (cs.drop o).take 1 = [c] := by
    obtain ⟨ho, rfl⟩ := List.getElem?_eq_some_iff.1 hc
    rw [List.drop_eq_getElem_cons ho]; rfl
  rw [e] at h
  obtain ⟨x, hx, hq, hb⟩ := d.dec h
  exact ⟨x, by simpa using hx, hq, hb⟩
/-- a list read by pairs, read by one of the two -/
theorem rd_map {α β : Type} {cells : β → List Value} {sz : Nat} {F : Nat → Prop} {w : World} {s : Sl} {g : α → β} {l : List α} (h : Rd (fun x => cells (g x)) sz F w s l) : Rd cells sz F w s (l.map g) :=
  ⟨by simpa using h.len, h.cap, h.lim, fun k hk => by simpa using h.el k (by simpa using hk)⟩
end

/-! ### The frame of a law -/
section
variable {H : Type} {enc : TypeId × Value → H} {P : Program}
theorem trodAll_stays (hl : laidOutB P = true) {W W' : World} (hb : Below W.heap.size W W') : ∀ {ts : List TypeId} {vs : List Value} {ds : List (DataW H)} {ps : List MemPlace},
    (ts.all fun t => P.readableRec t && decide (t < P.types.size)) = true → DataW.TrodAll enc P W 0 (fun _ => true) true ts vs ds ps → (∀ x ∈ ps, x.block < W.heap.size) → ∀ sp : Nat → Bool, (∀ p ∈ ps, sp p.block = true) →
    DataW.TrodAll enc P W' 0 sp true ts vs ds ps
  | [], vs, ds, ps, _, h, _, sp, _ => by
    cases vs <;> cases ds <;> simp [DataW.TrodAll] at h ⊢
    exact h
  | t :: ts, vs, ds, ps, hr, h, hlt, sp, hsp => by
    simp only [List.all_cons, Bool.and_eq_true, decide_eq_true_eq] at hr
    obtain ⟨v, vs', d, ds', p, q, rfl, rfl, rfl, h1, h2⟩ := trodAll_cons h
    exact ⟨p, q, WideElems.Trod_stays hl hr.1.1 hr.1.2 h1 (fun x hx => hb.same (hlt x (List.mem_append.2 (.inl hx)))) (fun x hx => hsp x (List.mem_append.2 (.inl hx))),
      trodAll_stays hl hb (by simpa using hr.2) h2 (fun x hx => hlt x (List.mem_append.2 (.inr hx))) sp (fun x hx => hsp x (List.mem_append.2 (.inr hx))), rfl⟩
theorem post_true {f : Func} {s : ChangeSpec} {apart fresh handsOn again : Bool} {W W' : World} {args : Array Value} {ds gs : List (DataW H)} {before : List MemPlace} {tb : TypeId}
    (hl : laidOutB P = true) (hr : (f.params.toList.all fun t => P.readableRec t && decide (t < P.types.size)) = true) (hres : f.resultTypes = #[tb]) (htb : P.underlying tb = some .bool) (hvars : s.vars = [])
    (hfn : (s.fn H (ds ++ gs)).results = [.lit (.bool true)]) (hfa : (s.fn H (ds ++ gs)).args = ds) (hfv : (s.fn H (ds ++ gs)).vars = [])
    (hW : DataW.Whole enc P f.params.toList s.vars apart W args.toList ds gs before) (hb : Below W.heap.size W W') :
    s.post enc P f apart fresh handsOn again W args (.bool true) W' := by
  have hlt : ∀ p ∈ before, p.block < W.heap.size := fun p hp => hW.lt p hp
  have hW0 := hW
  obtain ⟨pa, pv, hA, hV, hps, hz, hn⟩ := hW
  rw [hvars] at hV
  obtain ⟨rfl, rfl⟩ : gs = [] ∧ pv = [] := by
    cases gs <;> simp [DataW.TrodVars] at hV
    exact ⟨rfl, hV⟩
  rw [List.append_nil] at hps
  subst hps
  have hold : ∀ p ∈ before, (fun b => decide (b < W.heap.size)) p.block = true := fun p hp => by simpa using hlt p hp
  have hargs : ∀ sp : Nat → Bool, (∀ p ∈ before, sp p.block = true) → DataW.TrodAll enc P W' 0 sp true f.params.toList args.toList (s.fn H (ds ++ [])).args before := fun sp hsp => by
    rw [hfa]; exact trodAll_stays hl hb hr hA hlt sp hsp
  have hre : ∀ (b : Nat) (sp : Nat → Bool) (hd : Bool), DataW.TrodAll enc P W' b sp hd f.resultTypes.toList ((Value.bool true).resultList f.resultTypes.size) (s.fn H (ds ++ [])).results [] := fun b sp hd => by
    rw [hres, hfn]
    exact trodAll_mk1 (shut_bool htb true)
  have hva : ∀ sp : Nat → Bool, DataW.TrodVars enc P W' sp s.vars (s.fn H (ds ++ [])).vars [] := fun sp => by
    rw [hvars, hfv]; rfl
  refine ⟨ds, [], before, [], before, [], hW0, hre _ _ _, hargs _ hold, hva _, World.keptBut_mono (fun p hp => ⟨hp, ?_⟩) (hb.frame (· ∈ before)), fun _ => ?_⟩
  · exact .inr (.inl hp)
  · refine ⟨?_, _, _, ([] ++ before) ++ [], ⟨[] ++ before, [], trodAll_append (hargs _ (fun _ _ => rfl)) (hre _ _ _), hva _, rfl, ?_, ?_⟩, ?_⟩
    · intro j t r hj hr'
      rw [hres] at hj hr'
      match j, hj with
      | 0, hj =>
        simp at hj; subst hj
        simp [Value.resultList] at hr'
        subst hr'
        exact okWide_bool_mk htb true
    · intro b off hp
      have hin : MemPlace.cell b off ∈ before := by simpa using hp
      rw [hb.frozen (hlt _ hin)]
      exact hz b off hin
    · intro ha
      simpa using hn ha
    · intro p hp _
      simpa using hp
end
end Go.Proofs.Ytdoeegfcmbcbkaa.Opn

/- What comes in, of this module's own structs. -/
namespace Go.Proofs.Ytdoeegfcmbcbkaa.Ct
open Go Go.Eng Tr Opn
open Go.ChangeShapes Go.WideShapes Go.RowKit
set_option linter.unusedVariables false
set_option maxRecDepth 100000

theorem c9 : PP.cellsOf 9 = 1 := by kernel_rfl
theorem c3' : PP.cellsOf 3 = 1 := by kernel_rfl
theorem c4' : PP.cellsOf 4 = 1 := by kernel_rfl
theorem c30' : PP.cellsOf 30 = 1 := by kernel_rfl
theorem c44' : PP.cellsOf 44 = 1 := by kernel_rfl
theorem c45' : PP.cellsOf 45 = 1 := by kernel_rfl
theorem c46' : PP.cellsOf 46 = 1 := by kernel_rfl
theorem c32' : PP.cellsOf 32 = 2 := by kernel_rfl
theorem c84' : PP.cellsOf 84 = 3 := by kernel_rfl
theorem c91' : PP.cellsOf 91 = 4 := by kernel_rfl
theorem c48' : PP.cellsOf 48 = 8 := by kernel_rfl
def okT (x : TTarget) : Prop := x.Service.size ≤ maxLen ∧ x.Split.size ≤ maxLen
def okR (x : TRule) : Prop := x.Path.size ≤ maxLen ∧ x.Method.size ≤ maxLen ∧ x.Split.size ≤ maxLen
def okS' (x : TShare) : Prop := x.Service.size ≤ maxLen
def bkT (x : TTarget) : Nat := x.Service.size + x.Split.size + 1
def bkR (x : TRule) : Nat := x.Path.size + x.Method.size + x.Split.size + 1
def bkS (x : TShare) : Nat := x.Service.size + 1
theorem dec_share : Dec PP 32 TShare.cells (fun _ x => okS' x) bkS := ⟨fun {H enc w base spare held n cs y} h => by
  obtain ⟨xs, m, rfl, hy, hl, hxl, hf⟩ := DataW.trod_struct Try.underlying32 h
  rw [c32'] at hl
  obtain ⟨a, b, rfl⟩ := len2 hl
  obtain ⟨x, z, rfl⟩ := len2 (l := xs) (by simpa using hxl)
  obtain ⟨s, rfl, hs, hb0⟩ := fld (v := Value.string) (dec_str Try.underlying9) c9 (hf 0 _ rfl) rfl
  obtain ⟨u, rfl, _, hb1⟩ := fld (v := Value.float .f64) (dec_flt Try.underlying30) c30' (hf 1 _ rfl) rfl
  refine ⟨⟨s, u⟩, rfl, hs, ?_⟩
  rw [hy]; simp only [bkS, Rows.uptoBulk, Rows.uptoBulkAll, List.map_cons, List.map_nil]; omega⟩
theorem dec_target : Dec PP 84 TTarget.cells (fun _ x => okT x) bkT := ⟨fun {H enc w base spare held n cs y} h => by
  obtain ⟨xs, m, rfl, hy, hl, hxl, hf⟩ := DataW.trod_struct Try.underlying84 h
  rw [c84'] at hl
  obtain ⟨a, b, c, rfl⟩ := len3 hl
  obtain ⟨x, z, v, rfl⟩ := len3 (l := xs) (by simpa using hxl)
  obtain ⟨s, rfl, hs, hb0⟩ := fld (v := Value.string) (dec_str Try.underlying9) c9 (hf 0 _ rfl) rfl
  obtain ⟨u, rfl, hu, hb1⟩ := fld (v := Value.string) (dec_str Try.underlying9) c9 (hf 1 _ rfl) rfl
  obtain ⟨q, rfl, _, hb2⟩ := fld (v := Value.float .f64) (dec_flt Try.underlying30) c30' (hf 2 _ rfl) rfl
  refine ⟨⟨s, u, q⟩, rfl, ⟨hs, hu⟩, ?_⟩
  rw [hy]; simp only [bkT, Rows.uptoBulk, Rows.uptoBulkAll, List.map_cons, List.map_nil]; omega⟩
theorem dec_rule : Dec PP 91 TRule.cells (fun _ x => okR x) bkR := ⟨fun {H enc w base spare held n cs y} h => by
  obtain ⟨xs, m, rfl, hy, hl, hxl, hf⟩ := DataW.trod_struct Try.underlying91 h
  rw [c91'] at hl
  obtain ⟨a, b, c, d, rfl⟩ := len4 hl
  obtain ⟨x0, x1, x2, x3, rfl⟩ := len4 (l := xs) (by simpa using hxl)
  obtain ⟨s, rfl, hs, hb0⟩ := fld (v := Value.string) (dec_str Try.underlying9) c9 (hf 0 _ rfl) rfl
  obtain ⟨u, rfl, hu, hb1⟩ := fld (v := Value.string) (dec_str Try.underlying9) c9 (hf 1 _ rfl) rfl
  obtain ⟨q, rfl, hq, hb2⟩ := fld (v := Value.string) (dec_str Try.underlying9) c9 (hf 2 _ rfl) rfl
  obtain ⟨g, rfl, _, hb3⟩ := fld (v := Value.bool) (dec_bool Try.underlying4) c4' (hf 3 _ rfl) rfl
  refine ⟨⟨s, u, q, g⟩, rfl, ⟨hs, hu, hq⟩, ?_⟩
  rw [hy]; simp only [bkR, Rows.uptoBulk, Rows.uptoBulkAll, List.map_cons, List.map_nil]; omega⟩
/-- a resource's texts, each as long as texts may be; how much it holds in all -/
structure OkD (d : DRes) : Prop where
  name : d.name.size ≤ maxLen
  ends : ∀ x ∈ d.ends, x.size ≤ maxLen
  targets : ∀ x ∈ d.targets, okT x
  host : d.host.size ≤ maxLen
  rules : ∀ x ∈ d.rules, okR x
  route : d.route.size ≤ maxLen
  kind : (Lit.int .i64 d.kind).wf = true
def bkD (d : DRes) : Nat := d.name.size + (d.ends.map fun x => x.size + 1).sum + (d.targets.map bkT).sum + d.host.size + (d.rules.map bkR).sum + d.route.size + 1
theorem dec_res : Dec PP 48 (fun x : TResource × DRes => TResource.cells x.1) (fun w x => ResD (fun _ => True) w x.1 x.2 ∧ OkD x.2) (fun x => bkD x.2) := ⟨fun {H enc w base spare held n cs y} h => by
  obtain ⟨xs, m, rfl, hy, hl, hxl, hf⟩ := DataW.trod_struct Try.underlying48 h
  rw [c48'] at hl
  obtain ⟨a0, a1, a2, a3, a4, a5, a6, a7, rfl⟩ := len8 hl
  obtain ⟨x0, x1, x2, x3, x4, x5, x6, x7, rfl⟩ := len8 (l := xs) (by simpa using hxl)
  obtain ⟨k, rfl, hk, hb0⟩ := fld (v := Value.int .i64) (dec_int Try.underlying3) c3' (hf 0 _ rfl) rfl
  obtain ⟨nm, rfl, hn, hb1⟩ := fld (v := Value.string) (dec_str Try.underlying9) c9 (hf 1 _ rfl) rfl
  obtain ⟨es, rfl, ⟨he, he'⟩, hb2⟩ := fld (v := fun x : Sl × List ByteArray => Sl.v x.1) (dec_slice (dec_str Try.underlying9) Try.underlying44 c9) c44' (hf 2 _ rfl) rfl
  obtain ⟨ts, rfl, ⟨ht, ht'⟩, hb3⟩ := fld (v := fun x : Sl × List TTarget => Sl.v x.1) (dec_slice dec_target Try.underlying45 c84') c45' (hf 3 _ rfl) rfl
  obtain ⟨ho, rfl, hh, hb4⟩ := fld (v := Value.string) (dec_str Try.underlying9) c9 (hf 4 _ rfl) rfl
  obtain ⟨rs, rfl, ⟨hr, hr'⟩, hb5⟩ := fld (v := fun x : Sl × List TRule => Sl.v x.1) (dec_slice dec_rule Try.underlying46 c91') c46' (hf 5 _ rfl) rfl
  obtain ⟨ro, rfl, hro, hb6⟩ := fld (v := Value.string) (dec_str Try.underlying9) c9 (hf 6 _ rfl) rfl
  obtain ⟨de, rfl, _, hb7⟩ := fld (v := Value.bool) (dec_bool Try.underlying4) c4' (hf 7 _ rfl) rfl
  refine ⟨(⟨k, nm, es.1, ts.1, ho, rs.1, ro, de⟩, ⟨k, nm, es.2, ts.2, ho, rs.2, ro, de⟩), rfl, ⟨⟨rfl, rfl, he, ht, rfl, hr, rfl, rfl⟩, ⟨hn, he', ht', hh, hr', hro, hk⟩⟩, ?_⟩
  rw [hy]; simp only [bkD, Rows.uptoBulk, Rows.uptoBulkAll, List.map_cons, List.map_nil]; omega⟩
/-- a configuration that came in -/
structure Came (w : World) (s : Sl) (rs : List TResource) (l : List DRes) : Prop where
  conf : ConfD (fun _ => True) w s rs l
  ok : ∀ d ∈ l, OkD d
def bkL (l : List DRes) : Nat := (l.map bkD).sum
theorem came_of {H : Type} {enc : TypeId × Value → H} {w : World} {base : Nat} {spare : Nat → Bool} {held : Bool} {a : Option Addr} {n c : Nat} {d : DataW H} {ps : List MemPlace} (h : DataW.Trod enc PP w base spare held 22 (.slice a n c) d ps) :
    ∃ rs l, Came w ⟨a, n, c⟩ rs l ∧ bkL l + 1 ≤ Rows.uptoBulk d := by
  obtain ⟨m, hm⟩ := h
  obtain ⟨⟨s, l⟩, hs, ⟨hr, hq⟩, hb⟩ := (dec_slice (t := 22) dec_res Try.underlying22 c48').dec hm
  obtain rfl : s = ⟨a, n, c⟩ := by
    obtain ⟨a', n', c'⟩ := s
    simp [Value.cells, Sl.v] at hs
    obtain ⟨rfl, rfl, rfl⟩ := hs; rfl
  refine ⟨l.map (·.1), l.map (·.2), ⟨⟨rd_map hr, by simp, fun k h1 h2 => ?_⟩, fun d hd => ?_⟩, ?_⟩
  · simp only [List.getElem_map]
    exact (hq _ (List.getElem_mem (by simpa using h1))).1
  · obtain ⟨x, hx, rfl⟩ := List.mem_map.1 hd
    exact (hq x hx).2
  · have : bkL (l.map (·.2)) = (l.map fun x => bkD x.2).sum := by unfold bkL; rw [List.map_map]; rfl
    rw [this]; exact hb
theorem shares_of {H : Type} {enc : TypeId × Value → H} {w : World} {base : Nat} {spare : Nat → Bool} {held : Bool} {a : Option Addr} {n c : Nat} {d : DataW H} {ps : List MemPlace} (h : DataW.Trod enc PP w base spare held 23 (.slice a n c) d ps) :
    ∃ xs : List TShare, Rd TShare.cells 2 (fun _ => True) w ⟨a, n, c⟩ xs ∧ (xs.map bkS).sum + 1 ≤ Rows.uptoBulk d := by
  obtain ⟨m, hm⟩ := h
  obtain ⟨⟨s, l⟩, hs, ⟨hr, hq⟩, hb⟩ := (dec_slice (t := 23) dec_share Try.underlying23 c32').dec hm
  obtain rfl : s = ⟨a, n, c⟩ := by
    obtain ⟨a', n', c'⟩ := s
    simp [Value.cells, Sl.v] at hs
    obtain ⟨rfl, rfl, rfl⟩ := hs; rfl
  exact ⟨l, hr, hb⟩
theorem sum_len {α : Type} {f : α → Nat} (h : ∀ x, 1 ≤ f x) : ∀ l : List α, l.length ≤ (l.map f).sum
  | [] => Nat.zero_le _
  | x :: l => by have := sum_len h l; have := h x; simp only [List.length_cons, List.map_cons, List.sum_cons]; omega
theorem sum_mem {α : Type} {f : α → Nat} : ∀ {l : List α} {x : α}, x ∈ l → f x ≤ (l.map f).sum
  | y :: l, x, h => by
    simp only [List.map_cons, List.sum_cons]
    rcases List.mem_cons.1 h with rfl | h
    · omega
    · have := sum_mem (f := f) h; omega
theorem sum_le {α : Type} {f g : α → Nat} (h : ∀ x, f x ≤ g x) : ∀ l : List α, (l.map f).sum ≤ (l.map g).sum
  | [] => Nat.le_refl _
  | x :: l => by have := sum_le h l; have := h x; simp only [List.map_cons, List.sum_cons]; omega
theorem bkD_parts (d : DRes) : d.ends.length + d.targets.length + d.rules.length + 1 ≤ bkD d := by
  have h1 := sum_len (f := fun x : ByteArray => x.size + 1) (fun x => by omega) d.ends
  have h2 := sum_len (f := bkT) (fun x => by unfold bkT; omega) d.targets
  have h3 := sum_len (f := bkR) (fun x => by unfold bkR; omega) d.rules
  unfold bkD; omega
section
variable {l : List DRes} (hb : bkL l ≤ 1048576)
include hb
theorem bk_len : l.length ≤ 1048576 := by
  have := sum_len (f := bkD) (fun x => by have := bkD_parts x; omega) l
  unfold bkL at hb; omega
theorem bk_mem {d : DRes} (hd : d ∈ l) : bkD d ≤ 1048576 := by
  have := sum_mem (f := bkD) hd
  unfold bkL at hb; omega
theorem bk_small : ∀ d ∈ l, Small d := fun d hd => by
  have h1 := bk_mem hb hd
  have h2 := bkD_parts d
  exact ⟨by omega, by omega, by omega⟩
theorem bk_tot : tot l ≤ 1048576 := by
  have := sum_le (f := fun d : DRes => d.rules.length) (g := bkD) (fun d => by have := bkD_parts d; omega) l
  unfold tot; unfold bkL at hb; omega
end
theorem Came.fit {w : World} {s : Sl} {rs : List TResource} {l : List DRes} (h : Came w s rs l) (hb : bkL l ≤ 1048576) : Fit l :=
  ⟨fun d hd r hr => ((h.ok d hd).rules r hr).1, by have := bk_tot hb; omega⟩
end Go.Proofs.Ytdoeegfcmbcbkaa.Ct

/- TablesShares: the law's walk: whatever comes in, true is answered and all that stood stands. -/
namespace Go.Proofs.Ytdoeegfcmbcbkaa.Ct
open Go Go.Eng Tr
set_option linter.unusedVariables false
set_option maxRecDepth 100000

section
variable {w : World} {F G : Nat → Prop} {s s2 : Sl} {rs : List TResource} {l : List DRes} {xs : List TShare}
theorem Marked.ext {w' : World} {n : Nat} (h : Marked w s n) (k : Ext w w') : Marked w' s n := let ⟨h1, a, h2, h3⟩ := h; ⟨h1, a, h2, k.cell' h3⟩
def markS : TShare := ⟨⟨#[109, 97, 114, 107]⟩, 0⟩
def goneS : TShare := ⟨⟨#[103, 111, 110, 101]⟩, 0⟩
theorem law_shares (hc : ConfD F w s rs l) (hft : Fit l) (hsm : ∀ d ∈ l, Small d) (hln : l.length ≤ 1048576) (hx : Rd TShare.cells 2 G w s2 xs) (hxn : xs.length ≤ 1048576) (n : ByteArray) : Ans Value.bool 3 #[s.v, .string n, s2.v] w true := by
  refine c3 ?_
  unfold f3
  have hrl : rs.length ≤ 1048576 := by rw [hc.len]; exact hln
  refine (twin_ok hc hsm (by omega)).mono ?_
  rintro given w1 ⟨e1, rs', hg, hmk⟩
  have hrl' : rs'.length ≤ 1048576 := by rw [hg.len]; exact hln
  refine (prog_shares_ok hg hft (by omega) n).mono ?_
  rintro ⟨sa, ea⟩ w2 ⟨e2, he, xa, hra, hda⟩
  dsimp only at he hra ⊢
  subst he
  have E2 := e1.trans e2
  refine (ref_shares_ok (hc.ext E2) hft n).mono ?_
  rintro ⟨sb, eb⟩ w3 ⟨e3, he, xb, hrb, hdb⟩
  dsimp only at he hrb ⊢
  subst he
  have E3 := E2.trans e3
  replace hra := hra.ext e3
  -- a list of its own, a mark behind it
  refine rn_app (l := []) (l' := xs) el23 (Own.nil_ w3.heap.size w3) (hx.ext E3) (fun _ => rfl) oc_share (by simp; omega) (by decide) (Nat.le_refl _) fun t31 w4 O4 c4 n4 => ?_
  have e4 : Ext w3 w4 := (Ext.refl _).then c4 (fun b ⟨a, ha, _⟩ => by cases ha)
  refine New.mk fun b33 w5 e5 h33 _ _ => ?_
  have g5 := (e4.trans e5).size
  refine rn_app1 (x := markS) el23 (O4.ext e5) h33 rfl rfl (oc_share _) (by simp; omega) (by decide) g5 fun t34 w6 O6 c6 n6 => ?_
  rw [List.nil_append] at O6
  have E6 : Ext w3 w6 := (e4.trans e5).then c6 (fun b hb => (O4.ge hb).1)
  have hx0 := hx.len
  have R6 := O6.rd (F := fun b => own? t34 b) (fun b hb => hb)
  have hl6 : t34.n = xs.length + 1 := by rw [R6.len]; simp
  have hlast : (xs ++ [markS]).take xs.length = xs := by simp
  have hsl : ∀ {w'}, Rd TShare.cells 2 (fun b => own? t34 b) w' t34 (xs ++ [markS]) → Rd TShare.cells 2 (fun b => own? t34 b) w' ⟨t34.a, s2.n, t34.c⟩ xs := fun h => by
    have := h.take (n := xs.length) (by simp)
    rw [hlast] at this; rw [hx0]; exact this
  refine rnp_slice sl23 none (some s2.n) rfl rfl (Nat.zero_le _) (by have := R6.cap; simp; omega) ?_
  simp only [Option.getD_none, Option.getD_some, Sl.cut_zero]
  have hsx : (saysS xs).length = xs.length := by simp [saysS]
  refine (steps_ok (hsl R6) (ShD.of xs) (by rw [hsx]; omega)).mono ?_
  rintro t39 w7 ⟨e7, x39, O7, d39⟩
  have hsl7 := hsl (R6.ext e7)
  have E7 := E6.trans e7
  refine ⟨fun b w' => b = false ∧ Ext w7 w', ?_, ?_⟩
  · refine (sharesF_ok (hra.ext E7) (hrb.ext E7) hda hdb).mono ?_
    rintro _ w8 ⟨e8, rfl⟩
    refine iteF (by simp) ?_
    refine iteF (by simp) ?_
    have E8 := E7.trans e8
    refine (stay_ok (hg.ext ((e2.trans e3).trans E8)) (hc.ext (E3.trans E8)) (hmk.ext ((e2.trans e3).trans E8))).mono ?_
    rintro _ w9 ⟨e9, rfl⟩
    refine iteF (by simp) ?_
    have E9 := E8.trans e9
    refine (refSteps_ok (hx.ext (E3.trans E9)) (ShD.of xs) (by rw [hsx]; omega)).mono ?_
    rintro t58 w10 ⟨e10, x58, O10, d58⟩
    have e710 := (e8.trans e9).trans e10
    refine (sharesF_ok ((O7.ext e710).rd (F := fun _ => True) (fun _ _ => trivial)) (O10.rd (F := fun _ => True) (fun _ _ => trivial)) d39 d58).mono ?_
    rintro _ w11 ⟨e11, rfl⟩
    refine iteF (by simp) ?_
    have e711 := e710.trans e11
    refine rnp_slice sl23 none (some s2.n) rfl rfl (Nat.zero_le _) (by have := R6.cap; simp; omega) ?_
    simp only [Option.getD_none, Option.getD_some, Sl.cut_zero]
    refine (shares_ok (hsl7.ext e711) (hx.ext ((E3.trans E7).trans e711))).mono ?_
    rintro _ w12 ⟨e12, rfl⟩
    refine iteF (by simp) ?_
    have e712 := e711.trans e12
    refine rnp_idx sl23 ((R6.ext e7).ext e712) (k := xs.length) (by simp) (by rw [hx0]) fun p _ hp => ?_
    refine rn_at (x := (xs ++ [markS])[xs.length].Service) one9 hp rfl ?_
    exact ⟨by simp [markS], e712⟩
  rintro _ w8 ⟨rfl, e8⟩
  refine iteF (by simp) ?_
  have E8 := E7.trans e8
  have O8 := O7.ext e8
  have R8 := (R6.ext e7).ext e8
  -- what is written over lies in memory of its own
  refine Lp.mk (fun (i : Int) w' => ∃ (k : Nat) (ys : List TShare), i = k ∧ k ≤ x39.length ∧ ys.length = x39.length ∧ Chg (own? t39) w8 w' ∧ Own TShare.cells 2 32 w6.heap.size w' t39 ys) (fun i => x39.length - i.toNat)
    ⟨0, x39, rfl, Nat.zero_le _, rfl, Chg.refl _ _, O8⟩ ?_
  rintro i w9 K ⟨k, ys, rfl, hk, hyl, c9, O9⟩ hK
  have hln9 := O9.len
  by_cases hlt : k < x39.length
  · rw [if_pos (by omega)]
    have hky : k < ys.length := by omega
    refine own_setN (f := 0) (vs := TShare.cells goneS) (x' := goneS) sl23 O9 hky rfl (by simp [TShare.cells]) sz32 rfl (oc_share _) (by simp [over, TShare.cells]) fun w10 c10 O10 s10 => ?_
    rw [(O9.rd (F := fun _ => True) (fun _ _ => trivial)).wr hky]
    exact hK _ _ ⟨k + 1, _, rfl, hlt, by simpa using hyl, c9.trans c10, O10⟩ (by omega)
  · rw [if_neg (by omega)]
    have own9 : ∀ b, own? t39 b → w6.heap.size ≤ b := fun b hb => (O9.ge hb).1
    have E9 : Ext w3 w9 := E6.then ((e7.trans e8).chg (own? t39) |>.trans c9) (fun b hb => by have := own9 b hb; have := E6.size; omega)
    have hg3 := E3.size
    have R9 : Rd TShare.cells 2 (fun b => own? t34 b) w9 t34 (xs ++ [markS]) := R8.chg c9 (fun b hb hlt ho => by
      have h1 := (O6.ge hb).2
      have h2 := own9 b ho; omega)
    refine ⟨fun b w' => b = true ∧ Ext w9 w', ?_, ?_⟩
    · refine rnp_slice sl23 none (some s2.n) rfl rfl (Nat.zero_le _) (by have := R6.cap; simp; omega) ?_
      simp only [Option.getD_none, Option.getD_some, Sl.cut_zero]
      refine (shares_ok (hsl R9) (hx.ext (E3.trans E9))).mono ?_
      rintro _ w10 ⟨e10, rfl⟩
      refine iteT rfl ?_
      have E10 := E9.trans e10
      have hxa : xa.length ≤ 1048576 ∧ (ansS l n).length ≤ 1048576 := by
        have h1 : (ansS l n).length ≤ l.length := by
          unfold ansS
          split
          · rename_i hh
            exact (sh_ok (fault_err hh.1).stand 9 n).len
          · simp
        have := hda.len
        omega
      refine (steps_ok (hra.ext E10) hda (by omega)).mono ?_
      rintro t98 w11 ⟨e11, x98, O11, d98⟩
      refine (refSteps_ok (hrb.ext (E10.trans e11)) hdb (by omega)).mono ?_
      rintro t100 w12 ⟨e12, x100, O12, d100⟩
      refine (sharesF_ok ((O11.ext e12).rd (F := fun _ => True) (fun _ _ => trivial)) (O12.rd (F := fun _ => True) (fun _ _ => trivial)) d98 d100).mono ?_
      rintro _ w13 ⟨e13, rfl⟩
      exact ⟨rfl, ((e10.trans e11).trans e12).trans e13⟩
    · rintro _ w10 ⟨rfl, e10⟩
      exact ⟨(E3.trans E9).trans e10, rfl⟩
end
end Go.Proofs.Ytdoeegfcmbcbkaa.Ct

/- TablesShares, where what comes in holds at most 1048576 values and letters: for each configuration, name and list of shares the law answers true, and each argument reads as before. -/
namespace Go.Proofs.Ytdoeegfcmbcbkaa.TablesShares
open Go Go.Eng Opn Ct
open Go.ChangeShapes Go.WideShapes Go.ChangeAt Go.RowKit
open Go.ChangeMaps (open_string)
set_option maxRecDepth 100000

theorem own : ownKnob Try.prog.godebug = none := by kernel_rfl
theorem laid : laidOutB Try.prog = true := by kernel_rfl
theorem reads : (Try.f3.params.toList.all fun t => Try.prog.readableRec t && decide (t < Try.prog.types.size)) = true := by kernel_rfl
theorem contract (H : Type) (enc : TypeId × Value → H) (W : World) (base : Nat) (args : Array Value) (ds gs : List (DataW H)) (before : List MemPlace)
    (hval : ∀ (j : Nat) t v, Try.f3.params[j]? = some t → args[j]? = some v → Value.okWide Try.prog W .any base t v)
    (hW : DataW.Whole enc Try.prog Try.f3.params.toList Rows.tablesSharesSpec.vars false W args.toList ds gs before) (hk : Rows.uptoSmall H (ds ++ gs) = true) :
    Calls Try.prog 3 args W fun e W' => ∃ v, e = .returned v ∧ Rows.tablesSharesSpec.post enc Try.prog Try.f3 false true false false W args v W' := by
  have hW' := hW
  obtain ⟨p, q, hA, hV, rfl, hfz, hnd⟩ := hW
  rw [Try.params3] at hA hval
  obtain ⟨v0, v1, v2, d0, d1, d2, p0, p1, p2, rfl, rfl, rfl, h0, h1, h2⟩ := trodAll_three hA
  obtain ⟨rfl, rfl⟩ : gs = [] ∧ q = [] := by
    have hV' : DataW.TrodVars enc Try.prog W (fun _ => true) [] gs q := hV
    cases gs <;> simp [DataW.TrodVars] at hV'
    exact ⟨rfl, hV'⟩
  obtain ⟨a0, n0, c0, rfl⟩ := okWide_slice Try.underlying22 (hval 0 22 v0 rfl rfl)
  obtain ⟨n, rfl, _, _, _⟩ := open_string Try.underlying9 (hval 1 9 v1 rfl rfl) h1
  obtain ⟨a2, n2, c2, rfl⟩ := okWide_slice Try.underlying23 (hval 2 23 v2 rfl rfl)
  have hbk : Rows.uptoBulkAll [d0, d1, d2] ≤ 1048576 := by
    have := of_decide_eq_true hk
    simpa using this
  simp only [Rows.uptoBulkAll] at hbk
  obtain ⟨rs, l, hc, hb0⟩ := came_of h0
  obtain ⟨xs, hx, hb2⟩ := shares_of h2
  have hbl : bkL l ≤ 1048576 := by omega
  have hxn : xs.length ≤ 1048576 := by
    have := sum_len (f := bkS) (fun x => by unfold bkS; omega) xs
    omega
  refine Calls.mono (law_shares hc.conf (hc.fit hbl) (bk_small hbl) (bk_len hbl) hx hxn n) ?_
  rintro e W' ⟨r, rfl, hE, rfl⟩
  exact ⟨_, rfl, post_true laid reads rfl Try.underlying4 rfl rfl rfl rfl hW' hE⟩

theorem lifted (os : Os) (started : os.Started) (H : Type) (enc : TypeId × Value → H) (F : Stop.Interp) :
    ReturnsInHanded {} Try.checked os 3 .any ((Rows.OpenSpec.upto Rows.tablesSharesSpec).pre6 enc Try.prog Try.f3 Rows.tablesSharesUptoRow.domain false) (((Rows.OpenSpec.upto Rows.tablesSharesSpec).at F).post enc Try.prog Try.f3 false true false false) := by
  refine returnsInHanded_of_cond (C := Try.checked) (s := Rows.OpenSpec.upto Rows.tablesSharesSpec) (k := Rows.uptoSmall) rfl own started (by kernel_rfl) Try.func3
    (OpenSpec.witness (enc := enc) (C := Try.checked) (s := Rows.OpenSpec.upto Rows.tablesSharesSpec) (k := Rows.uptoSmall) rfl false ⟨#[], #[.slice none 0 0, .string .empty, .slice none 0 0], []⟩ 8 (by kernel_rfl) (by kernel_rfl) (by kernel_rfl)
      (x := ([.nil, .lit (.string []), .nil], [], [])) (by kernel_rfl) rfl (by kernel_rfl)) ?_
  intro W base args ds gs before hval hW _ hk _
  exact contract H enc W base args ds gs before hval hW hk
theorem tablesShares_holds : Rows.TablesSharesUptoSaid :=
  OpenClaim.holds_of_cond 3 Try.f3 rfl rfl rfl rfl rfl rfl rfl ⟨rfl, rfl, rfl, rfl, rfl⟩ rfl rfl rfl rfl rfl (by kernel_rfl) Try.func3 (by kernel_rfl)
    (of_decide_eq_true (by kernel_rfl)) (by unfold Func.isWrapper; rw [if_neg (of_decide_eq_false (by kernel_rfl))]; exact ⟨rfl, rfl⟩)
    (fun os started H enc _ F => lifted os started H enc F)
end Go.Proofs.Ytdoeegfcmbcbkaa.TablesShares

