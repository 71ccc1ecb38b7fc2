/- TablesCompiles, where what comes in holds at most 1048576 values and letters: for each number and configuration the law answers true, and each argument reads as before. -/
import Derived.Test.YtdoeegfcmbcbkaaBZ5
import Derived.Test.YtdoeegfcmbcbkaaRows
import Derived.ProofKit
import Derived.OpenShut
import Derived.JoinedCond
import Derived.Carry
import Derived.Deep.Slices
set_option linter.all false
namespace Go.Proofs.Ytdoeegfcmbcbkaa.Opn
open Go Go.Eng
open Go.ChangeShapes Go.WideShapes Go.RowKit
set_option linter.unusedVariables false

theorem list_of {α : Type} : ∀ {n : Nat} {p : Nat → α → Prop}, (∀ i, i < n → ∃ x, p i x) → ∃ l : List α, l.length = n ∧ ∀ i (h : i < l.length), p i l[i]
  | 0, _, _ => ⟨[], rfl, fun i h => absurd h (Nat.not_lt_zero _)⟩
  | n + 1, p, h => by
    obtain ⟨l, hl, hp⟩ := list_of (n := n) (p := p) fun i hi => h i (by omega)
    obtain ⟨x, hx⟩ := h n (Nat.lt_succ_self n)
    refine ⟨l ++ [x], by simp [hl], fun i hi => ?_⟩
    by_cases c : i < l.length
    · rw [List.getElem_append_left c]; exact hp i c
    · have : i = l.length := by simp at hi; omega
      subst this
      simpa [hl] using hx
theorem bulk_sum {H α : Type} {bulk : α → Nat} : ∀ (l : List α) (ds : List (DataW H)), l.length = ds.length → (∀ i (h : i < l.length) (h' : i < ds.length), bulk l[i] ≤ Rows.uptoBulk ds[i]) → (l.map bulk).sum ≤ Rows.uptoBulkAll ds
  | [], [], _, _ => Nat.zero_le _
  | x :: l, d :: ds, hl, h => by
    have h0 := h 0 (by simp) (by simp)
    have := bulk_sum l ds (by simpa using hl) fun i a b => h (i + 1) (Nat.succ_lt_succ a) (Nat.succ_lt_succ b)
    simp only [List.map_cons, List.sum_cons, Rows.uptoBulkAll, List.getElem_cons_zero] at h0 ⊢
    omega
  | [], d :: ds, hl, _ => by simp at hl
  | x :: l, [], hl, _ => by simp at hl

structure Dec {α : Type} (P : Program) (t : TypeId) (cells : α → List Value) (Q : World → α → Prop) (bulk : α → Nat) : Prop where
  dec : ∀ {H : Type} {enc : TypeId × Value → H} {w : World} {base : Nat} {spare : Nat → Bool} {held : Bool} {n : Nat} {cs : List Value} {y : DataW H × List MemPlace},
    DataW.trod enc P w base spare held n t cs = some y → ∃ x : α, cs = cells x ∧ Q w x ∧ bulk x ≤ Rows.uptoBulk y.1
section
variable {P : Program} {t : TypeId}
def strC (x : ByteArray) : List Value := [.string x]
theorem dec_str (hu : P.underlying t = some .string) : Dec P t strC (fun _ x => x.size ≤ maxLen) (fun x => x.size + 1) := ⟨fun h => by
  obtain ⟨s, rfl, rfl, hs⟩ := DataW.trod_string hu h
  refine ⟨s, rfl, hs, ?_⟩
  have e : s.data.toList.length = s.size := by rw [Array.length_toList]; rfl
  simp only [Rows.uptoBulk, e]; omega⟩
theorem dec_int {k : IntKind} (hu : P.underlying t = some (.int k)) : Dec P t (fun x : Int => [.int k x]) (fun _ x => (Lit.int k x).wf = true) (fun _ => 1) := ⟨fun h => by
  obtain ⟨s, rfl, rfl, hs⟩ := DataW.trod_int hu h
  exact ⟨s, rfl, hs, by simp [Rows.uptoBulk]⟩⟩
theorem dec_bool (hu : P.underlying t = some .bool) : Dec P t (fun x : Bool => [.bool x]) (fun _ _ => True) (fun _ => 1) := ⟨fun h => by
  obtain ⟨s, rfl, rfl⟩ := DataW.trod_bool hu h
  exact ⟨s, rfl, trivial, by simp [Rows.uptoBulk]⟩⟩
theorem dec_flt {k : FloatKind} (hu : P.underlying t = some (.float k)) : Dec P t (fun x : Nat => [.float k x]) (fun _ _ => True) (fun _ => 1) := ⟨fun {H enc w base spare held n cs y} h => by
  have : ∃ b, cs = [.float k b] ∧ y.1 = .lit (.float k b) := by
    cases n with
    | zero => simp [DataW.trod] at h
    | succ n =>
      unfold DataW.trod at h
      rw [hu] at h
      split at h <;> simp_all
      rw [← h.2]
  obtain ⟨b, rfl, hy⟩ := this
  exact ⟨b, rfl, trivial, by rw [hy]; simp [Rows.uptoBulk]⟩⟩
theorem dec_slice {α : Type} {e sz : Nat} {cells : α → List Value} {Q : World → α → Prop} {bulk : α → Nat} (d : Dec P e cells Q bulk) (ht : P.underlying t = some (.slice e)) (hsz : P.cellsOf e = sz) :
    Dec P t (fun x : Sl × List α => [Sl.v x.1]) (fun w x => Rd cells sz (fun _ => True) w x.1 x.2 ∧ ∀ y ∈ x.2, Q w y) (fun x => (x.2.map bulk).sum + 1) := ⟨fun {H enc w base spare held n cs y} h => by
  subst hsz
  rcases DataW.trod_slice ht h with ⟨rfl, rfl⟩ | ⟨a, len, cap, elems, rest, m, rfl, rfl, rfl, hb, hl, hc, hlen, hel, _⟩
  · exact ⟨(Sl.nil, []), rfl, ⟨Rd.nil_ _ _, fun y hy => by cases hy⟩, by simp [Rows.uptoBulk]⟩
  · obtain ⟨l, hll, hp⟩ := list_of (n := len) (p := fun i (x : α) => At w (a.add (i * P.cellsOf e)) (cells x) ∧ Q w x ∧ ∀ (h : i < elems.length), bulk x ≤ Rows.uptoBulk elems[i].1) fun i hi => by
      have h1 := hel i hi
      have hi' : i < elems.length := by omega
      rw [List.getElem?_eq_getElem hi', Option.bind_eq_some_iff] at h1
      obtain ⟨cs, h2, h3⟩ := h1
      obtain ⟨x, rfl, hq, hbk⟩ := d.dec h3
      obtain ⟨_, hcl, hcell⟩ := World.cells?_some h2
      exact ⟨x, fun j hj => by rw [hcell j (by omega), List.getElem?_eq_getElem hj], hq, fun _ => hbk⟩
    refine ⟨(⟨some a, len, cap⟩, l), rfl, ⟨⟨hll.symm, hl, hc, fun k hk => ⟨a, rfl, trivial, (hp k hk).1⟩⟩, fun y hy => ?_⟩, ?_⟩
    · obtain ⟨i, hi, rfl⟩ := List.mem_iff_getElem.1 hy
      exact (hp i hi).2.1
    · have := bulk_sum (bulk := bulk) l (elems.map (·.1)) (by simp; omega) fun i a b => by
        rw [List.getElem_map]; exact (hp i a).2.2 (by simpa using b)
      simp only [Rows.uptoBulk]; omega⟩
theorem len3 {α : Type} : ∀ {l : List α}, l.length = 3 → ∃ a b c, l = [a, b, c]
  | [a, b, c], _ => ⟨a, b, c, rfl⟩
theorem len4 {α : Type} : ∀ {l : List α}, l.length = 4 → ∃ a b c d, l = [a, b, c, d]
  | [a, b, c, d], _ => ⟨a, b, c, d, rfl⟩
theorem len8 {α : Type} : ∀ {l : List α}, l.length = 8 → ∃ a b c d e f g h, l = [a, b, c, d, e, f, g, h]
  | [a, b, c, d, e, f, g, h], _ => ⟨a, b, c, d, e, f, g, h, rfl⟩
theorem fld {α : Type} {H : Type} {enc : TypeId × Value → H} {w : World} {base : Nat} {spare : Nat → Bool} {held : Bool} {n : Nat} {cs : List Value} {c : Value} {y : DataW H × List MemPlace} {o : Nat} {v : α → Value} {Q : World → α → Prop} {bulk : α → Nat}
    (d : Dec P t (fun x => [v x]) Q bulk) (hk : P.cellsOf t = 1) (h : DataW.trod enc P w base spare held n t ((cs.drop o).take (P.cellsOf t)) = some y) (hc : cs[o]? = some c) : ∃ x, c = v x ∧ Q w x ∧ bulk x ≤ Rows.uptoBulk y.1 := by
  rw [hk] at h
  have e : (cs.drop o).take 1 = [c] := by
    obtain ⟨ho, rfl⟩ := List.getElem?_eq_some_iff.1 hc
    rw [List.drop_eq_getElem_cons ho]; rfl
  rw [e] at h
  obtain ⟨x, hx, hq, hb⟩ := d.dec h
  exact ⟨x, by simpa using hx, hq, hb⟩
theorem rd_map {α β : Type} {cells : β → List Value} {sz : Nat} {F : Nat → Prop} {w : World} {s : Sl} {g : α → β} {l : List α} (h : Rd (fun x => cells (g x)) sz F w s l) : Rd cells sz F w s (l.map g) :=
  ⟨by simpa using h.len, h.cap, h.lim, fun k hk => by simpa using h.el k (by simpa using hk)⟩
end

section
variable {H : Type} {enc : TypeId × Value → H} {P : Program}
theorem trodAll_stays (hl : laidOutB P = true) {W W' : World} (hb : Below W.heap.size W W') : ∀ {ts : List TypeId} {vs : List Value} {ds : List (DataW H)} {ps : List MemPlace},
    (ts.all fun t => P.readableRec t && decide (t < P.types.size)) = true → DataW.TrodAll enc P W 0 (fun _ => true) true ts vs ds ps → (∀ x ∈ ps, x.block < W.heap.size) → ∀ sp : Nat → Bool, (∀ p ∈ ps, sp p.block = true) →
    DataW.TrodAll enc P W' 0 sp true ts vs ds ps
  | [], vs, ds, ps, _, h, _, sp, _ => by
    cases vs <;> cases ds <;> simp [DataW.TrodAll] at h ⊢
    exact h
  | t :: ts, vs, ds, ps, hr, h, hlt, sp, hsp => by
    simp only [List.all_cons, Bool.and_eq_true, decide_eq_true_eq] at hr
    obtain ⟨v, vs', d, ds', p, q, rfl, rfl, rfl, h1, h2⟩ := trodAll_cons h
    exact ⟨p, q, WideElems.Trod_stays hl hr.1.1 hr.1.2 h1 (fun x hx => hb.same (hlt x (List.mem_append.2 (.inl hx)))) (fun x hx => hsp x (List.mem_append.2 (.inl hx))),
      trodAll_stays hl hb (by simpa using hr.2) h2 (fun x hx => hlt x (List.mem_append.2 (.inr hx))) sp (fun x hx => hsp x (List.mem_append.2 (.inr hx))), rfl⟩
theorem post_true {f : Func} {s : ChangeSpec} {apart fresh handsOn again : Bool} {W W' : World} {args : Array Value} {ds gs : List (DataW H)} {before : List MemPlace} {tb : TypeId}
    (hl : laidOutB P = true) (hr : (f.params.toList.all fun t => P.readableRec t && decide (t < P.types.size)) = true) (hres : f.resultTypes = #[tb]) (htb : P.underlying tb = some .bool) (hvars : s.vars = [])
    (hfn : (s.fn H (ds ++ gs)).results = [.lit (.bool true)]) (hfa : (s.fn H (ds ++ gs)).args = ds) (hfv : (s.fn H (ds ++ gs)).vars = [])
    (hW : DataW.Whole enc P f.params.toList s.vars apart W args.toList ds gs before) (hb : Below W.heap.size W W') :
    s.post enc P f apart fresh handsOn again W args (.bool true) W' := by
  have hlt : ∀ p ∈ before, p.block < W.heap.size := fun p hp => hW.lt p hp
  have hW0 := hW
  obtain ⟨pa, pv, hA, hV, hps, hz, hn⟩ := hW
  rw [hvars] at hV
  obtain ⟨rfl, rfl⟩ : gs = [] ∧ pv = [] := by
    cases gs <;> simp [DataW.TrodVars] at hV
    exact ⟨rfl, hV⟩
  rw [List.append_nil] at hps
  subst hps
  have hold : ∀ p ∈ before, (fun b => decide (b < W.heap.size)) p.block = true := fun p hp => by simpa using hlt p hp
  have hargs : ∀ sp : Nat → Bool, (∀ p ∈ before, sp p.block = true) → DataW.TrodAll enc P W' 0 sp true f.params.toList args.toList (s.fn H (ds ++ [])).args before := fun sp hsp => by
    rw [hfa]; exact trodAll_stays hl hb hr hA hlt sp hsp
  have hre : ∀ (b : Nat) (sp : Nat → Bool) (hd : Bool), DataW.TrodAll enc P W' b sp hd f.resultTypes.toList ((Value.bool true).resultList f.resultTypes.size) (s.fn H (ds ++ [])).results [] := fun b sp hd => by
    rw [hres, hfn]
    exact trodAll_mk1 (shut_bool htb true)
  have hva : ∀ sp : Nat → Bool, DataW.TrodVars enc P W' sp s.vars (s.fn H (ds ++ [])).vars [] := fun sp => by
    rw [hvars, hfv]; rfl
  refine ⟨ds, [], before, [], before, [], hW0, hre _ _ _, hargs _ hold, hva _, World.keptBut_mono (fun p hp => ⟨hp, ?_⟩) (hb.frame (· ∈ before)), fun _ => ?_⟩
  · exact .inr (.inl hp)
  · refine ⟨?_, _, _, ([] ++ before) ++ [], ⟨[] ++ before, [], trodAll_append (hargs _ (fun _ _ => rfl)) (hre _ _ _), hva _, rfl, ?_, ?_⟩, ?_⟩
    · intro j t r hj hr'
      rw [hres] at hj hr'
      match j, hj with
      | 0, hj =>
        simp at hj; subst hj
        simp [Value.resultList] at hr'
        subst hr'
        exact okWide_bool_mk htb true
    · intro b off hp
      have hin : MemPlace.cell b off ∈ before := by simpa using hp
      rw [hb.frozen (hlt _ hin)]
      exact hz b off hin
    · intro ha
      simpa using hn ha
    · intro p hp _
      simpa using hp
end
end Go.Proofs.Ytdoeegfcmbcbkaa.Opn


namespace Go.Proofs.Ytdoeegfcmbcbkaa.Ct
open Go Go.Eng Tr Opn
open Go.ChangeShapes Go.WideShapes Go.RowKit
set_option linter.unusedVariables false
set_option maxRecDepth 100000

theorem c9 : PP.cellsOf 9 = 1 := by kernel_rfl
theorem c3' : PP.cellsOf 3 = 1 := by kernel_rfl
theorem c4' : PP.cellsOf 4 = 1 := by kernel_rfl
theorem c30' : PP.cellsOf 30 = 1 := by kernel_rfl
theorem c44' : PP.cellsOf 44 = 1 := by kernel_rfl
theorem c45' : PP.cellsOf 45 = 1 := by kernel_rfl
theorem c46' : PP.cellsOf 46 = 1 := by kernel_rfl
theorem c84' : PP.cellsOf 84 = 3 := by kernel_rfl
theorem c91' : PP.cellsOf 91 = 4 := by kernel_rfl
theorem c48' : PP.cellsOf 48 = 8 := by kernel_rfl
def okT (x : TTarget) : Prop := x.Service.size ≤ maxLen ∧ x.Split.size ≤ maxLen
def okR (x : TRule) : Prop := x.Path.size ≤ maxLen ∧ x.Method.size ≤ maxLen ∧ x.Split.size ≤ maxLen
def okS' (x : TShare) : Prop := x.Service.size ≤ maxLen
def bkT (x : TTarget) : Nat := x.Service.size + x.Split.size + 1
def bkR (x : TRule) : Nat := x.Path.size + x.Method.size + x.Split.size + 1
def bkS (x : TShare) : Nat := x.Service.size + 1
theorem dec_target : Dec PP 84 TTarget.cells (fun _ x => okT x) bkT := ⟨fun {H enc w base spare held n cs y} h => by
  obtain ⟨xs, m, rfl, hy, hl, hxl, hf⟩ := DataW.trod_struct Try.underlying84 h
  rw [c84'] at hl
  obtain ⟨a, b, c, rfl⟩ := len3 hl
  obtain ⟨x, z, v, rfl⟩ := len3 (l := xs) (by simpa using hxl)
  obtain ⟨s, rfl, hs, hb0⟩ := fld (v := Value.string) (dec_str Try.underlying9) c9 (hf 0 _ rfl) rfl
  obtain ⟨u, rfl, hu, hb1⟩ := fld (v := Value.string) (dec_str Try.underlying9) c9 (hf 1 _ rfl) rfl
  obtain ⟨q, rfl, _, hb2⟩ := fld (v := Value.float .f64) (dec_flt Try.underlying30) c30' (hf 2 _ rfl) rfl
  refine ⟨⟨s, u, q⟩, rfl, ⟨hs, hu⟩, ?_⟩
  rw [hy]; simp only [bkT, Rows.uptoBulk, Rows.uptoBulkAll, List.map_cons, List.map_nil]; omega⟩
theorem dec_rule : Dec PP 91 TRule.cells (fun _ x => okR x) bkR := ⟨fun {H enc w base spare held n cs y} h => by
  obtain ⟨xs, m, rfl, hy, hl, hxl, hf⟩ := DataW.trod_struct Try.underlying91 h
  rw [c91'] at hl
  obtain ⟨a, b, c, d, rfl⟩ := len4 hl
  obtain ⟨x0, x1, x2, x3, rfl⟩ := len4 (l := xs) (by simpa using hxl)
  obtain ⟨s, rfl, hs, hb0⟩ := fld (v := Value.string) (dec_str Try.underlying9) c9 (hf 0 _ rfl) rfl
  obtain ⟨u, rfl, hu, hb1⟩ := fld (v := Value.string) (dec_str Try.underlying9) c9 (hf 1 _ rfl) rfl
  obtain ⟨q, rfl, hq, hb2⟩ := fld (v := Value.string) (dec_str Try.underlying9) c9 (hf 2 _ rfl) rfl
  obtain ⟨g, rfl, _, hb3⟩ := fld (v := Value.bool) (dec_bool Try.underlying4) c4' (hf 3 _ rfl) rfl
  refine ⟨⟨s, u, q, g⟩, rfl, ⟨hs, hu, hq⟩, ?_⟩
  rw [hy]; simp only [bkR, Rows.uptoBulk, Rows.uptoBulkAll, List.map_cons, List.map_nil]; omega⟩
structure OkD (d : DRes) : Prop where
  name : d.name.size ≤ maxLen
  ends : ∀ x ∈ d.ends, x.size ≤ maxLen
  targets : ∀ x ∈ d.targets, okT x
  host : d.host.size ≤ maxLen
  rules : ∀ x ∈ d.rules, okR x
  route : d.route.size ≤ maxLen
  kind : (Lit.int .i64 d.kind).wf = true
def bkD (d : DRes) : Nat := d.name.size + (d.ends.map fun x => x.size + 1).sum + (d.targets.map bkT).sum + d.host.size + (d.rules.map bkR).sum + d.route.size + 1
theorem dec_res : Dec PP 48 (fun x : TResource × DRes => TResource.cells x.1) (fun w x => ResD (fun _ => True) w x.1 x.2 ∧ OkD x.2) (fun x => bkD x.2) := ⟨fun {H enc w base spare held n cs y} h => by
  obtain ⟨xs, m, rfl, hy, hl, hxl, hf⟩ := DataW.trod_struct Try.underlying48 h
  rw [c48'] at hl
  obtain ⟨a0, a1, a2, a3, a4, a5, a6, a7, rfl⟩ := len8 hl
  obtain ⟨x0, x1, x2, x3, x4, x5, x6, x7, rfl⟩ := len8 (l := xs) (by simpa using hxl)
  obtain ⟨k, rfl, hk, hb0⟩ := fld (v := Value.int .i64) (dec_int Try.underlying3) c3' (hf 0 _ rfl) rfl
  obtain ⟨nm, rfl, hn, hb1⟩ := fld (v := Value.string) (dec_str Try.underlying9) c9 (hf 1 _ rfl) rfl
  obtain ⟨es, rfl, ⟨he, he'⟩, hb2⟩ := fld (v := fun x : Sl × List ByteArray => Sl.v x.1) (dec_slice (dec_str Try.underlying9) Try.underlying44 c9) c44' (hf 2 _ rfl) rfl
  obtain ⟨ts, rfl, ⟨ht, ht'⟩, hb3⟩ := fld (v := fun x : Sl × List TTarget => Sl.v x.1) (dec_slice dec_target Try.underlying45 c84') c45' (hf 3 _ rfl) rfl
  obtain ⟨ho, rfl, hh, hb4⟩ := fld (v := Value.string) (dec_str Try.underlying9) c9 (hf 4 _ rfl) rfl
  obtain ⟨rs, rfl, ⟨hr, hr'⟩, hb5⟩ := fld (v := fun x : Sl × List TRule => Sl.v x.1) (dec_slice dec_rule Try.underlying46 c91') c46' (hf 5 _ rfl) rfl
  obtain ⟨ro, rfl, hro, hb6⟩ := fld (v := Value.string) (dec_str Try.underlying9) c9 (hf 6 _ rfl) rfl
  obtain ⟨de, rfl, _, hb7⟩ := fld (v := Value.bool) (dec_bool Try.underlying4) c4' (hf 7 _ rfl) rfl
  refine ⟨(⟨k, nm, es.1, ts.1, ho, rs.1, ro, de⟩, ⟨k, nm, es.2, ts.2, ho, rs.2, ro, de⟩), rfl, ⟨⟨rfl, rfl, he, ht, rfl, hr, rfl, rfl⟩, ⟨hn, he', ht', hh, hr', hro, hk⟩⟩, ?_⟩
  rw [hy]; simp only [bkD, Rows.uptoBulk, Rows.uptoBulkAll, List.map_cons, List.map_nil]; omega⟩
structure Came (w : World) (s : Sl) (rs : List TResource) (l : List DRes) : Prop where
  conf : ConfD (fun _ => True) w s rs l
  ok : ∀ d ∈ l, OkD d
def bkL (l : List DRes) : Nat := (l.map bkD).sum
theorem came_of {H : Type} {enc : TypeId × Value → H} {w : World} {base : Nat} {spare : Nat → Bool} {held : Bool} {a : Option Addr} {n c : Nat} {d : DataW H} {ps : List MemPlace} (h : DataW.Trod enc PP w base spare held 22 (.slice a n c) d ps) :
    ∃ rs l, Came w ⟨a, n, c⟩ rs l ∧ bkL l + 1 ≤ Rows.uptoBulk d := by
  obtain ⟨m, hm⟩ := h
  obtain ⟨⟨s, l⟩, hs, ⟨hr, hq⟩, hb⟩ := (dec_slice (t := 22) dec_res Try.underlying22 c48').dec hm
  obtain rfl : s = ⟨a, n, c⟩ := by
    obtain ⟨a', n', c'⟩ := s
    simp [Value.cells, Sl.v] at hs
    obtain ⟨rfl, rfl, rfl⟩ := hs; rfl
  refine ⟨l.map (·.1), l.map (·.2), ⟨⟨rd_map hr, by simp, fun k h1 h2 => ?_⟩, fun d hd => ?_⟩, ?_⟩
  · simp only [List.getElem_map]
    exact (hq _ (List.getElem_mem (by simpa using h1))).1
  · obtain ⟨x, hx, rfl⟩ := List.mem_map.1 hd
    exact (hq x hx).2
  · have : bkL (l.map (·.2)) = (l.map fun x => bkD x.2).sum := by unfold bkL; rw [List.map_map]; rfl
    rw [this]; exact hb
theorem sum_len {α : Type} {f : α → Nat} (h : ∀ x, 1 ≤ f x) : ∀ l : List α, l.length ≤ (l.map f).sum
  | [] => Nat.zero_le _
  | x :: l => by have := sum_len h l; have := h x; simp only [List.length_cons, List.map_cons, List.sum_cons]; omega
theorem sum_mem {α : Type} {f : α → Nat} : ∀ {l : List α} {x : α}, x ∈ l → f x ≤ (l.map f).sum
  | y :: l, x, h => by
    simp only [List.map_cons, List.sum_cons]
    rcases List.mem_cons.1 h with rfl | h
    · omega
    · have := sum_mem (f := f) h; omega
theorem sum_le {α : Type} {f g : α → Nat} (h : ∀ x, f x ≤ g x) : ∀ l : List α, (l.map f).sum ≤ (l.map g).sum
  | [] => Nat.le_refl _
  | x :: l => by have := sum_le h l; have := h x; simp only [List.map_cons, List.sum_cons]; omega
theorem bkD_parts (d : DRes) : d.ends.length + d.targets.length + d.rules.length + 1 ≤ bkD d := by
  have h1 := sum_len (f := fun x : ByteArray => x.size + 1) (fun x => by omega) d.ends
  have h2 := sum_len (f := bkT) (fun x => by unfold bkT; omega) d.targets
  have h3 := sum_len (f := bkR) (fun x => by unfold bkR; omega) d.rules
  unfold bkD; omega
section
variable {l : List DRes} (hb : bkL l ≤ 1048576)
include hb
theorem bk_len : l.length ≤ 1048576 := by
  have := sum_len (f := bkD) (fun x => by have := bkD_parts x; omega) l
  unfold bkL at hb; omega
theorem bk_mem {d : DRes} (hd : d ∈ l) : bkD d ≤ 1048576 := by
  have := sum_mem (f := bkD) hd
  unfold bkL at hb; omega
theorem bk_small : ∀ d ∈ l, Small d := fun d hd => by
  have h1 := bk_mem hb hd
  have h2 := bkD_parts d
  exact ⟨by omega, by omega, by omega⟩
theorem bk_tot : tot l ≤ 1048576 := by
  have := sum_le (f := fun d : DRes => d.rules.length) (g := bkD) (fun d => by have := bkD_parts d; omega) l
  unfold tot; unfold bkL at hb; omega
end
theorem Came.fit {w : World} {s : Sl} {rs : List TResource} {l : List DRes} (h : Came w s rs l) (hb : bkL l ≤ 1048576) : Fit l :=
  ⟨fun d hd r hr => ((h.ok d hd).rules r hr).1, by have := bk_tot hb; omega⟩
end Go.Proofs.Ytdoeegfcmbcbkaa.Ct


namespace Go.Proofs.Ytdoeegfcmbcbkaa.Ct
open Go Go.Eng Tr
set_option linter.unusedVariables false
set_option maxRecDepth 100000

theorem stepsS_len (ys : List SH) : (stepsS ys).length ≤ ys.length := by
  have := rawS_len (ys := ys) ys.length (Nat.le_refl _)
  rw [List.take_length] at this
  unfold stepsS lastOne; rw [List.length_modify]; exact this
theorem fit_ans {l : List DRes} (ht : tot l ≤ 1048576) (hln : l.length ≤ 1048576) (v : Int) : FitT (ansC v l) := by
  unfold ansC
  split
  · exact ⟨Nat.zero_le _, Nat.zero_le _, (fun h hh => by cases hh), (fun h hh => by cases hh), (fun h hh => by cases hh)⟩
  · rename_i c
    have c0 : (faultM l).Err = 0 := Classical.byContradiction fun e => c (.inr e)
    have hf := fault_err c0
    have hm : ∀ h ∈ hostsS l, ∃ d ∈ l, h = hostD l d := fun h hh => by
      obtain ⟨d, hd, rfl⟩ := List.mem_map.1 (mem_stb.1 hh)
      exact ⟨d, (List.mem_filter.1 hd).1, rfl⟩
    have hfew := hf.few
    have hr : ∀ d ∈ l, d.rules.length ≤ tot l := fun d hd => by
      obtain ⟨i, hi, rfl⟩ := List.mem_iff_getElem.1 hd
      have := tot_upto l i hi; omega
    refine ⟨?_, ?_, fun h hh => ?_, fun h hh => ?_, fun h hh e he => ?_⟩
    · have := dk_len 3 l
      show (hostsS l).length ≤ _
      unfold hostsS; rw [stb_len, List.length_map]; omega
    · have := dk_len 1 l
      show (servS l).length ≤ _
      unfold servS; rw [List.length_map]; omega
    · obtain ⟨d, hd, rfl⟩ := hm h hh
      have := hr d hd
      show (d.rules.map (entD l)).length ≤ _
      rw [List.length_map]; omega
    · obtain ⟨d, hd, rfl⟩ := hm h hh
      have h1 := perm_len d.name (dk 4 l)
      have h2 := tot_filter 4 l
      show (permS l d.name).length ≤ _
      unfold permS; omega
    · obtain ⟨d, hd, rfl⟩ := hm h hh
      obtain ⟨r, hr', rfl⟩ := List.mem_map.1 he
      have h1 := stepsS_len (shF l r.Split)
      have h2 := (sh_ok hf.stand 9 r.Split).len
      show (stepsS (shF l r.Split)).length ≤ _
      unfold shF at h1 ⊢; omega
section
variable {w : World} {F : Nat → Prop} {s : Sl} {rs : List TResource} {l : List DRes}
theorem law_compiles (hc : ConfD F w s rs l) (hft : Fit l) (hsm : ∀ d ∈ l, Small d) (hln : l.length ≤ 1048576) (ht : tot l ≤ 1048576) (hh : ∀ d ∈ l, d.host.size ≤ maxLen) (v : Int) : Ans Value.bool 7 #[.int .i64 v, s.v] w true := by
  refine c7 ?_
  unfold f7
  refine (twin_ok2 hc hsm (by omega)).mono ?_
  rintro given w1 ⟨e1, rs', hg, hmk, hL⟩
  have g1 := e1.size
  refine (compile_ok hg hft ht hln hh v).mono ?_
  rintro ⟨ta, ea⟩ w2 ⟨e2, he, hta⟩
  dsimp only at he hta ⊢
  subst he
  have g2 := e2.size
  refine New.var (TTables.cells ta) sz53 rfl (oc_tab _) rfl fun b6 w3 e3 h6 n6 => ?_
  have g3 := e3.size
  have E3 := (e1.trans e2).trans e3
  refine (refCompile_ok (hc.ext E3) hft ht hh v).mono ?_
  rintro ⟨tb, eb⟩ w4 ⟨e4, he, htb⟩
  dsimp only at he htb ⊢
  subst he
  have g4 := e4.size
  refine New.var (TTables.cells tb) sz53 rfl (oc_tab _) rfl fun b8 w5 e5 h8 n8 => ?_
  have g5 := e5.size
  have E5 := (E3.trans e4).trans e5
  have h6' := (h6.ext e4).ext e5
  have hta5 := ((hta.ext e3).ext e4).ext e5
  have htb5 := htb.ext e5
  refine ⟨fun b w' => b = false ∧ Ext w5 w', ?_, ?_⟩
  · refine rn_blkN (x := ta) many53 h6' rfl rfl ?_
    refine rn_blkN (x := tb) many53 h8 rfl rfl ?_
    refine (same_ok hta5 htb5).mono ?_
    rintro _ w6 ⟨e6, rfl⟩
    refine iteF (by simp) ?_
    refine iteF (by simp) ?_
    have e16 := ((((e2.trans e3).trans e4).trans e5).trans e6)
    refine (stay_ok (hg.ext e16) (hc.ext (e1.trans e16)) (hmk.ext e16)).mono ?_
    rintro _ w7 ⟨e7, rfl⟩
    exact ⟨rfl, e6.trans e7⟩
  rintro _ w6 ⟨rfl, e6⟩
  refine iteF (by simp) ?_
  have g6 := e6.size
  refine rn_blkN (x := ta) many53 (h6'.ext e6) rfl rfl ?_
  refine (copy_ok (hta5.ext e6) (fit_ans ht hln v)).mono ?_
  rintro tc w7 ⟨e7, htc⟩
  have g7 := e7.size
  refine New.var (TTables.cells tc) sz53 rfl (oc_tab _) rfl fun b10 w8 e8 h10 n10 => ?_
  have e18 := ((((((e2.trans e3).trans e4).trans e5).trans e6).trans e7).trans e8)
  refine (gone_ok (hL.ext e18)).mono ?_
  rintro _ w9 ⟨c9, s9⟩
  have E9 : Ext w w9 := (e1.trans e18).then c9 (fun b hb => hb.1)
  have e58 := (e6.trans e7).trans e8
  have ta9 := (hta5.ext e58).chg c9 (fun b hb _ hs => by have := hb.1; have := hs.2; omega)
  have tb9 := (htb5.ext e58).chg c9 (fun b hb _ hs => by have := hb.1; have := hs.2; omega)
  have tc9 := (htc.ext e8).chg c9 (fun b hb _ hs => by have := hb.1; have := hs.2; omega)
  have l6 : ¬ (w.heap.size ≤ b6 ∧ b6 < w1.heap.size) := by omega
  have l8 : ¬ (w.heap.size ≤ b8 ∧ b8 < w1.heap.size) := by omega
  have l10 : ¬ (w.heap.size ≤ b10 ∧ b10 < w1.heap.size) := by omega
  have h69 := (h6'.ext e58).chg c9 l6
  have h89 := (h8.ext e58).chg c9 l8
  have h109 := h10.chg c9 l10
  refine ⟨fun b w' => b = true ∧ Ext w9 w', ?_, ?_⟩
  · refine rn_blkN (x := ta) many53 h69 rfl rfl ?_
    refine rn_blkN (x := tb) many53 h89 rfl rfl ?_
    refine (same_ok ta9 tb9).mono ?_
    rintro _ w10 ⟨e10, rfl⟩
    refine iteT rfl ?_
    refine rn_blkN (x := tc) many53 (h109.ext e10) rfl rfl ?_
    refine rn_blkN (x := tb) many53 (h89.ext e10) rfl rfl ?_
    refine (same_ok (tc9.ext e10) (tb9.ext e10)).mono ?_
    rintro _ w11 ⟨e11, rfl⟩
    exact ⟨rfl, e10.trans e11⟩
  · rintro _ w10 ⟨rfl, e10⟩
    exact ⟨E9.trans e10, rfl⟩
end
end Go.Proofs.Ytdoeegfcmbcbkaa.Ct


namespace Go.Proofs.Ytdoeegfcmbcbkaa.TablesCompiles
open Go Go.Eng Opn Ct
open Go.ChangeShapes Go.WideShapes Go.ChangeAt Go.RowKit
open Go.ChangeMaps (open_string)
set_option maxRecDepth 100000

theorem own : ownKnob Try.prog.godebug = none := by kernel_rfl
theorem laid : laidOutB Try.prog = true := by kernel_rfl
theorem reads : (Try.f7.params.toList.all fun t => Try.prog.readableRec t && decide (t < Try.prog.types.size)) = true := by kernel_rfl
theorem contract (H : Type) (enc : TypeId × Value → H) (W : World) (base : Nat) (args : Array Value) (ds gs : List (DataW H)) (before : List MemPlace)
    (hval : ∀ (j : Nat) t v, Try.f7.params[j]? = some t → args[j]? = some v → Value.okWide Try.prog W .any base t v)
    (hW : DataW.Whole enc Try.prog Try.f7.params.toList Rows.tablesCompilesSpec.vars false W args.toList ds gs before) (hk : Rows.uptoSmall H (ds ++ gs) = true) :
    Calls Try.prog 7 args W fun e W' => ∃ v, e = .returned v ∧ Rows.tablesCompilesSpec.post enc Try.prog Try.f7 false true false false W args v W' := by
  have hW' := hW
  obtain ⟨p, q, hA, hV, rfl, hfz, hnd⟩ := hW
  rw [Try.params7] at hA hval
  obtain ⟨v0, v1, d0, d1, p0, p1, rfl, rfl, rfl, h0, h1⟩ := trodAll_two hA
  obtain ⟨rfl, rfl⟩ : gs = [] ∧ q = [] := by
    have hV' : DataW.TrodVars enc Try.prog W (fun _ => true) [] gs q := hV
    cases gs <;> simp [DataW.TrodVars] at hV'
    exact ⟨rfl, hV'⟩
  obtain ⟨v, rfl, rfl, _, _⟩ := open_int Try.underlying3 (hval 0 3 v0 rfl rfl) h0
  obtain ⟨a1, n1, c1, rfl⟩ := okWide_slice Try.underlying22 (hval 1 22 v1 rfl rfl)
  have hbk : Rows.uptoBulkAll [DataW.lit (Lit.int IntKind.i64 v), d1] ≤ 1048576 := by
    have := of_decide_eq_true hk
    simpa using this
  simp only [Rows.uptoBulkAll] at hbk
  obtain ⟨rs, l, hc, hb0⟩ := came_of h1
  have hbl : bkL l ≤ 1048576 := by omega
  refine Calls.mono (law_compiles hc.conf (hc.fit hbl) (bk_small hbl) (bk_len hbl) (bk_tot hbl) (fun d hd => (hc.ok d hd).host) v) ?_
  rintro e W' ⟨r, rfl, hE, rfl⟩
  exact ⟨_, rfl, post_true laid reads rfl Try.underlying4 rfl rfl rfl rfl hW' hE⟩

theorem lifted (os : Os) (started : os.Started) (H : Type) (enc : TypeId × Value → H) (F : Stop.Interp) :
    ReturnsInHanded {} Try.checked os 7 .any ((Rows.OpenSpec.upto Rows.tablesCompilesSpec).pre6 enc Try.prog Try.f7 Rows.tablesCompilesUptoRow.domain false) (((Rows.OpenSpec.upto Rows.tablesCompilesSpec).at F).post enc Try.prog Try.f7 false true false false) := by
  refine returnsInHanded_of_cond (C := Try.checked) (s := Rows.OpenSpec.upto Rows.tablesCompilesSpec) (k := Rows.uptoSmall) rfl own started (by kernel_rfl) Try.func7
    (OpenSpec.witness (enc := enc) (C := Try.checked) (s := Rows.OpenSpec.upto Rows.tablesCompilesSpec) (k := Rows.uptoSmall) rfl false ⟨#[], #[.int .i64 0, .slice none 0 0], []⟩ 8 (by kernel_rfl) (by kernel_rfl) (by kernel_rfl)
      (x := ([.lit (.int .i64 0), .nil], [], [])) (by kernel_rfl) rfl (by kernel_rfl)) ?_
  intro W base args ds gs before hval hW _ hk _
  exact contract H enc W base args ds gs before hval hW hk
theorem tablesCompiles_holds : Rows.TablesCompilesUptoSaid :=
  OpenClaim.holds_of_cond 7 Try.f7 rfl rfl rfl rfl rfl rfl rfl ⟨rfl, rfl, rfl, rfl, rfl⟩ rfl rfl rfl rfl rfl (by kernel_rfl) Try.func7 (by kernel_rfl)
    (of_decide_eq_true (by kernel_rfl)) (by unfold Func.isWrapper; rw [if_neg (of_decide_eq_false (by kernel_rfl))]; exact ⟨rfl, rfl⟩)
    (fun os started H enc _ F => lifted os started H enc F)
end Go.Proofs.Ytdoeegfcmbcbkaa.TablesCompiles


