/- TablesFirst, where what comes in holds at most 1048576 values and letters: for each configuration and name the law answers true, and each argument reads as before. -/
import Derived.Test.YtdoeegfcmbcbkaaCZ3
import Derived.Test.YtdoeegfcmbcbkaaRows
import Derived.ProofKit
import Derived.OpenShut
import Derived.JoinedCond
import Derived.Carry
import Derived.Deep.Slices
set_option linter.all false
namespace Go.Proofs.Ytdoeegfcmbcbkaa.Opn
open Go Go.Eng
open Go.ChangeShapes Go.WideShapes Go.RowKit
set_option linter.unusedVariables false

theorem list_of {α : Type} : ∀ {n : Nat} {p : Nat → α → Prop}, (∀ i, i < n → ∃ x, p i x) → ∃ l : List α, l.length = n ∧ ∀ i (h : i < l.length), p i l[i]
  | 0, _, _ => ⟨[], rfl, fun i h => absurd h (Nat.not_lt_zero _)⟩
  | n + 1, p, h => by
    obtain ⟨l, hl, hp⟩ := list_of (n := n) (p := p) fun i hi => h i (by omega)
    obtain ⟨x, hx⟩ := h n (Nat.lt_succ_self n)
    refine ⟨l ++ [x], by simp [hl], fun i hi => ?_⟩
    by_cases c : i < l.length
    · rw [List.getElem_append_left c]; exact hp i c
    · have : i = l.length := by simp at hi; omega
      subst this
      simpa [hl] using hx
theorem bulk_sum {H α : Type} {bulk : α → Nat} : ∀ (l : List α) (ds : List (DataW H)), l.length = ds.length → (∀ i (h : i < l.length) (h' : i < ds.length), bulk l[i] ≤ Rows.uptoBulk ds[i]) → (l.map bulk).sum ≤ Rows.uptoBulkAll ds
  | [], [], _, _ => Nat.zero_le _
  | x :: l, d :: ds, hl, h => by
    have h0 := h 0 (by simp) (by simp)
    have := bulk_sum l ds (by simpa using hl) fun i a b => h (i + 1) (Nat.succ_lt_succ a) (Nat.succ_lt_succ b)
    simp only [List.map_cons, List.sum_cons, Rows.uptoBulkAll, List.getElem_cons_zero] at h0 ⊢
    omega
  | [], d :: ds, hl, _ => by simp at hl
  | x :: l, [], hl, _ => by simp at hl

structure Dec {α : Type} (P : Program) (t : TypeId) (cells : α → List Value) (Q : World → α → Prop) (bulk : α → Nat) : Prop where
  dec : ∀ {H : Type} {enc : TypeId × Value → H} {w : World} {base : Nat} {spare : Nat → Bool} {held : Bool} {n : Nat} {cs : List Value} {y : DataW H × List MemPlace},
    DataW.trod enc P w base spare held n t cs = some y → ∃ x : α, cs = cells x ∧ Q w x ∧ bulk x ≤ Rows.uptoBulk y.1
section
variable {P : Program} {t : TypeId}
def strC (x : ByteArray) : List Value := [.string x]
theorem dec_str (hu : P.underlying t = some .string) : Dec P t strC (fun _ x => x.size ≤ maxLen) (fun x => x.size + 1) := ⟨fun h => by
  obtain ⟨s, rfl, rfl, hs⟩ := DataW.trod_string hu h
  refine ⟨s, rfl, hs, ?_⟩
  have e : s.data.toList.length = s.size := by rw [Array.length_toList]; rfl
  simp only [Rows.uptoBulk, e]; omega⟩
theorem dec_int {k : IntKind} (hu : P.underlying t = some (.int k)) : Dec P t (fun x : Int => [.int k x]) (fun _ x => (Lit.int k x).wf = true) (fun _ => 1) := ⟨fun h => by
  obtain ⟨s, rfl, rfl, hs⟩ := DataW.trod_int hu h
  exact ⟨s, rfl, hs, by simp [Rows.uptoBulk]⟩⟩
theorem dec_bool (hu : P.underlying t = some .bool) : Dec P t (fun x : Bool => [.bool x]) (fun _ _ => True) (fun _ => 1) := ⟨fun h => by
  obtain ⟨s, rfl, rfl⟩ := DataW.trod_bool hu h
  exact ⟨s, rfl, trivial, by simp [Rows.uptoBulk]⟩⟩
theorem dec_flt {k : FloatKind} (hu : P.underlying t = some (.float k)) : Dec P t (fun x : Nat => [.float k x]) (fun _ _ => True) (fun _ => 1) := ⟨fun {H enc w base spare held n cs y} h => by
  have : ∃ b, cs = [.float k b] ∧ y.1 = .lit (.float k b) := by
    cases n with
    | zero => simp [DataW.trod] at h
    | succ n =>
      unfold DataW.trod at h
      rw [hu] at h
      split at h <;> simp_all
      rw [← h.2]
  obtain ⟨b, rfl, hy⟩ := this
  exact ⟨b, rfl, trivial, by rw [hy]; simp [Rows.uptoBulk]⟩⟩
theorem dec_slice {α : Type} {e sz : Nat} {cells : α → List Value} {Q : World → α → Prop} {bulk : α → Nat} (d : Dec P e cells Q bulk) (ht : P.underlying t = some (.slice e)) (hsz : P.cellsOf e = sz) :
    Dec P t (fun x : Sl × List α => [Sl.v x.1]) (fun w x => Rd cells sz (fun _ => True) w x.1 x.2 ∧ ∀ y ∈ x.2, Q w y) (fun x => (x.2.map bulk).sum + 1) := ⟨fun {H enc w base spare held n cs y} h => by
  subst hsz
  rcases DataW.trod_slice ht h with ⟨rfl, rfl⟩ | ⟨a, len, cap, elems, rest, m, rfl, rfl, rfl, hb, hl, hc, hlen, hel, _⟩
  · exact ⟨(Sl.nil, []), rfl, ⟨Rd.nil_ _ _, fun y hy => by cases hy⟩, by simp [Rows.uptoBulk]⟩
  · obtain ⟨l, hll, hp⟩ := list_of (n := len) (p := fun i (x : α) => At w (a.add (i * P.cellsOf e)) (cells x) ∧ Q w x ∧ ∀ (h : i < elems.length), bulk x ≤ Rows.uptoBulk elems[i].1) fun i hi => by
      have h1 := hel i hi
      have hi' : i < elems.length := by omega
      rw [List.getElem?_eq_getElem hi', Option.bind_eq_some_iff] at h1
      obtain ⟨cs, h2, h3⟩ := h1
      obtain ⟨x, rfl, hq, hbk⟩ := d.dec h3
      obtain ⟨_, hcl, hcell⟩ := World.cells?_some h2
      exact ⟨x, fun j hj => by rw [hcell j (by omega), List.getElem?_eq_getElem hj], hq, fun _ => hbk⟩
    refine ⟨(⟨some a, len, cap⟩, l), rfl, ⟨⟨hll.symm, hl, hc, fun k hk => ⟨a, rfl, trivial, (hp k hk).1⟩⟩, fun y hy => ?_⟩, ?_⟩
    · obtain ⟨i, hi, rfl⟩ := List.mem_iff_getElem.1 hy
      exact (hp i hi).2.1
    · have := bulk_sum (bulk := bulk) l (elems.map (·.1)) (by simp; omega) fun i a b => by
        rw [List.getElem_map]; exact (hp i a).2.2 (by simpa using b)
      simp only [Rows.uptoBulk]; omega⟩
theorem len3 {α : Type} : ∀ {l : List α}, l.length = 3 → ∃ a b c, l = [a, b, c]
  | [a, b, c], _ => ⟨a, b, c, rfl⟩
theorem len4 {α : Type} : ∀ {l : List α}, l.length = 4 → ∃ a b c d, l = [a, b, c, d]
  | [a, b, c, d], _ => ⟨a, b, c, d, rfl⟩
theorem len8 {α : Type} : ∀ {l : List α}, l.length = 8 → ∃ a b c d e f g h, l = [a, b, c, d, e, f, g, h]
  | [a, b, c, d, e, f, g, h], _ => ⟨a, b, c, d, e, f, g, h, rfl⟩
theorem fld {α : Type} {H : Type} {enc : TypeId × Value → H} {w : World} {base : Nat} {spare : Nat → Bool} {held : Bool} {n : Nat} {cs : List Value} {c : Value} {y : DataW H × List MemPlace} {o : Nat} {v : α → Value} {Q : World → α → Prop} {bulk : α → Nat}
    (d : Dec P t (fun x => [v x]) Q bulk) (hk : P.cellsOf t = 1) (h : DataW.trod enc P w base spare held n t ((cs.drop o).take (P.cellsOf t)) = some y) (hc : cs[o]? = some c) : ∃ x, c = v x ∧ Q w x ∧ bulk x ≤ Rows.uptoBulk y.1 := by
  rw [hk] at h
  have e : (cs.drop o).take 1 = [c] := by
    obtain ⟨ho, rfl⟩ := List.getElem?_eq_some_iff.1 hc
    rw [List.drop_eq_getElem_cons ho]; rfl
  rw [e] at h
  obtain ⟨x, hx, hq, hb⟩ := d.dec h
  exact ⟨x, by simpa using hx, hq, hb⟩
theorem rd_map {α β : Type} {cells : β → List Value} {sz : Nat} {F : Nat → Prop} {w : World} {s : Sl} {g : α → β} {l : List α} (h : Rd (fun x => cells (g x)) sz F w s l) : Rd cells sz F w s (l.map g) :=
  ⟨by simpa using h.len, h.cap, h.lim, fun k hk => by simpa using h.el k (by simpa using hk)⟩
end

section
variable {H : Type} {enc : TypeId × Value → H} {P : Program}
theorem trodAll_stays (hl : laidOutB P = true) {W W' : World} (hb : Below W.heap.size W W') : ∀ {ts : List TypeId} {vs : List Value} {ds : List (DataW H)} {ps : List MemPlace},
    (ts.all fun t => P.readableRec t && decide (t < P.types.size)) = true → DataW.TrodAll enc P W 0 (fun _ => true) true ts vs ds ps → (∀ x ∈ ps, x.block < W.heap.size) → ∀ sp : Nat → Bool, (∀ p ∈ ps, sp p.block = true) →
    DataW.TrodAll enc P W' 0 sp true ts vs ds ps
  | [], vs, ds, ps, _, h, _, sp, _ => by
    cases vs <;> cases ds <;> simp [DataW.TrodAll] at h ⊢
    exact h
  | t :: ts, vs, ds, ps, hr, h, hlt, sp, hsp => by
    simp only [List.all_cons, Bool.and_eq_true, decide_eq_true_eq] at hr
    obtain ⟨v, vs', d, ds', p, q, rfl, rfl, rfl, h1, h2⟩ := trodAll_cons h
    exact ⟨p, q, WideElems.Trod_stays hl hr.1.1 hr.1.2 h1 (fun x hx => hb.same (hlt x (List.mem_append.2 (.inl hx)))) (fun x hx => hsp x (List.mem_append.2 (.inl hx))),
      trodAll_stays hl hb (by simpa using hr.2) h2 (fun x hx => hlt x (List.mem_append.2 (.inr hx))) sp (fun x hx => hsp x (List.mem_append.2 (.inr hx))), rfl⟩
theorem post_true {f : Func} {s : ChangeSpec} {apart fresh handsOn again : Bool} {W W' : World} {args : Array Value} {ds gs : List (DataW H)} {before : List MemPlace} {tb : TypeId}
    (hl : laidOutB P = true) (hr : (f.params.toList.all fun t => P.readableRec t && decide (t < P.types.size)) = true) (hres : f.resultTypes = #[tb]) (htb : P.underlying tb = some .bool) (hvars : s.vars = [])
    (hfn : (s.fn H (ds ++ gs)).results = [.lit (.bool true)]) (hfa : (s.fn H (ds ++ gs)).args = ds) (hfv : (s.fn H (ds ++ gs)).vars = [])
    (hW : DataW.Whole enc P f.params.toList s.vars apart W args.toList ds gs before) (hb : Below W.heap.size W W') :
    s.post enc P f apart fresh handsOn again W args (.bool true) W' := by
  have hlt : ∀ p ∈ before, p.block < W.heap.size := fun p hp => hW.lt p hp
  have hW0 := hW
  obtain ⟨pa, pv, hA, hV, hps, hz, hn⟩ := hW
  rw [hvars] at hV
  obtain ⟨rfl, rfl⟩ : gs = [] ∧ pv = [] := by
    cases gs <;> simp [DataW.TrodVars] at hV
    exact ⟨rfl, hV⟩
  rw [List.append_nil] at hps
  subst hps
  have hold : ∀ p ∈ before, (fun b => decide (b < W.heap.size)) p.block = true := fun p hp => by simpa using hlt p hp
  have hargs : ∀ sp : Nat → Bool, (∀ p ∈ before, sp p.block = true) → DataW.TrodAll enc P W' 0 sp true f.params.toList args.toList (s.fn H (ds ++ [])).args before := fun sp hsp => by
    rw [hfa]; exact trodAll_stays hl hb hr hA hlt sp hsp
  have hre : ∀ (b : Nat) (sp : Nat → Bool) (hd : Bool), DataW.TrodAll enc P W' b sp hd f.resultTypes.toList ((Value.bool true).resultList f.resultTypes.size) (s.fn H (ds ++ [])).results [] := fun b sp hd => by
    rw [hres, hfn]
    exact trodAll_mk1 (shut_bool htb true)
  have hva : ∀ sp : Nat → Bool, DataW.TrodVars enc P W' sp s.vars (s.fn H (ds ++ [])).vars [] := fun sp => by
    rw [hvars, hfv]; rfl
  refine ⟨ds, [], before, [], before, [], hW0, hre _ _ _, hargs _ hold, hva _, World.keptBut_mono (fun p hp => ⟨hp, ?_⟩) (hb.frame (· ∈ before)), fun _ => ?_⟩
  · exact .inr (.inl hp)
  · refine ⟨?_, _, _, ([] ++ before) ++ [], ⟨[] ++ before, [], trodAll_append (hargs _ (fun _ _ => rfl)) (hre _ _ _), hva _, rfl, ?_, ?_⟩, ?_⟩
    · intro j t r hj hr'
      rw [hres] at hj hr'
      match j, hj with
      | 0, hj =>
        simp at hj; subst hj
        simp [Value.resultList] at hr'
        subst hr'
        exact okWide_bool_mk htb true
    · intro b off hp
      have hin : MemPlace.cell b off ∈ before := by simpa using hp
      rw [hb.frozen (hlt _ hin)]
      exact hz b off hin
    · intro ha
      simpa using hn ha
    · intro p hp _
      simpa using hp
end
end Go.Proofs.Ytdoeegfcmbcbkaa.Opn


namespace Go.Proofs.Ytdoeegfcmbcbkaa.Ct
open Go Go.Eng Tr Opn
open Go.ChangeShapes Go.WideShapes Go.RowKit
set_option linter.unusedVariables false
set_option maxRecDepth 100000

theorem c9 : PP.cellsOf 9 = 1 := by kernel_rfl
theorem c3' : PP.cellsOf 3 = 1 := by kernel_rfl
theorem c4' : PP.cellsOf 4 = 1 := by kernel_rfl
theorem c30' : PP.cellsOf 30 = 1 := by kernel_rfl
theorem c44' : PP.cellsOf 44 = 1 := by kernel_rfl
theorem c45' : PP.cellsOf 45 = 1 := by kernel_rfl
theorem c46' : PP.cellsOf 46 = 1 := by kernel_rfl
theorem c84' : PP.cellsOf 84 = 3 := by kernel_rfl
theorem c91' : PP.cellsOf 91 = 4 := by kernel_rfl
theorem c48' : PP.cellsOf 48 = 8 := by kernel_rfl
def okT (x : TTarget) : Prop := x.Service.size ≤ maxLen ∧ x.Split.size ≤ maxLen
def okR (x : TRule) : Prop := x.Path.size ≤ maxLen ∧ x.Method.size ≤ maxLen ∧ x.Split.size ≤ maxLen
def okS' (x : TShare) : Prop := x.Service.size ≤ maxLen
def bkT (x : TTarget) : Nat := x.Service.size + x.Split.size + 1
def bkR (x : TRule) : Nat := x.Path.size + x.Method.size + x.Split.size + 1
def bkS (x : TShare) : Nat := x.Service.size + 1
theorem dec_target : Dec PP 84 TTarget.cells (fun _ x => okT x) bkT := ⟨fun {H enc w base spare held n cs y} h => by
  obtain ⟨xs, m, rfl, hy, hl, hxl, hf⟩ := DataW.trod_struct Try.underlying84 h
  rw [c84'] at hl
  obtain ⟨a, b, c, rfl⟩ := len3 hl
  obtain ⟨x, z, v, rfl⟩ := len3 (l := xs) (by simpa using hxl)
  obtain ⟨s, rfl, hs, hb0⟩ := fld (v := Value.string) (dec_str Try.underlying9) c9 (hf 0 _ rfl) rfl
  obtain ⟨u, rfl, hu, hb1⟩ := fld (v := Value.string) (dec_str Try.underlying9) c9 (hf 1 _ rfl) rfl
  obtain ⟨q, rfl, _, hb2⟩ := fld (v := Value.float .f64) (dec_flt Try.underlying30) c30' (hf 2 _ rfl) rfl
  refine ⟨⟨s, u, q⟩, rfl, ⟨hs, hu⟩, ?_⟩
  rw [hy]; simp only [bkT, Rows.uptoBulk, Rows.uptoBulkAll, List.map_cons, List.map_nil]; omega⟩
theorem dec_rule : Dec PP 91 TRule.cells (fun _ x => okR x) bkR := ⟨fun {H enc w base spare held n cs y} h => by
  obtain ⟨xs, m, rfl, hy, hl, hxl, hf⟩ := DataW.trod_struct Try.underlying91 h
  rw [c91'] at hl
  obtain ⟨a, b, c, d, rfl⟩ := len4 hl
  obtain ⟨x0, x1, x2, x3, rfl⟩ := len4 (l := xs) (by simpa using hxl)
  obtain ⟨s, rfl, hs, hb0⟩ := fld (v := Value.string) (dec_str Try.underlying9) c9 (hf 0 _ rfl) rfl
  obtain ⟨u, rfl, hu, hb1⟩ := fld (v := Value.string) (dec_str Try.underlying9) c9 (hf 1 _ rfl) rfl
  obtain ⟨q, rfl, hq, hb2⟩ := fld (v := Value.string) (dec_str Try.underlying9) c9 (hf 2 _ rfl) rfl
  obtain ⟨g, rfl, _, hb3⟩ := fld (v := Value.bool) (dec_bool Try.underlying4) c4' (hf 3 _ rfl) rfl
  refine ⟨⟨s, u, q, g⟩, rfl, ⟨hs, hu, hq⟩, ?_⟩
  rw [hy]; simp only [bkR, Rows.uptoBulk, Rows.uptoBulkAll, List.map_cons, List.map_nil]; omega⟩
structure OkD (d : DRes) : Prop where
  name : d.name.size ≤ maxLen
  ends : ∀ x ∈ d.ends, x.size ≤ maxLen
  targets : ∀ x ∈ d.targets, okT x
  host : d.host.size ≤ maxLen
  rules : ∀ x ∈ d.rules, okR x
  route : d.route.size ≤ maxLen
  kind : (Lit.int .i64 d.kind).wf = true
def bkD (d : DRes) : Nat := d.name.size + (d.ends.map fun x => x.size + 1).sum + (d.targets.map bkT).sum + d.host.size + (d.rules.map bkR).sum + d.route.size + 1
theorem dec_res : Dec PP 48 (fun x : TResource × DRes => TResource.cells x.1) (fun w x => ResD (fun _ => True) w x.1 x.2 ∧ OkD x.2) (fun x => bkD x.2) := ⟨fun {H enc w base spare held n cs y} h => by
  obtain ⟨xs, m, rfl, hy, hl, hxl, hf⟩ := DataW.trod_struct Try.underlying48 h
  rw [c48'] at hl
  obtain ⟨a0, a1, a2, a3, a4, a5, a6, a7, rfl⟩ := len8 hl
  obtain ⟨x0, x1, x2, x3, x4, x5, x6, x7, rfl⟩ := len8 (l := xs) (by simpa using hxl)
  obtain ⟨k, rfl, hk, hb0⟩ := fld (v := Value.int .i64) (dec_int Try.underlying3) c3' (hf 0 _ rfl) rfl
  obtain ⟨nm, rfl, hn, hb1⟩ := fld (v := Value.string) (dec_str Try.underlying9) c9 (hf 1 _ rfl) rfl
  obtain ⟨es, rfl, ⟨he, he'⟩, hb2⟩ := fld (v := fun x : Sl × List ByteArray => Sl.v x.1) (dec_slice (dec_str Try.underlying9) Try.underlying44 c9) c44' (hf 2 _ rfl) rfl
  obtain ⟨ts, rfl, ⟨ht, ht'⟩, hb3⟩ := fld (v := fun x : Sl × List TTarget => Sl.v x.1) (dec_slice dec_target Try.underlying45 c84') c45' (hf 3 _ rfl) rfl
  obtain ⟨ho, rfl, hh, hb4⟩ := fld (v := Value.string) (dec_str Try.underlying9) c9 (hf 4 _ rfl) rfl
  obtain ⟨rs, rfl, ⟨hr, hr'⟩, hb5⟩ := fld (v := fun x : Sl × List TRule => Sl.v x.1) (dec_slice dec_rule Try.underlying46 c91') c46' (hf 5 _ rfl) rfl
  obtain ⟨ro, rfl, hro, hb6⟩ := fld (v := Value.string) (dec_str Try.underlying9) c9 (hf 6 _ rfl) rfl
  obtain ⟨de, rfl, _, hb7⟩ := fld (v := Value.bool) (dec_bool Try.underlying4) c4' (hf 7 _ rfl) rfl
  refine ⟨(⟨k, nm, es.1, ts.1, ho, rs.1, ro, de⟩, ⟨k, nm, es.2, ts.2, ho, rs.2, ro, de⟩), rfl, ⟨⟨rfl, rfl, he, ht, rfl, hr, rfl, rfl⟩, ⟨hn, he', ht', hh, hr', hro, hk⟩⟩, ?_⟩
  rw [hy]; simp only [bkD, Rows.uptoBulk, Rows.uptoBulkAll, List.map_cons, List.map_nil]; omega⟩
structure Came (w : World) (s : Sl) (rs : List TResource) (l : List DRes) : Prop where
  conf : ConfD (fun _ => True) w s rs l
  ok : ∀ d ∈ l, OkD d
def bkL (l : List DRes) : Nat := (l.map bkD).sum
theorem came_of {H : Type} {enc : TypeId × Value → H} {w : World} {base : Nat} {spare : Nat → Bool} {held : Bool} {a : Option Addr} {n c : Nat} {d : DataW H} {ps : List MemPlace} (h : DataW.Trod enc PP w base spare held 22 (.slice a n c) d ps) :
    ∃ rs l, Came w ⟨a, n, c⟩ rs l ∧ bkL l + 1 ≤ Rows.uptoBulk d := by
  obtain ⟨m, hm⟩ := h
  obtain ⟨⟨s, l⟩, hs, ⟨hr, hq⟩, hb⟩ := (dec_slice (t := 22) dec_res Try.underlying22 c48').dec hm
  obtain rfl : s = ⟨a, n, c⟩ := by
    obtain ⟨a', n', c'⟩ := s
    simp [Value.cells, Sl.v] at hs
    obtain ⟨rfl, rfl, rfl⟩ := hs; rfl
  refine ⟨l.map (·.1), l.map (·.2), ⟨⟨rd_map hr, by simp, fun k h1 h2 => ?_⟩, fun d hd => ?_⟩, ?_⟩
  · simp only [List.getElem_map]
    exact (hq _ (List.getElem_mem (by simpa using h1))).1
  · obtain ⟨x, hx, rfl⟩ := List.mem_map.1 hd
    exact (hq x hx).2
  · have : bkL (l.map (·.2)) = (l.map fun x => bkD x.2).sum := by unfold bkL; rw [List.map_map]; rfl
    rw [this]; exact hb
theorem sum_len {α : Type} {f : α → Nat} (h : ∀ x, 1 ≤ f x) : ∀ l : List α, l.length ≤ (l.map f).sum
  | [] => Nat.zero_le _
  | x :: l => by have := sum_len h l; have := h x; simp only [List.length_cons, List.map_cons, List.sum_cons]; omega
theorem sum_mem {α : Type} {f : α → Nat} : ∀ {l : List α} {x : α}, x ∈ l → f x ≤ (l.map f).sum
  | y :: l, x, h => by
    simp only [List.map_cons, List.sum_cons]
    rcases List.mem_cons.1 h with rfl | h
    · omega
    · have := sum_mem (f := f) h; omega
theorem sum_le {α : Type} {f g : α → Nat} (h : ∀ x, f x ≤ g x) : ∀ l : List α, (l.map f).sum ≤ (l.map g).sum
  | [] => Nat.le_refl _
  | x :: l => by have := sum_le h l; have := h x; simp only [List.map_cons, List.sum_cons]; omega
theorem bkD_parts (d : DRes) : d.ends.length + d.targets.length + d.rules.length + 1 ≤ bkD d := by
  have h1 := sum_len (f := fun x : ByteArray => x.size + 1) (fun x => by omega) d.ends
  have h2 := sum_len (f := bkT) (fun x => by unfold bkT; omega) d.targets
  have h3 := sum_len (f := bkR) (fun x => by unfold bkR; omega) d.rules
  unfold bkD; omega
section
variable {l : List DRes} (hb : bkL l ≤ 1048576)
include hb
theorem bk_len : l.length ≤ 1048576 := by
  have := sum_len (f := bkD) (fun x => by have := bkD_parts x; omega) l
  unfold bkL at hb; omega
theorem bk_mem {d : DRes} (hd : d ∈ l) : bkD d ≤ 1048576 := by
  have := sum_mem (f := bkD) hd
  unfold bkL at hb; omega
theorem bk_small : ∀ d ∈ l, Small d := fun d hd => by
  have h1 := bk_mem hb hd
  have h2 := bkD_parts d
  exact ⟨by omega, by omega, by omega⟩
theorem bk_tot : tot l ≤ 1048576 := by
  have := sum_le (f := fun d : DRes => d.rules.length) (g := bkD) (fun d => by have := bkD_parts d; omega) l
  unfold tot; unfold bkL at hb; omega
end
theorem Came.fit {w : World} {s : Sl} {rs : List TResource} {l : List DRes} (h : Came w s rs l) (hb : bkL l ≤ 1048576) : Fit l :=
  ⟨fun d hd r hr => ((h.ok d hd).rules r hr).1, by have := bk_tot hb; omega⟩
end Go.Proofs.Ytdoeegfcmbcbkaa.Ct


namespace Go.Proofs.Ytdoeegfcmbcbkaa.Ct
open Go Go.Eng Tr
set_option linter.unusedVariables false
set_option maxRecDepth 100000

section
variable {w : World} {F : Nat → Prop} {s : Sl} {rs : List TResource} {l : List DRes}
end
end Go.Proofs.Ytdoeegfcmbcbkaa.Ct


namespace Go.Proofs.Ytdoeegfcmbcbkaa.Ct
open Go Go.Eng Tr
set_option linter.unusedVariables false
set_option maxRecDepth 100000

def endsB (x y : ByteArray) : Bool := decide (y.size ≤ x.size) && decide (x.extract (x.size - y.size) x.size = y)
def covS (p n : ByteArray) : Bool := match foldB n with
  | none => false
  | some f => if (hostS p).1 = 0 then decide ((hostS p).2 = f) else if (hostS p).1 = 1 then endsB f ((⟨#[46]⟩ : ByteArray) ++ (hostS p).2) else decide ((hostS p).1 = 2)
def covAt (xs : List ByteArray) (n : ByteArray) (i : Nat) : Bool := match xs[i]? with
  | some x => covS x n
  | none => false
theorem covAt_eq {xs : List ByteArray} {n : ByteArray} {i : Nat} (h : i < xs.length) : covAt xs n i = covS xs[i] n := by simp [covAt, h]
theorem foldB_size {y h : ByteArray} (hy : foldB y = some h) : h.size ≤ 64 := by
  unfold foldB at hy
  split at hy
  · rename_i hh
    cases hy
    have : (y.data.toList.map lowB).length = y.size := by simp
    show ((y.data.toList.map lowB).toArray).size ≤ 64
    rw [List.size_toArray, this]; exact hh.2.1
  · cases hy
theorem hostS_one {p : ByteArray} (h : (hostS p).1 = 1) : (hostS p).2.size ≤ 64 := by
  unfold hostS at h ⊢
  split at h
  · cases h
  · rename_i c1
    rw [if_neg c1]
    split at h
    · rename_i c2
      rw [if_pos c2]
      split at h
      · rename_i y hy
        exact foldB_size hy
      · cases h
    · split at h <;> cases h
section
variable {w : World} {F : Nat → Prop} {s : Sl}
theorem ends_exact (x y : ByteArray) (hx : x.size ≤ maxLen) : Ans Value.bool 120 #[.string x, .string y] w (endsB x y) := by
  refine c120 ?_
  unfold f120
  refine Cal.mono (K := fun r w' => Ext w w' ∧ r = endsB x y) ?_ (fun _ _ h => h)
  refine c139 ?_
  unfold f139 endsB
  refine Jn.dup ?_
  by_cases c : (y.size : Int) ≤ (x.size : Int)
  · refine iteT c ?_
    refine rnp_str_from (k := x.size - y.size) Try.underlying9 ?_ (by omega) ⟨Ext.refl _, ?_⟩
    · rw [wrap_sub hx (by omega)]
    · rw [decide_eq_true (by omega : y.size ≤ x.size), Bool.true_and]
  · exact iteF c ⟨Ext.refl _, by rw [decide_eq_false (by omega : ¬ y.size ≤ x.size), Bool.false_and]⟩
theorem covers_host_ok (p n : ByteArray) (hp : p.size ≤ maxLen) : Ans Value.bool 92 #[.string p, .string n] w (covS p n) := by
  refine c92 ?_
  unfold f92
  refine (fold_ok n).mono ?_
  rintro _ w1 ⟨e1, rfl⟩
  unfold covS
  cases hf : foldB n with
  | none => rw [foldR_none hf]; exact iteT rfl ⟨e1, rfl⟩
  | some f =>
    rw [foldR_some hf]
    have h64 := foldB_size hf
    refine iteF (by simp) ?_
    refine (host_ok p hp).mono ?_
    rintro _ w2 ⟨e2, rfl⟩
    have hr : (hostS p).1 = 1 → (hostS p).2.size ≤ 64 := hostS_one
    have e12 := e1.trans e2
    generalize hostS p = q at hr
    dsimp only
    by_cases c0 : q.1 = 0
    · exact iteT c0 ⟨e12, by rw [if_pos c0]⟩
    refine iteF c0 ?_
    rw [if_neg c0]
    by_cases c1 : q.1 = 1
    · refine iteT c1 ?_
      rw [if_pos c1]
      have hr := hr c1
      have h1 : (⟨#[46]⟩ : ByteArray).size = 1 := rfl
      have h2 : IntKind.i64.max = 9223372036854775807 := rfl
      refine ⟨by rw [h1, h2]; omega, ?_⟩
      refine (ends_exact f _ (by unfold maxLen; omega)).mono ?_
      rintro _ w3 ⟨e3, rfl⟩
      exact ⟨e12.trans e3, rfl⟩
    refine iteF c1 ?_
    rw [if_neg c1]
    by_cases c2 : q.1 = 2
    · exact iteT c2 ⟨e12, by simp [c2]⟩
    · exact iteF c2 ⟨e12, by simp [c2]⟩
theorem isHost_ok {x : THost} {n : ByteArray} {b : Nat} (hb : Blk w b 9 [.string n]) (hx : x.Host.size ≤ maxLen) : Ans Value.bool 91 #[x.v, Ptr ⟨b, 0, none⟩] w (covS x.Host n) := by
  refine c91 ?_
  unfold f91
  refine New.mk fun b2 w1 e1 h2 _ _ => ?_
  refine rn_blk (x := x.Host) one9 h2 rfl rfl ?_
  refine rn_blk (x := n) one9 (hb.ext e1) rfl rfl ?_
  refine (covers_host_ok x.Host n hx).mono ?_
  rintro _ w2 ⟨e2, rfl⟩
  exact ⟨e1.trans e2, rfl⟩
theorem indexHost_ok {xs : List THost} (h : Rd THost.cells 4 F w s xs) (hx : ∀ x ∈ xs, x.Host.size ≤ maxLen) {n : ByteArray} {b : Nat} (hb : Blk w b 9 [.string n]) :
    Ans (Value.int .i64) 90 #[s.v, .func (.func 91) #[] #[Ptr ⟨b, 0, none⟩]] w (fst? (covAt (xs.map (·.Host)) n) xs.length) := by
  refine c90 ?_
  unfold f90
  refine Lp.mk (fun (i : Int) w' => ∃ k : Nat, i = k ∧ k ≤ xs.length ∧ Ext w w' ∧ ∀ j, j < k → covAt (xs.map (·.Host)) n j = false) (fun i => xs.length - i.toNat) ⟨0, rfl, Nat.zero_le _, Ext.refl _, fun j hj => absurd hj (Nat.not_lt_zero _)⟩ ?_
  rintro i w1 K ⟨k, rfl, hk, hE, hall⟩ hK
  by_cases hlt : k < xs.length
  · rw [if_pos (by rw [h.len]; omega)]
    refine rnp_idx sl51 (h.ext hE) hlt rfl fun p _ hp => ?_
    refine rn_ldN (x := xs[k]) many59 hp rfl rfl ?_
    refine ⟨91, #[], #[Ptr ⟨b, 0, none⟩], rfl, fun vs w => enters Try.func91 rfl rfl vs w, ?_⟩
    refine Cal.mono (isHost_ok (x := xs[k]) (hb.ext hE) (hx _ (List.getElem_mem hlt))) ?_
    rintro _ w2 ⟨e2, rfl⟩
    have ha : covAt (xs.map (·.Host)) n k = covS xs[k].Host n := by rw [covAt_eq (by simpa using hlt), List.getElem_map]
    by_cases c : covS xs[k].Host n = true
    · exact iteT c ⟨hE.trans e2, (fst?_some hlt (by rw [ha]; exact c) hall).symm⟩
    · refine iteF c ?_
      rw [h.wr hlt]; exact hK _ _ ⟨k + 1, rfl, hlt, hE.trans e2, all_succ hall (by rw [ha]; simpa using c)⟩ (by omega)
  · rw [if_neg (by rw [h.len]; omega)]
    exact ⟨hE, (fst?_none fun j hj => hall j (by omega)).symm⟩
def pairIB (x : Int × Bool) : Value := Value.tuple #[.int .i64 x.1, .bool x.2]
def namesD (d : DTab) : List ByteArray := d.hosts.map (·.host)
theorem names_eq {F : Nat → Prop} {w : World} : ∀ {xs : List THost} {ds : List DHost}, All2 (HostD F w) xs ds → xs.map (·.Host) = ds.map (·.host)
  | [], [], _ => rfl
  | x :: xs, y :: ys, h => by rw [List.map_cons, List.map_cons, h.1.host, names_eq h.2]
  | [], _ :: _, h => h.elim
  | _ :: _, [], h => h.elim
theorem find_host_ok {t : TTables} {d : DTab} (h : TabD F w t d) (hn : ∀ x ∈ d.hosts, x.host.size ≤ maxLen) (n : ByteArray) :
    Ans pairIB 41 #[t.v, .string n] w (max (fst? (covAt (namesD d) n) d.hosts.length) 0, decide (0 ≤ fst? (covAt (namesD d) n) d.hosts.length)) := by
  refine c41 ?_
  unfold f41
  refine New.mk fun b2 w1 e1 h2 _ _ => ?_
  refine New.mk fun b3 w2 e2 h3 _ _ => ?_
  obtain ⟨xs, rx, ax⟩ := h.hosts
  have E2 := e1.trans e2
  refine rn_blk (x := t.Hosts) one51 (h2.ext e2) rfl rfl ?_
  have hx : ∀ x ∈ xs, x.Host.size ≤ maxLen := fun x hx => by
    obtain ⟨i, hi, rfl⟩ := List.mem_iff_getElem.1 hx
    have hi' : i < d.hosts.length := by rw [← ax.len]; exact hi
    rw [(ax.get i hi hi').host]; exact hn _ (List.getElem_mem hi')
  refine (indexHost_ok (rx.ext E2) hx h3).mono ?_
  rintro _ w3 ⟨e3, rfl⟩
  refine ⟨E2.trans e3, ?_⟩
  rw [names_eq ax, ax.len]; rfl
def bestS (l : List ByteArray) (n : ByteArray) (st : Int × Bool) (k : Nat) : Int × Bool :=
  if covAt l n k = true ∧ (st.2 = false ∨ ordS (l.getD k ⟨#[]⟩) (l.getD st.1.toNat ⟨#[]⟩) < 0) then ((k : Int), true) else st
def bestTo (l : List ByteArray) (n : ByteArray) (k : Nat) : Int × Bool := (List.range k).foldl (bestS l n) (0, false)
theorem bestTo_succ (l : List ByteArray) (n : ByteArray) (k : Nat) : bestTo l n (k + 1) = bestS l n (bestTo l n k) k := by
  unfold bestTo; rw [List.range_succ, List.foldl_append]; rfl
theorem bestTo_lt (l : List ByteArray) (n : ByteArray) : ∀ k, (bestTo l n k).2 = true → ∃ j : Nat, (bestTo l n k).1 = j ∧ j < k
  | 0, h => by simp [bestTo] at h
  | k + 1, h => by
    rw [bestTo_succ] at h ⊢
    unfold bestS at h ⊢
    split
    · exact ⟨k, rfl, by omega⟩
    · rename_i c
      rw [if_neg c] at h
      obtain ⟨j, h1, h2⟩ := bestTo_lt l n k h
      exact ⟨j, h1, by omega⟩
theorem best_ok {l : List ByteArray} (h : Rd bs 1 F w s l) (hl : ∀ x ∈ l, x.size ≤ maxLen) (n : ByteArray) : Ans pairIB 42 #[s.v, .string n] w (bestTo l n l.length) := by
  refine c42 ?_
  unfold f42
  refine Lp.mk (fun (y : Int × Bool × Int) w' => ∃ k : Nat, y.2.2 = k ∧ k ≤ l.length ∧ Ext w w' ∧ (y.1, y.2.1) = bestTo l n k) (fun y => l.length - y.2.2.toNat) ⟨0, rfl, Nat.zero_le _, Ext.refl _, rfl⟩ ?_
  rintro ⟨b, f, _⟩ w1 K ⟨k, rfl, hk, hE, hst⟩ hK
  dsimp only at hst ⊢
  by_cases hlt : k < l.length
  · rw [if_pos (by rw [h.len]; omega)]
    refine ⟨fun y w' => Ext w w' ∧ y = bestTo l n (k + 1), ?_, ?_⟩
    · refine rnp_idx sl44 (h.ext hE) hlt rfl fun p _ hp => ?_
      refine rn_at0 one9 hp ?_
      have hs := bestTo_succ l n k
      rw [← hst] at hs
      unfold bestS at hs
      rw [covAt_eq hlt] at hs
      have hg : l.getD k ⟨#[]⟩ = l[k] := by simp [List.getD_eq_getElem?_getD, hlt]
      rw [hg] at hs
      dsimp only at hs
      refine ⟨fun x w' => Ext w w' ∧ x = decide (covS l[k] n = true ∧ (f = false ∨ ordS l[k] (l.getD b.toNat ⟨#[]⟩) < 0)), ?_, ?_⟩
      · refine (covers_host_ok l[k] n (hl _ (List.getElem_mem hlt))).mono ?_
        rintro _ w2 ⟨e2, rfl⟩
        have E2 := hE.trans e2
        by_cases c : covS l[k] n = true
        · refine iteT c ?_
          cases f with
          | false => exact iteT rfl ⟨E2, by simp [c]⟩
          | true =>
            refine iteF (by simp) ?_
            obtain ⟨j, hj, hjk⟩ := bestTo_lt l n k (by rw [← hst])
            rw [← hst] at hj
            have hj' : b = (j : Int) := hj
            subst hj'
            have hjl : j < l.length := by omega
            refine rnp_idx sl44 (h.ext E2) hjl rfl fun p _ hp => ?_
            refine rn_at0 one9 hp ?_
            refine (hostOrder_ok l[k] l[j] (hl _ (List.getElem_mem hlt)) (hl _ (List.getElem_mem hjl))).mono ?_
            rintro _ w3 ⟨e3, rfl⟩
            have hg : l.getD ((j : Int)).toNat ⟨#[]⟩ = l[j] := by simp [List.getD_eq_getElem?_getD, hjl]
            exact ⟨E2.trans e3, by rw [hg]; simp [c]⟩
        · exact iteF c ⟨E2, by simp [c]⟩
      · rintro _ w2 ⟨e2, rfl⟩
        by_cases c : covS l[k] n = true ∧ (f = false ∨ ordS l[k] (l.getD b.toNat ⟨#[]⟩) < 0)
        · exact iteT (decide_eq_true c) ⟨e2, by rw [hs, if_pos c]⟩
        · exact iteF (by simpa using c) ⟨e2, by rw [hs, if_neg c]⟩
    · rintro y w2 ⟨e2, rfl⟩
      rw [h.wr hlt]
      exact hK _ _ ⟨k + 1, rfl, hlt, e2, rfl⟩ (by dsimp only; omega)
  · rw [if_neg (by rw [h.len]; omega)]
    obtain rfl : k = l.length := by omega
    exact ⟨hE, hst⟩
theorem best_first {l : List ByteArray} {n : ByteArray} (ho : ∀ i j (hi : i < l.length) (hj : j < l.length), i < j → ¬ ordS l[j] l[i] < 0) :
    bestTo l n l.length = (max (fst? (covAt l n) l.length) 0, decide (0 ≤ fst? (covAt l n) l.length)) := by
  have key : ∀ k, k ≤ l.length → ((∀ j, j < k → covAt l n j = false) ∧ bestTo l n k = (0, false)) ∨ ∃ j : Nat, j < k ∧ covAt l n j = true ∧ (∀ i, i < j → covAt l n i = false) ∧ bestTo l n k = ((j : Int), true) := by
    intro k
    induction k with
    | zero => intro _; exact .inl ⟨fun j hj => absurd hj (Nat.not_lt_zero _), rfl⟩
    | succ k ih =>
      intro hk
      rcases ih (by omega) with ⟨h1, h2⟩ | ⟨j, hjk, hc, hj, h2⟩
      · rw [bestTo_succ, h2]
        by_cases c : covAt l n k = true
        · exact .inr ⟨k, by omega, c, h1, by unfold bestS; rw [if_pos ⟨c, .inl rfl⟩]⟩
        · exact .inl ⟨all_succ h1 (by simpa using c), by unfold bestS; rw [if_neg (fun h => c h.1)]⟩
      · refine .inr ⟨j, by omega, hc, hj, ?_⟩
        rw [bestTo_succ, h2]
        unfold bestS
        rw [if_neg]
        rintro ⟨_, h | h⟩
        · cases h
        · have e1 : l.getD k ⟨#[]⟩ = l[k] := by simp [List.getD_eq_getElem?_getD, show k < l.length by omega]
          have e2 : l.getD ((j : Int), true).1.toNat ⟨#[]⟩ = l[j]'(by omega) := by simp [List.getD_eq_getElem?_getD, show j < l.length by omega]
          rw [e1, e2] at h
          exact ho j k (by omega) (by omega) hjk h
  rcases key l.length (Nat.le_refl _) with ⟨h1, h2⟩ | ⟨j, hjk, hc, hj, h2⟩
  · rw [h2, fst?_none h1]; rfl
  · rw [h2, fst?_some hjk hc hj]
    have : max (j : Int) 0 = j := by omega
    simp [this]
end
end Go.Proofs.Ytdoeegfcmbcbkaa.Ct


namespace Go.Proofs.Ytdoeegfcmbcbkaa.Ct
open Go Go.Eng Tr
set_option linter.unusedVariables false
set_option maxRecDepth 100000

theorem run_equalInF {P : Program} {w : World} {t : TypeId} (d : Nat) {a b : Nat} (hu : P.underlying t = some (.float .f64)) : (Op.equalIn (d + 1) t (.float .f64 a) (.float .f64 b)).run P w = .ok (Op.floatEq .f64 a b) w := by
  unfold Op.equalIn
  simp only [Sem.run_bind, run_underlying hu, Result.andThen_ok, if_true, Sem.run_pure]
theorem eqShare_run (x y : TShare) (w : World) : (Op.equal 32 x.v y.v).run PP w = .ok (x.Service == y.Service && Op.floatEq .f64 x.Upto y.Upto) w := by
  have h1 : ∀ (w : World) (a b : ByteArray), (Op.equalIn (9998 + 1) 9 (.string a) (.string b)).run PP w = .ok (a == b) w := fun w a b => by
    rw [run_equalIn_string w 9998 9 a b Try.underlying9, beq_toListBytes]
  have h2 : ∀ (w : World) (a b : Nat), (Op.equalIn (9998 + 1) 30 (.float .f64 a) (.float .f64 b)).run PP w = .ok (Op.floatEq .f64 a b) w := fun w a b => run_equalInF 9998 Try.underlying30
  have hp : ∀ (w : World) (o : Nat) (t : TypeId) (v : Value) (cs : Array Value), One PP t → cs[o]? = some v → (part t cs o).run PP w = .ok v w := fun w o t v cs h hv => part_one h hv
  show (Op.equalIn (9999 + 1) 32 (.agg (Array.mk x.cells)) (.agg (Array.mk y.cells))).run PP w = _
  rw [run_equalIn_struct w 9999 32 _ _ (by kernel_rfl) (by kernel_rfl)]
  have hf : (Program.fieldsOf PP 32).toList = [⟨ "Service", 9, 0, false, "", "", 0⟩, ⟨ "Upto", 30, 1, false, "", "", 16⟩] := by kernel_rfl
  rw [hf]
  have n1 : ("Service" : String) ≠ "_" := by decide
  have n2 : ("Upto" : String) ≠ "_" := by decide
  simp only [Op.eqFields, if_pos n1, if_pos n2, Sem.run_bind]
  rw [hp w 0 9 (.string x.Service) _ one9 rfl, Result.andThen_ok, hp w 0 9 (.string y.Service) _ one9 rfl, Result.andThen_ok, h1, Result.andThen_ok]
  cases x.Service == y.Service
  · rfl
  rw [if_neg (by simp), Sem.run_bind, hp w 1 30 (.float .f64 x.Upto) _ one30 rfl, Result.andThen_ok, Sem.run_bind, hp w 1 30 (.float .f64 y.Upto) _ one30 rfl, Result.andThen_ok, Sem.run_bind, h2, Result.andThen_ok]
  cases Op.floatEq .f64 x.Upto y.Upto <;> rfl
def bA : ByteArray := ⟨#[97]⟩
def bB : ByteArray := ⟨#[98]⟩
def t1a : TTarget := ⟨bA, ⟨#[]⟩, 4632233691727265792⟩
def t1b : TTarget := ⟨⟨#[]⟩, ⟨#[116]⟩, 4632233691727265792⟩
def t2a : TTarget := ⟨bA, ⟨#[]⟩, 4627730092099895296⟩
def t2b : TTarget := ⟨bB, ⟨#[]⟩, 4634978072750194688⟩
def r1a : TRule := ⟨⟨#[47, 112, 42]⟩, ⟨#[71, 69, 84]⟩, ⟨#[115]⟩, false⟩
def r2a : TRule := ⟨⟨#[47, 112, 47, 120]⟩, ⟨#[42]⟩, ⟨#[]⟩, false⟩
def l0 : List DRes := [⟨1, bA, [], [], ⟨#[]⟩, [], ⟨#[]⟩, false⟩, ⟨1, bB, [], [], ⟨#[]⟩, [], ⟨#[]⟩, false⟩, ⟨2, ⟨#[115]⟩, [], [t1a, t1b], ⟨#[]⟩, [], ⟨#[]⟩, false⟩, ⟨2, ⟨#[116]⟩, [], [t2a, t2b], ⟨#[]⟩, [], ⟨#[]⟩, false⟩,
  ⟨3, ⟨#[114]⟩, [], [], ⟨#[42, 46, 120]⟩, [r1a], ⟨#[]⟩, false⟩, ⟨4, ⟨#[112]⟩, [], [], ⟨#[]⟩, [r2a], ⟨#[114]⟩, false⟩]
def sh0 : List SH := [(bA, some 4603804719079489536), (bB, some 4607182418800017408)]
def e0 : DEntry := ⟨⟨#[47, 112, 42]⟩, ⟨#[71, 69, 84]⟩, sh0⟩
def h0 : DHost := ⟨⟨#[42, 46, 120]⟩, ⟨#[114]⟩, [e0], [⟨⟨#[47, 112, 47, 120]⟩, ⟨#[42]⟩, false⟩]⟩
def d0 : DTab := ⟨3, [h0], [bA, bB]⟩
theorem err0 : errC 3 l0 = 0 := by kernel_rfl
theorem err00 : errC 0 l0 = 2 := by kernel_rfl
theorem ans0 : ansC 3 l0 = d0 := by kernel_rfl
theorem cov0 : fst? (covAt (namesD d0) ⟨#[89, 46, 88]⟩) d0.hosts.length = 0 := by kernel_rfl
def rs0 (b13 b17 b20 b23 : Nat) : List TResource := [⟨1, bA, Sl.nil, Sl.nil, ⟨#[]⟩, Sl.nil, ⟨#[]⟩, false⟩, ⟨1, bB, Sl.nil, Sl.nil, ⟨#[]⟩, Sl.nil, ⟨#[]⟩, false⟩, ⟨2, ⟨#[115]⟩, Sl.nil, ⟨some ⟨b13, 0, none⟩, 2, 2⟩, ⟨#[]⟩, Sl.nil, ⟨#[]⟩, false⟩,
    ⟨2, ⟨#[116]⟩, Sl.nil, ⟨some ⟨b17, 0, none⟩, 2, 2⟩, ⟨#[]⟩, Sl.nil, ⟨#[]⟩, false⟩, ⟨3, ⟨#[114]⟩, Sl.nil, Sl.nil, ⟨#[42, 46, 120]⟩, ⟨some ⟨b20, 0, none⟩, 1, 1⟩, ⟨#[]⟩, false⟩, ⟨4, ⟨#[112]⟩, Sl.nil, Sl.nil, ⟨#[]⟩, ⟨some ⟨b23, 0, none⟩, 1, 1⟩, ⟨#[114]⟩, false⟩]
theorem conf0 {w : World} {b13 b17 b20 b23 b25 : Nat} (h13 : Blk w b13 84 (TTarget.cells t1a ++ TTarget.cells t1b)) (h17 : Blk w b17 84 (TTarget.cells t2a ++ TTarget.cells t2b)) (h20 : Blk w b20 91 (TRule.cells r1a)) (h23 : Blk w b23 91 (TRule.cells r2a))
    (h25 : Blk w b25 48 (TResource.cells (⟨1, bA, Sl.nil, Sl.nil, ⟨#[]⟩, Sl.nil, ⟨#[]⟩, false⟩ : TResource) ++ TResource.cells (⟨1, bB, Sl.nil, Sl.nil, ⟨#[]⟩, Sl.nil, ⟨#[]⟩, false⟩ : TResource) ++ TResource.cells (⟨2, ⟨#[115]⟩, Sl.nil, ⟨some ⟨b13, 0, none⟩, 2, 2⟩, ⟨#[]⟩, Sl.nil, ⟨#[]⟩, false⟩ : TResource) ++
      TResource.cells (⟨2, ⟨#[116]⟩, Sl.nil, ⟨some ⟨b17, 0, none⟩, 2, 2⟩, ⟨#[]⟩, Sl.nil, ⟨#[]⟩, false⟩ : TResource) ++ TResource.cells (⟨3, ⟨#[114]⟩, Sl.nil, Sl.nil, ⟨#[42, 46, 120]⟩, ⟨some ⟨b20, 0, none⟩, 1, 1⟩, ⟨#[]⟩, false⟩ : TResource) ++ TResource.cells (⟨4, ⟨#[112]⟩, Sl.nil, Sl.nil, ⟨#[]⟩, ⟨some ⟨b23, 0, none⟩, 1, 1⟩, ⟨#[114]⟩, false⟩ : TResource))) :
    ∃ rs, ConfD (fun _ => True) w ⟨some ⟨b25, 0, none⟩, 6, 6⟩ rs l0 := by
  have m6 : 6 ≤ maxLen := by unfold maxLen; omega
  have r13 : Rd TTarget.cells 3 (fun _ => True) w ⟨some ⟨b13, 0, none⟩, 2, 2⟩ [t1a, t1b] := h13.rd (cells := TTarget.cells) (sz := 3) (l := [t1a, t1b]) rfl (fun x _ => rfl) trivial rfl (by show 2 ≤ maxLen; omega)
  have r17 : Rd TTarget.cells 3 (fun _ => True) w ⟨some ⟨b17, 0, none⟩, 2, 2⟩ [t2a, t2b] := h17.rd (cells := TTarget.cells) (sz := 3) (l := [t2a, t2b]) rfl (fun x _ => rfl) trivial rfl (by show 2 ≤ maxLen; omega)
  have r20 : Rd TRule.cells 4 (fun _ => True) w ⟨some ⟨b20, 0, none⟩, 1, 1⟩ [r1a] := h20.rd (cells := TRule.cells) (sz := 4) (l := [r1a]) rfl (fun x _ => rfl) trivial rfl (by show 1 ≤ maxLen; omega)
  have r23 : Rd TRule.cells 4 (fun _ => True) w ⟨some ⟨b23, 0, none⟩, 1, 1⟩ [r2a] := h23.rd (cells := TRule.cells) (sz := 4) (l := [r2a]) rfl (fun x _ => rfl) trivial rfl (by show 1 ≤ maxLen; omega)
  have r25 := h25.rd (cells := TResource.cells) (sz := 8) (F := fun _ => True) (n := 6) (l := rs0 b13 b17 b20 b23) rfl (fun x _ => rfl) trivial rfl m6
  have nb : ∀ {α : Type} {cells : α → List Value} {sz : Nat}, Rd cells sz (fun _ => True) w Sl.nil [] := Rd.nil_ _ _
  have hall : All2 (ResD (fun _ => True) w) (rs0 b13 b17 b20 b23) l0 := ⟨⟨rfl, rfl, nb, nb, rfl, nb, rfl, rfl⟩, ⟨rfl, rfl, nb, nb, rfl, nb, rfl, rfl⟩, ⟨rfl, rfl, nb, r13, rfl, nb, rfl, rfl⟩, ⟨rfl, rfl, nb, r17, rfl, nb, rfl, rfl⟩, ⟨rfl, rfl, nb, nb, rfl, r20, rfl, rfl⟩, ⟨rfl, rfl, nb, nb, rfl, r23, rfl, rfl⟩, trivial⟩
  exact ⟨_, r25, rfl, fun k a b => hall.get k a b⟩
theorem fit0 : Fit l0 ∧ tot l0 ≤ 1048576 ∧ l0.length ≤ 1048576 ∧ ∀ d ∈ l0, d.host.size ≤ maxLen := by
  have m : 64 ≤ maxLen := by unfold maxLen; omega
  have hr : ∀ d ∈ l0, d.host.size ≤ 64 ∧ ∀ r ∈ d.rules, r.Path.size ≤ 64 := by
    intro d hd
    simp only [l0, List.mem_cons, List.not_mem_nil, or_false] at hd
    rcases hd with rfl | rfl | rfl | rfl | rfl | rfl <;> refine ⟨by decide, fun r hr => ?_⟩ <;> simp at hr <;> subst hr <;> decide
  refine ⟨⟨fun d hd r hr' => Nat.le_trans ((hr d hd).2 r hr') m, by decide⟩, by decide, by decide, fun d hd => Nat.le_trans (hr d hd).1 m⟩
theorem awake_ok {w : World} : Ans Value.bool 32 #[] w true := by
  refine c32 ?_
  unfold f32
  refine New.mk fun b13 w1 e1 h13 _ _ => ?_
  refine New.mk fun b17 w2 e2 h17 _ _ => ?_
  refine New.mk fun b20 w3 e3 h20 _ _ => ?_
  refine New.mk fun b23 w4 e4 h23 _ _ => ?_
  refine New.mk fun b25 w5 e5 h25 _ _ => ?_
  have E25 := ((e2.trans e3).trans e4).trans e5
  obtain ⟨rs, hC⟩ := conf0 (h13.ext E25) (h17.ext ((e3.trans e4).trans e5)) (h20.ext (e4.trans e5)) (h23.ext e5) h25
  obtain ⟨f1, f2, f3, f4⟩ := fit0
  have E5 := e1.trans E25
  clear h13 h17 h20 h23 h25
  refine (compile_ok hC f1 f2 f3 f4 3).mono ?_
  rintro ⟨ta, ea⟩ w6 ⟨e6, he, hta⟩
  dsimp only at he hta ⊢
  rw [err0] at he
  rw [ans0] at hta
  subst he
  refine New.var (TTables.cells ta) sz53 rfl (oc_tab _) rfl fun b2 w7 e7 h2 n2 => ?_
  refine (compile_ok (hC.ext (e6.trans e7)) f1 f2 f3 f4 0).mono ?_
  rintro ⟨tb, eb⟩ w8 ⟨e8, he, htb⟩
  dsimp only at he htb ⊢
  rw [err00] at he
  subst he
  refine New.var (TTables.cells tb) sz53 rfl (oc_tab _) rfl fun b4 w9 e9 h4 n4 => ?_
  have E79 := e8.trans e9
  have h2' := h2.ext E79
  refine rn_blkN (x := ta) many53 h2' rfl rfl ?_
  have hta9 := (hta.ext e7).ext E79
  refine (find_host_ok hta9 (fun x hx => by
    have : x = h0 := by simpa [d0] using hx
    subst this; unfold maxLen; decide) ⟨#[89, 46, 88]⟩).mono ?_
  rintro _ w10 ⟨e10, rfl⟩
  rw [cov0]
  have E10 := (((E5.trans e6).trans e7).trans E79).trans e10
  have hT := hta9.ext e10
  have h2'' := h2'.ext e10
  obtain ⟨xs, rx, ax⟩ := hT.hosts
  obtain ⟨x0, rfl⟩ : ∃ x, xs = [x] := List.length_eq_one_iff.1 ax.len
  have hx0 := ax.1
  obtain ⟨es, re, ae⟩ := hx0.entries
  obtain ⟨y0, rfl⟩ : ∃ x, es = [x] := List.length_eq_one_iff.1 ae.len
  have hy0 := ae.1
  obtain ⟨ss, rs', ds⟩ := hy0.shares
  obtain ⟨s0, s1, rfl⟩ : ∃ a b, ss = [a, b] := by
    have := ds.len
    match ss, this with
    | [a, b], _ => exact ⟨a, b, rfl⟩
  have q0 := ds.el 0 (by simp) (by decide)
  have q1 := ds.el 1 (by simp) (by decide)
  have hs0 : s0 = ⟨bA, 4603804719079489536⟩ := by
    obtain ⟨a, b⟩ := s0
    obtain ⟨k1, k2⟩ := q0
    have k1' : a = bA := k1
    have k2' : b = 4603804719079489536 := k2
    rw [k1', k2']
  have hs1 : s1 = ⟨bB, 4607182418800017408⟩ := by
    obtain ⟨a, b⟩ := s1
    obtain ⟨k1, k2⟩ := q1
    have k1' : a = bB := k1
    have k2' : b = 4607182418800017408 := k2
    rw [k1', k2']
  refine ⟨fun b w' => b = false ∧ w' = w10, ?_, ?_⟩
  · refine iteF (by simp) ?_
    refine iteF (by simp) ?_
    refine iteF (by simp) ?_
    refine iteF (by simp) ?_
    refine rn_blk (x := ta.Version) one3 h2'' rfl rfl ?_
    refine iteF (by rw [hT.version]; decide) ?_
    refine rn_blk (x := ta.Hosts) one51 h2'' rfl rfl ?_
    refine iteF (by rw [rx.len]; simp) ?_
    refine rn_blk (x := ta.Hosts) one51 h2'' rfl rfl ?_
    refine rnp_idx sl51 rx (k := 0) (by simp) rfl fun p _ hp => ?_
    refine rn_at (x := x0.Entries) one56 hp rfl ?_
    refine iteF (by rw [re.len]; simp) ?_
    refine rn_blk (x := ta.Hosts) one51 h2'' rfl rfl ?_
    refine rnp_idx sl51 rx (k := 0) (by simp) rfl fun p _ hp => ?_
    refine rn_at (x := x0.Permits) one57 hp rfl ?_
    refine iteF (by rw [hx0.permits.len]; decide) ?_
    refine rn_blk (x := ta.Services) one44 h2'' rfl rfl ?_
    exact ⟨by rw [hT.services.len]; decide, rfl⟩
  rintro _ w11 ⟨rfl, hw⟩
  obtain rfl : w10 = w11 := hw.symm
  refine iteF (by simp) ?_
  refine rn_blk (x := ta.Hosts) one51 h2'' rfl rfl ?_
  refine rnp_idx sl51 rx (k := 0) (by simp) rfl fun p _ hp => ?_
  refine rn_at (x := x0.Entries) one56 hp rfl ?_
  refine rnp_idx sl56 re (k := 0) (by simp) rfl fun p _ hp => ?_
  refine rn_at (x := y0.Shares) one23 hp rfl ?_
  refine Jn.dup ?_
  refine iteT (by rw [rs'.len]; simp) ?_
  refine rnp_idx sl23 rs' (k := 0) (by simp) rfl fun p _ hp => ?_
  refine rn_ldN (x := s0) many32 hp rfl rfl ?_
  have hq0 : (s0.Service == bA && Op.floatEq .f64 s0.Upto 4603804719079489536) = true := by rw [hs0]; kernel_rfl
  have hq1 : (s1.Service == bB && Op.floatEq .f64 s1.Upto 4607182418800017408) = true := by rw [hs1]; kernel_rfl
  refine RnP.of (x := true) (fun w => by
    have h := eqShare_run s0 ⟨bA, 4603804719079489536⟩ w
    rw [hq0] at h
    exact (show (do pure (Value.bool (← Op.equal 32 (TShare.v s0) (TShare.v ⟨bA, 4603804719079489536⟩))) : Sem Value).run PP w = _ by simp only [Sem.run_bind, h, Result.andThen_ok, Sem.run_pure])) ?_
  refine iteT rfl ?_
  refine rnp_idx sl23 rs' (k := 1) (by simp) rfl fun p _ hp => ?_
  refine rn_ldN (x := s1) many32 hp rfl rfl ?_
  refine RnP.of (x := true) (fun w => by
    have h := eqShare_run s1 ⟨bB, 4607182418800017408⟩ w
    rw [hq1] at h
    exact (show (do pure (Value.bool (← Op.equal 32 (TShare.v s1) (TShare.v ⟨bB, 4607182418800017408⟩))) : Sem Value).run PP w = _ by simp only [Sem.run_bind, h, Result.andThen_ok, Sem.run_pure])) ?_
  exact ⟨E10, rfl⟩
end Go.Proofs.Ytdoeegfcmbcbkaa.Ct


namespace Go.Proofs.Ytdoeegfcmbcbkaa.Ct
open Go Go.Eng Tr
set_option linter.unusedVariables false
set_option maxRecDepth 100000

theorem ordS_gt {a b : ByteArray} : 0 < ordS a b ↔ ordS b a < 0 := ordK_pos
theorem hosts_sorted (l : List DRes) : ∀ i j (hi : i < (hostsS l).length) (hj : j < (hostsS l).length), i < j → ¬ ordS (hostsS l)[j].host (hostsS l)[i].host < 0 := fun i j hi hj h => by
  have := stb_pw wo_ltD ((dk 3 l).map (hostD l)) i j hi hj h
  exact of_decide_eq_false this
section
variable {w : World} {F : Nat → Prop} {s : Sl} {rs : List TResource} {l : List DRes}
theorem law_first (hc : ConfD F w s rs l) (hft : Fit l) (hsm : ∀ d ∈ l, Small d) (hln : l.length ≤ 1048576) (ht : tot l ≤ 1048576) (hh : ∀ d ∈ l, d.host.size ≤ maxLen) (n : ByteArray) : Ans Value.bool 8 #[s.v, .string n] w true := by
  refine c8 ?_
  unfold f8
  refine awake_ok.mono ?_
  rintro _ w0 ⟨e0, rfl⟩
  refine iteF (by simp) ?_
  refine (twin_ok (hc.ext e0) hsm (by omega)).mono ?_
  rintro given w1 ⟨e1, rs', hg, hmk⟩
  have E1 := e0.trans e1
  have g0 := e0.size
  refine (compile_ok hg hft ht hln hh 1).mono ?_
  rintro ⟨ta, ea⟩ w2 ⟨e2, he, hta⟩
  dsimp only at he hta ⊢
  subst he
  have g1 := e1.size; have g2 := e2.size
  refine New.var (TTables.cells ta) sz53 rfl (oc_tab _) rfl fun b5 w3 e3 h5 n5 => ?_
  have E3 := (E1.trans e2).trans e3
  have ez : errC 1 l = (faultM l).Err := if_neg (by omega)
  rw [ez]
  by_cases c0 : (faultM l).Err ≠ 0
  · exact iteT c0 ⟨E3, rfl⟩
  refine iteF c0 ?_
  have c0 : (faultM l).Err = 0 := by simpa using c0
  have hans : ansC 1 l = ⟨1, hostsS l, servS l⟩ := if_neg (fun h => h.elim (by omega) (fun h => h c0))
  rw [hans] at hta
  have hsize : ∀ x ∈ hostsS l, x.host.size ≤ maxLen := fun x hx => by
    obtain ⟨d, hd, rfl⟩ := List.mem_map.1 (mem_stb.1 hx)
    exact hh d (List.mem_filter.1 hd).1
  have hord := hosts_sorted l
  have hT := hta.ext e3
  have hlenS : (hostsS l).length ≤ 1048576 := by
    have := dk_len 3 l
    unfold hostsS; rw [stb_len, List.length_map]; omega
  have hnm : namesD ⟨1, hostsS l, servS l⟩ = (hostsS l).map (·.host) := rfl
  generalize hostsS l = hs at hT hsize hord hlenS hnm
  clear hta
  obtain ⟨xs, rx, ax⟩ := hT.hosts
  have axl : xs.length = hs.length := ax.len
  have ax : All2 (HostD _ w3) xs hs := ax
  have g3 := e3.size
  refine Lp.mk (fun (y : Sl × Int) w' => ∃ k : Nat, y.2 = k ∧ k ≤ hs.length ∧ Ext w3 w' ∧ Own bs 1 9 w3.heap.size w' y.1 ((hs.take k).map (·.host))) (fun y => hs.length - y.2.toNat) ⟨0, rfl, Nat.zero_le _, Ext.refl _, Own.nil_ _ _⟩ ?_
  rintro ⟨z, _⟩ w4 K ⟨k, rfl, hk, hE, hO⟩ hK
  dsimp only at hO ⊢
  have h5' := h5.ext hE
  have rx' := rx.ext hE
  refine rn_blk (x := ta.Hosts) one51 h5' rfl rfl ?_
  by_cases hlt : k < hs.length
  · refine iteT (by rw [rx.len]; omega) ?_
    have hkx : k < xs.length := by omega
    have ek := (ax.get k hkx hlt).host
    refine ⟨fun x w' => Ext w4 w' ∧ x = false, ?_, ?_⟩
    · refine Dr.mk fun w5 e5 _ => ?_
      by_cases c : 0 < k
      · refine iteT (by omega) ?_
        have h5w := h5'.ext e5
        refine rnl_blk (x := ta.Hosts) one51 h5w rfl rfl ?_
        rw [wrapI (x := (k : Int) - 1) (by omega) (by omega)]
        have hk1 : k - 1 < xs.length := by omega
        have ek1 := (ax.get (k - 1) hk1 (by omega)).host
        refine rnp_idx sl51 (rx'.ext e5) hk1 (by omega) fun p _ hp => ?_
        refine rnl_at (x := xs[k - 1].Host) one9 hp rfl ?_
        refine rnl_blk (x := ta.Hosts) one51 h5w rfl rfl ?_
        refine rnp_idx sl51 (rx'.ext e5) hkx rfl fun p _ hp => ?_
        refine rnl_at (x := xs[k].Host) one9 hp rfl ?_
        rw [ek, ek1]
        refine (hostOrder_ok _ _ (hsize _ (List.getElem_mem _)) (hsize _ (List.getElem_mem _))).mono ?_
        rintro _ w6 ⟨e6, rfl⟩
        refine ⟨e5.trans e6, ?_⟩
        have := hord (k - 1) k (by omega) hlt (by omega)
        rw [decide_eq_false]
        rw [ordS_gt]; exact this
      · exact iteF (by omega) ⟨e5, rfl⟩
    rintro _ w5 ⟨e5, rfl⟩
    refine iteF (by simp) ?_
    refine rn_blk (x := ta.Hosts) one51 (h5'.ext e5) rfl rfl ?_
    refine rnp_idx sl51 (rx'.ext e5) hkx rfl fun p _ hp => ?_
    refine rn_at (x := xs[k].Host) one9 hp rfl ?_
    rw [ek]
    refine New.mk fun b56 w6 e6 h56 _ _ => ?_
    have e46 := e5.trans e6
    have gE := (hE.trans e46).size
    refine rn_app1 (x := hs[k].host) el44 (hO.ext e46) h56 rfl rfl (oc_bs _) (by simp; omega) (by decide) (by omega) fun z' w7 O7 c7 n7 => ?_
    rw [wrapI (x := (k : Int) + 1) (by omega) (by omega)]
    refine hK _ _ ⟨k + 1, rfl, hlt, (hE.trans e46).then c7 (fun b hb => (hO.ge hb).1), ?_⟩ (by dsimp only; omega)
    rw [List.take_add_one, List.getElem?_eq_getElem hlt, List.map_append]
    exact O7
  refine iteF (by rw [rx.len]; omega) ?_
  obtain rfl : k = hs.length := by omega
  rw [List.take_length] at hO
  clear hK
  refine rn_blkN (x := ta) many53 h5' rfl rfl ?_
  refine (find_host_ok (d := ⟨1, hs, servS l⟩) (hT.ext hE) hsize n).mono ?_
  rintro _ w5 ⟨e5, rfl⟩
  refine (best_ok ((hO.ext e5).rd (F := fun _ => True) (fun _ _ => trivial)) (fun x hx => by
    obtain ⟨d, hd, rfl⟩ := List.mem_map.1 hx
    exact hsize d hd) n).mono ?_
  rintro _ w6 ⟨e6, rfl⟩
  rw [best_first (fun i j hi hj h => by
    rw [List.getElem_map, List.getElem_map]
    exact hord i j (by simpa using hi) (by simpa using hj) h), hnm, List.length_map]
  refine Jn.dup ?_
  refine iteT (by simp) ⟨((E3.trans hE).trans e5).trans e6, by simp⟩
end
end Go.Proofs.Ytdoeegfcmbcbkaa.Ct


namespace Go.Proofs.Ytdoeegfcmbcbkaa.TablesFirst
open Go Go.Eng Opn Ct
open Go.ChangeShapes Go.WideShapes Go.ChangeAt Go.RowKit
open Go.ChangeMaps (open_string)
set_option maxRecDepth 100000

theorem own : ownKnob Try.prog.godebug = none := by kernel_rfl
theorem laid : laidOutB Try.prog = true := by kernel_rfl
theorem reads : (Try.f8.params.toList.all fun t => Try.prog.readableRec t && decide (t < Try.prog.types.size)) = true := by kernel_rfl
theorem contract (H : Type) (enc : TypeId × Value → H) (W : World) (base : Nat) (args : Array Value) (ds gs : List (DataW H)) (before : List MemPlace)
    (hval : ∀ (j : Nat) t v, Try.f8.params[j]? = some t → args[j]? = some v → Value.okWide Try.prog W .any base t v)
    (hW : DataW.Whole enc Try.prog Try.f8.params.toList Rows.tablesFirstSpec.vars false W args.toList ds gs before) (hk : Rows.uptoSmall H (ds ++ gs) = true) :
    Calls Try.prog 8 args W fun e W' => ∃ v, e = .returned v ∧ Rows.tablesFirstSpec.post enc Try.prog Try.f8 false true false false W args v W' := by
  have hW' := hW
  obtain ⟨p, q, hA, hV, rfl, hfz, hnd⟩ := hW
  rw [Try.params8] at hA hval
  obtain ⟨v0, v1, d0, d1, p0, p1, rfl, rfl, rfl, h0, h1⟩ := trodAll_two hA
  obtain ⟨rfl, rfl⟩ : gs = [] ∧ q = [] := by
    have hV' : DataW.TrodVars enc Try.prog W (fun _ => true) [] gs q := hV
    cases gs <;> simp [DataW.TrodVars] at hV'
    exact ⟨rfl, hV'⟩
  obtain ⟨a0, n0, c0, rfl⟩ := okWide_slice Try.underlying22 (hval 0 22 v0 rfl rfl)
  obtain ⟨n, rfl, _, _, _⟩ := open_string Try.underlying9 (hval 1 9 v1 rfl rfl) h1
  have hbk : Rows.uptoBulkAll [d0, d1] ≤ 1048576 := by
    have := of_decide_eq_true hk
    simpa using this
  simp only [Rows.uptoBulkAll] at hbk
  obtain ⟨rs, l, hc, hb0⟩ := came_of h0
  have hbl : bkL l ≤ 1048576 := by omega
  refine Calls.mono (law_first hc.conf (hc.fit hbl) (bk_small hbl) (bk_len hbl) (bk_tot hbl) (fun d hd => (hc.ok d hd).host) n) ?_
  rintro e W' ⟨r, rfl, hE, rfl⟩
  exact ⟨_, rfl, post_true laid reads rfl Try.underlying4 rfl rfl rfl rfl hW' hE⟩

theorem lifted (os : Os) (started : os.Started) (H : Type) (enc : TypeId × Value → H) (F : Stop.Interp) :
    ReturnsInHanded {} Try.checked os 8 .any ((Rows.OpenSpec.upto Rows.tablesFirstSpec).pre6 enc Try.prog Try.f8 Rows.tablesFirstUptoRow.domain false) (((Rows.OpenSpec.upto Rows.tablesFirstSpec).at F).post enc Try.prog Try.f8 false true false false) := by
  refine returnsInHanded_of_cond (C := Try.checked) (s := Rows.OpenSpec.upto Rows.tablesFirstSpec) (k := Rows.uptoSmall) rfl own started (by kernel_rfl) Try.func8
    (OpenSpec.witness (enc := enc) (C := Try.checked) (s := Rows.OpenSpec.upto Rows.tablesFirstSpec) (k := Rows.uptoSmall) rfl false ⟨#[], #[.slice none 0 0, .string .empty], []⟩ 8 (by kernel_rfl) (by kernel_rfl) (by kernel_rfl)
      (x := ([.nil, .lit (.string [])], [], [])) (by kernel_rfl) rfl (by kernel_rfl)) ?_
  intro W base args ds gs before hval hW _ hk _
  exact contract H enc W base args ds gs before hval hW hk
theorem tablesFirst_holds : Rows.TablesFirstUptoSaid :=
  OpenClaim.holds_of_cond 8 Try.f8 rfl rfl rfl rfl rfl rfl rfl ⟨rfl, rfl, rfl, rfl, rfl⟩ rfl rfl rfl rfl rfl (by kernel_rfl) Try.func8 (by kernel_rfl)
    (of_decide_eq_true (by kernel_rfl)) (by unfold Func.isWrapper; rw [if_neg (of_decide_eq_false (by kernel_rfl))]; exact ⟨rfl, rfl⟩)
    (fun os started H enc _ F => lifted os started H enc F)
end Go.Proofs.Ytdoeegfcmbcbkaa.TablesFirst


