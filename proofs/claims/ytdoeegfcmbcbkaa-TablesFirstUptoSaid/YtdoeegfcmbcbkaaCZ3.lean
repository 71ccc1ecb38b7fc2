/- A part of the proof whose last text is YtdoeegfcmbcbkaaCZ4. -/
import Derived.Test.YtdoeegfcmbcbkaaCZ2
import Derived.Laws.Shifts
import Derived.Laws.IdiomStrings
set_option linter.all false
namespace Go.Proofs.Ytdoeegfcmbcbkaa.Ct
open Go Go.Eng Tr
set_option linter.unusedVariables false
set_option maxRecDepth 100000

structure ShD (xs : List TShare) (ys : List SH) : Prop where
  len : xs.length = ys.length
  el : ∀ k (h : k < xs.length) (h' : k < ys.length), xs[k].Service = ys[k].1 ∧ Fl ys[k].2 xs[k].Upto
theorem ShD.nil : ShD [] [] := ⟨rfl, fun k h => absurd h (Nat.not_lt_zero _)⟩
theorem ShD.snoc {xs : List TShare} {ys : List SH} (h : ShD xs ys) {x : TShare} {y : SH} (h1 : x.Service = y.1) (h2 : Fl y.2 x.Upto) : ShD (xs ++ [x]) (ys ++ [y]) := by
  have hl := h.len
  refine ⟨by simp [hl], fun k a b => ?_⟩
  by_cases hk : k < xs.length
  · rw [List.getElem_append_left hk, List.getElem_append_left (by omega)]; exact h.el k hk (by omega)
  · have : k = xs.length := by simp at a; omega
    subst this
    simp only [List.getElem_append_right (Nat.le_refl _), Nat.sub_self, List.getElem_cons_zero]
    simp only [hl, List.getElem_append_right (Nat.le_refl _), Nat.sub_self, List.getElem_cons_zero]
    exact ⟨h1, h2⟩
theorem ShD.set {xs : List TShare} {ys : List SH} (h : ShD xs ys) {k : Nat} {x : TShare} {y : SH} (h1 : x.Service = y.1) (h2 : Fl y.2 x.Upto) : ShD (xs.set k x) (ys.set k y) := by
  refine ⟨by simp [h.len], fun j a b => ?_⟩
  rw [List.getElem_set, List.getElem_set]
  by_cases e : k = j
  · rw [if_pos e, if_pos e]; exact ⟨h1, h2⟩
  · rw [if_neg e, if_neg e]; exact h.el j (by simpa using a) (by simpa using b)
def saysS (xs : List TShare) : List SH := xs.map fun x => (x.Service, some x.Upto)
theorem ShD.of (xs : List TShare) : ShD xs (saysS xs) := ⟨by simp [saysS], fun k a b => by simp [saysS, Fl]⟩
section
variable {w : World} {F G : Nat → Prop} {s s' : Sl} {xs xs' : List TShare} {ys : List SH}
def atS (xs : List TShare) (n : ByteArray) (i : Nat) : Bool := match xs[i]? with
  | some x => decide (x.Service = n)
  | none => false
theorem atS_eq {n : ByteArray} {i : Nat} (h : i < xs.length) : atS xs n i = decide (xs[i].Service = n) := by simp [atS, h]
theorem isS_ok {x : TShare} {n : ByteArray} {b : Nat} (hb : Blk w b 9 [.string n]) : Ans Value.bool 125 #[x.v, Ptr ⟨b, 0, none⟩] w (decide (x.Service = n)) := by
  refine c125 ?_
  unfold f125
  refine New.mk fun b2 w1 e1 h2 _ _ => ?_
  refine rn_blk one9 h2 rfl rfl ?_
  refine rn_blk (x := n) one9 (hb.ext e1) rfl rfl ?_
  exact ⟨e1, rfl⟩
theorem index124_ok (h : Rd TShare.cells 2 F w s xs) {n : ByteArray} {b : Nat} (hb : Blk w b 9 [.string n]) : Ans (Value.int .i64) 124 #[s.v, .func (.func 125) #[] #[Ptr ⟨b, 0, none⟩]] w (fst? (atS xs n) xs.length) := by
  refine c124 ?_
  unfold f124
  refine Lp.mk (fun (i : Int) w' => ∃ k : Nat, i = k ∧ k ≤ xs.length ∧ Ext w w' ∧ ∀ j, j < k → atS xs n j = false) (fun i => xs.length - i.toNat) ⟨0, rfl, Nat.zero_le _, Ext.refl _, fun j hj => absurd hj (Nat.not_lt_zero _)⟩ ?_
  rintro i w1 K ⟨k, rfl, hk, hE, hall⟩ hK
  by_cases hlt : k < xs.length
  · rw [if_pos (by rw [h.len]; omega)]
    refine rnp_idx sl23 (h.ext hE) hlt rfl fun p _ hp => ?_
    refine rn_ldN (x := xs[k]) many32 hp rfl rfl ?_
    refine ⟨125, #[], #[Ptr ⟨b, 0, none⟩], rfl, fun vs w => enters Try.func125 rfl rfl vs w, ?_⟩
    refine Cal.mono (isS_ok (x := xs[k]) (hb.ext hE)) ?_
    rintro _ w2 ⟨e2, rfl⟩
    have ha := atS_eq (n := n) hlt
    by_cases c : xs[k].Service = n
    · exact iteT (by simpa using c) ⟨hE.trans e2, (fst?_some hlt (by rw [ha]; simpa using c) hall).symm⟩
    · refine iteF (by simpa using c) ?_
      rw [h.wr hlt]; exact hK _ _ ⟨k + 1, rfl, hlt, hE.trans e2, all_succ hall (by rw [ha]; simpa using c)⟩ (by omega)
  · rw [if_neg (by rw [h.len]; omega)]
    exact ⟨hE, (fst?_none fun j hj => hall j (by omega)).symm⟩
theorem atS_cases (xs : List TShare) (n : ByteArray) : (fst? (atS xs n) xs.length = -1 ∧ ∀ j, j < xs.length → atS xs n j = false) ∨ ∃ k : Nat, fst? (atS xs n) xs.length = k ∧ k < xs.length ∧ atS xs n k = true ∧ ∀ j, j < k → atS xs n j = false := by
  by_cases h : ∃ k, k < xs.length ∧ atS xs n k = true
  · right
    obtain ⟨k, ⟨hk, hp⟩, hmin⟩ := least h
    refine ⟨k, fst?_some hk hp (fun j hj => ?_), hk, hp, fun j hj => ?_⟩ <;>
    · cases c : atS xs n j with
      | false => rfl
      | true => have := hmin j ⟨by omega, c⟩; omega
  · left
    have : ∀ j, j < xs.length → atS xs n j = false := fun j hj => by
      cases c : atS xs n j with
      | false => rfl
      | true => exact absurd ⟨j, hj, c⟩ h
    exact ⟨fst?_none this, this⟩
theorem addS_at (d : ShD xs ys) {n : ByteArray} {x : Option Nat} {k : Nat} (hk : k < xs.length) (hp : atS xs n k = true) (hall : ∀ j, j < k → atS xs n j = false) (hk' : k < ys.length) : addS ys n x = ys.set k (n, oadd2 ys[k].2 x) ∧ ys[k].1 = n := by
  have hl := d.len
  have e : ∀ j (hj : j < xs.length), ys[j].1 = xs[j].Service := fun j hj => (d.el j hj (by omega)).1.symm
  have h0 : ys[k].1 = n := by rw [e k hk]; rw [atS_eq hk] at hp; simpa using hp
  refine ⟨addS_hit hk' h0 fun j hj => ?_, h0⟩
  rw [e j (by omega)]
  have := hall j hj
  rw [atS_eq (by omega)] at this; simpa using this
theorem addS_no (d : ShD xs ys) {n : ByteArray} {x : Option Nat} (hall : ∀ j, j < xs.length → atS xs n j = false) : addS ys n x = ys ++ [(n, oadd2 (some 0) x)] := addS_miss fun p hp => by
  obtain ⟨j, hj, rfl⟩ := List.mem_iff_getElem.1 hp
  have hl := d.len
  have := hall j (by omega)
  rw [atS_eq (by omega), (d.el j (by omega) hj).1] at this; simpa using this
variable {B : Nat} {n : ByteArray} {x : Nat} {p : Option Nat}
def Adds (B : Nat) (w : World) (s : Sl) (ys : List SH) (s' : Sl) (w' : World) : Prop :=
  Chg (own? s) w w' ∧ (∀ b, own? s' b → own? s b ∨ w.heap.size ≤ b) ∧ ∃ xs', Own TShare.cells 2 32 B w' s' xs' ∧ ShD xs' ys
theorem add_ok (hO : Own TShare.cells 2 32 B w s xs) (d : ShD xs ys) (hB : B ≤ w.heap.size) (hp : Fl p x) (hbytes : (ys.length + 1) * 24 ≤ 140737488355328) :
    Cal PP Sl.v 100 #[s.v, .string n, .float .f64 x] w (Adds B w s (addS ys n p)) := by
  refine c100 ?_
  unfold f100
  have hl := d.len
  refine New.mk fun b4 w1 e1 h4 n4 s4 => ?_
  refine (index124_ok ((hO.ext e1).rd (F := fun _ => True) (fun _ _ => trivial)) h4).mono ?_
  rintro _ w2 ⟨e2, rfl⟩
  replace h4 := h4.ext e2
  have E := e1.trans e2
  have hO2 := hO.ext E
  have g2 := E.size
  refine ⟨fun (y : Sl × Int) w' => ∃ (k : Nat) (xs' : List TShare) (ys' : List SH) (hk : k < ys'.length), y.2 = k ∧ Chg (own? s) w w' ∧ (∀ b, own? y.1 b → own? s b ∨ w.heap.size ≤ b) ∧ Own TShare.cells 2 32 B w' y.1 xs' ∧ ShD xs' ys' ∧
      addS ys n p = ys'.set k (n, oadd2 ys'[k].2 p) ∧ ys'[k].1 = n, ?_, ?_⟩
  · rcases atS_cases xs n with ⟨h0, hall⟩ | ⟨k, h0, hk, hpk, hall⟩
    · refine iteT (by rw [h0]; decide) ?_
      refine rn_blk (x := n) one9 h4 rfl rfl ?_
      refine New.mk fun b18 w3 e3 h18 n18 s18 => ?_
      refine rn_app1 (x := (⟨n, 0⟩ : TShare)) el23 (hO2.ext e3) h18 rfl rfl (oc_share _) (by rw [hl]; exact hbytes) (by decide) (by have := e3.size; omega) fun s' w4 O4 c4 n4' => ?_
      refine ⟨ys.length, xs ++ [⟨n, 0⟩], ys ++ [(n, some 0)], by simp, by simp only [hO.len, hl], ((E.trans e3).chg _).trans c4, fun b hb => ?_, O4, d.snoc (x := ⟨n, 0⟩) (y := (n, some 0)) rfl rfl, ?_, by simp⟩
      · rcases n4' b hb with h | h
        · exact .inl h
        · right; have := e3.size; omega
      · rw [addS_no d hall]; simp
    · refine iteF (by rw [h0]; omega) ?_
      obtain ⟨h5, h6⟩ := addS_at d (x := p) hk hpk hall (by omega)
      exact ⟨k, xs, ys, by omega, h0, E.chg _, fun b hb => .inl hb, hO2, d, h5, h6⟩
  rintro ⟨s', _⟩ w5 ⟨k, xs', ys', hk, rfl, c5, n5, O5, d5, h5, h6⟩
  dsimp only at n5 O5 ⊢
  have hl5 := d5.len
  refine rnp_idx sl23 (O5.rd (F := fun _ => True) (fun _ _ => trivial)) (k := k) (by omega) rfl fun q _ hq => ?_
  refine rn_at one30 hq rfl ?_
  refine rn_add2 (d5.el k (by omega) hk).2 hp fun v w6 hv e6 _ => ?_
  refine own_setN (f := 1) (vs := [.float .f64 v]) (x' := (⟨n, v⟩ : TShare)) sl23 (O5.ext e6) (k := k) (by omega) rfl (by simp) sz30 rfl (by simp [Value.oneCell']) ?_ fun w7 c7 O7 s7 => ?_
  · rw [show n = xs'[k].Service by rw [(d5.el k (by omega) hk).1, h6]]; rfl
  · refine ⟨(c5.thenE e6).then c7 fun b hb ho => ?_, n5, _, O7, ?_⟩
    · rcases n5 b ho with h | h
      · exact h
      · omega
    · rw [h5]; exact d5.set rfl hv
end
end Go.Proofs.Ytdoeegfcmbcbkaa.Ct


namespace Go.Proofs.Ytdoeegfcmbcbkaa.Ct
open Go Go.Eng Tr
set_option linter.unusedVariables false
set_option maxRecDepth 100000

section
variable {w : World} {F : Nat → Prop} {s : Sl} {xs : List TShare} {ys : List SH}
theorem ShD.last {xs : List TShare} {ys : List SH} (h : ShD xs ys) (h0 : 0 < xs.length) : ShD (xs.set (xs.length - 1) ⟨(xs[xs.length - 1]'(by omega)).Service, one64⟩) (lastOne ys) := by
  have hl := h.len
  have e : lastOne ys = ys.set (xs.length - 1) ((ys[xs.length - 1]'(by omega)).1, some one64) := by
    unfold lastOne
    apply List.ext_getElem (by simp)
    intro i h1 h2
    rw [List.getElem_modify, List.getElem_set]
    by_cases hi : xs.length - 1 = i
    · subst hi; rw [if_pos (by omega), if_pos rfl]
    · rw [if_neg (by omega), if_neg hi]
  rw [e]
  exact h.set (h.el _ (by omega) (by omega)).1 rfl
theorem stp_yes {st : List SH × Option Nat} {y : SH} (h : oGt y.2 0 = true) : stp st y = (st.1 ++ [(y.1, oadd2 st.2 y.2)], oadd2 st.2 y.2) := by unfold stp; rw [if_pos h]
theorem stp_no {st : List SH × Option Nat} {y : SH} (h : ¬ oGt y.2 0 = true) : stp st y = st := by unfold stp; rw [if_neg h]
theorem steps_ok (h : Rd TShare.cells 2 F w s xs) (d : ShD xs ys) (hbytes : (ys.length + 1) * 24 ≤ 140737488355328) :
    Cal PP Sl.v 19 #[s.v] w fun s' w' => Ext w w' ∧ ∃ xs', Own TShare.cells 2 32 w.heap.size w' s' xs' ∧ ShD xs' (stepsS ys) := by
  refine c19 ?_
  unfold f19
  have hl := d.len
  refine Lp.mk (fun (y : Sl × Nat × Int) w' => ∃ (k : Nat) (xs' : List TShare), y.2.2 = k ∧ k ≤ xs.length ∧ Ext w w' ∧ Own TShare.cells 2 32 w.heap.size w' y.1 xs' ∧ ShD xs' (rawS (ys.take k)).1 ∧ Fl (rawS (ys.take k)).2 y.2.1) (fun y => xs.length - y.2.2.toNat)
    ⟨0, [], rfl, Nat.zero_le _, Ext.refl _, Own.nil_ _ _, ShD.nil, rfl⟩ ?_
  rintro ⟨z, u, _⟩ w1 K ⟨k, xs', rfl, hk, hE, hO, hd, hu⟩ hK
  dsimp only at hO hd hu ⊢
  by_cases hlt : k < xs.length
  · rw [if_pos (by rw [h.len]; omega)]
    have hky : k < ys.length := by omega
    have hel := d.el k hlt hky
    refine ⟨fun (y : Sl × Nat) w' => ∃ xs', Ext w w' ∧ Own TShare.cells 2 32 w.heap.size w' y.1 xs' ∧ ShD xs' (rawS (ys.take (k + 1))).1 ∧ Fl (rawS (ys.take (k + 1))).2 y.2, ?_, ?_⟩
    · rw [rawS_succ hky]
      refine rnp_idx sl23 (h.ext hE) hlt rfl fun p _ hp => ?_
      refine rn_ldN (x := xs[k]) many32 hp rfl rfl ?_
      refine New.var (TShare.cells xs[k]) sz32 rfl (oc_share _) rfl fun b6 w2 e2 h6 _ => ?_
      replace hE := hE.trans e2; replace hO := hO.ext e2
      refine rn_blk (x := xs[k].Upto) one30 h6 rfl rfl ?_
      rw [hel.2.gt]
      by_cases c : oGt ys[k].2 0 = true
      · refine iteT c ?_
        rw [stp_yes c]
        refine rn_blk (x := xs[k].Upto) one30 h6 rfl rfl ?_
        refine rn_add2 hu hel.2 fun v w3 hv e3 _ => ?_
        replace hE := hE.trans e3; replace hO := hO.ext e3; replace h6 := h6.ext e3
        refine rn_blk (x := xs[k].Service) one9 h6 rfl rfl ?_
        refine New.mk fun b25 w4 e4 h25 _ _ => ?_
        replace hE := hE.trans e4; replace hO := hO.ext e4
        have hlen : xs'.length ≤ k := by rw [hd.len]; exact rawS_len ys k (by omega)
        refine rn_app1 (x := (⟨xs[k].Service, v⟩ : TShare)) el23 hO h25 rfl rfl (oc_share _) (by omega) (by decide) hE.size fun s' w5 O5 c5 n5 => ?_
        exact ⟨_, hE.then c5 (fun b hb => (hO.ge hb).1), O5, hd.snoc hel.1 hv, hv⟩
      · refine iteF c ?_
        rw [stp_no c]
        exact ⟨xs', hE, hO, hd, hu⟩
    · rintro ⟨z, u⟩ w2 ⟨xs', hE, hO, hd, hu⟩
      dsimp only at hO hu ⊢
      rw [h.wr hlt]
      exact hK _ _ ⟨k + 1, xs', rfl, hlt, hE, hO, hd, hu⟩ (by dsimp only; omega)
  · rw [if_neg (by rw [h.len]; omega)]
    obtain rfl : k = xs.length := by omega
    rw [hl, List.take_length] at hd
    refine ⟨fun _ w' => Ext w w' ∧ ∃ xs', Own TShare.cells 2 32 w.heap.size w' z xs' ∧ ShD xs' (stepsS ys), ?_, fun _ w' h => h⟩
    by_cases c : 0 < xs'.length
    · refine iteT (by rw [hO.len]; omega) ?_
      have hlim := (hO.rd (F := fun _ => True) (fun _ _ => trivial)).lim
      have hcap := (hO.rd (F := fun _ => True) (fun _ _ => trivial)).cap
      have hn := hO.len
      have ei : IntKind.i64.wrap ((z.n : Int) - 1) = ((xs'.length - 1 : Nat) : Int) := by
        unfold maxLen at hlim
        rw [hn, wrap_in ⟨by omega, by omega⟩]; omega
      rw [ei]
      refine own_setN (f := 1) (vs := [.float .f64 one64]) (x' := (⟨(xs'[xs'.length - 1]'(by omega)).Service, one64⟩ : TShare)) sl23 hO (k := xs'.length - 1) (by omega) rfl (by simp) sz30 rfl (by simp [Value.oneCell']) rfl fun w2 c2 O2 s2 => ?_
      exact ⟨hE.then c2 (fun b hb => (hO.ge hb).1), _, O2, hd.last c⟩
    · refine iteF (by rw [hO.len]; omega) ?_
      have h0 : xs' = [] := List.eq_nil_of_length_eq_zero (by omega)
      have h1 : (rawS ys).1 = [] := List.eq_nil_of_length_eq_zero (by rw [← hd.len]; omega)
      exact ⟨hE, xs', hO, by unfold stepsS; rw [h1, h0]; exact ShD.nil⟩

def posAt (ys : List SH) (k : Nat) : Bool := match ys[k]? with
  | some y => oGt y.2 0
  | none => false
def lst (ys : List SH) : Nat → Int
  | 0 => -1
  | k + 1 => if posAt ys k = true then (k : Int) else lst ys k
def cutS (m : Int) (k : Nat) (ys : List SH) : List SH := if m < (k : Int) then lastOne ys else ys
end
end Go.Proofs.Ytdoeegfcmbcbkaa.Ct


namespace Go.Proofs.Ytdoeegfcmbcbkaa.Ct
open Go Go.Eng Tr
set_option linter.unusedVariables false
set_option maxRecDepth 100000

section
variable {w : World} {F : Nat → Prop} {s : Sl} {rs : List TResource}
def ofKind (kind : Int) (rs : List TResource) : List TResource := rs.filter fun r => decide (r.Kind = kind)
theorem ofKind_succ {kind : Int} {k : Nat} (h : k < rs.length) : ofKind kind (rs.take (k + 1)) = ofKind kind (rs.take k) ++ if rs[k].Kind = kind then [rs[k]] else [] := by
  unfold ofKind
  rw [List.take_add_one, List.getElem?_eq_getElem h, List.filter_append]
  by_cases c : rs[k].Kind = kind <;> simp [c]
theorem ofKind_len (kind : Int) (rs : List TResource) : (ofKind kind rs).length ≤ rs.length := List.length_filter_le _ _
theorem named_ok (h : Rd TResource.cells 8 F w s rs) (kind : Int) (hb : (rs.length + 1) * 136 ≤ 140737488355328) :
    Cal PP Sl.v 54 #[s.v, .int .i64 kind] w fun s' w' => Ext w w' ∧ Own TResource.cells 8 48 w.heap.size w' s' (ofKind kind rs) := by
  refine c54 ?_
  unfold f54
  refine Lp.mk (fun (y : Sl × Int) w' => ∃ k : Nat, y.2 = k ∧ k ≤ rs.length ∧ Ext w w' ∧ Own TResource.cells 8 48 w.heap.size w' y.1 (ofKind kind (rs.take k))) (fun y => rs.length - y.2.toNat) ⟨0, rfl, Nat.zero_le _, Ext.refl _, Own.nil_ _ _⟩ ?_
  rintro ⟨z, _⟩ w1 K ⟨k, rfl, hk, hE, hO⟩ hK
  dsimp only at hO ⊢
  by_cases hlt : k < rs.length
  · rw [if_pos (by rw [h.len]; omega)]
    refine ⟨fun y w' => Ext w w' ∧ Own TResource.cells 8 48 w.heap.size w' y (ofKind kind (rs.take (k + 1))), ?_, ?_⟩
    · rw [ofKind_succ hlt]
      refine rnp_idx sl22 (h.ext hE) hlt rfl fun p _ hp => ?_
      refine rn_ldN (x := rs[k]) many48 hp rfl rfl ?_
      refine New.var (TResource.cells rs[k]) sz48 rfl (oc_res _) rfl fun b7 w2 e2 h7 _ => ?_
      replace hE := hE.trans e2; replace hO := hO.ext e2
      refine rn_blk (x := rs[k].Kind) one3 h7 rfl rfl ?_
      by_cases c : rs[k].Kind = kind
      · refine iteT c ?_
        rw [if_pos c]
        refine rn_blkN (x := rs[k]) many48 h7 rfl rfl ?_
        refine New.mk fun b20 w3 e3 h20 _ _ => ?_
        have hlen := ofKind_len kind (rs.take k)
        rw [List.length_take] at hlen
        refine rn_app1 (x := rs[k]) el22 (hO.ext e3) h20 rfl rfl (oc_res _) (by omega) (by decide) (by have := (hE.trans e3).size; omega) fun s' w4 O4 c4 n4 => ?_
        exact ⟨(hE.trans e3).then c4 (fun b hb => (hO.ge hb).1), O4⟩
      · refine iteF c ⟨hE, ?_⟩
        rw [if_neg c, List.append_nil]; exact hO
    · rintro y w2 ⟨hE, hO⟩
      rw [h.wr hlt]
      exact hK _ _ ⟨k + 1, rfl, hlt, hE, hO⟩ (by dsimp only; omega)
  · rw [if_neg (by rw [h.len]; omega)]
    obtain rfl : k = rs.length := by omega
    rw [List.take_length] at hO
    exact ⟨hE, hO⟩
def atR (rs : List TResource) (n : ByteArray) (i : Nat) : Bool := match rs[i]? with
  | some r => decide (r.Name = n)
  | none => false
def hasR (rs : List TResource) (n : ByteArray) : Bool := decide (0 ≤ fst? (atR rs n) rs.length)
end

theorem mapT97 : MapT PP 97 9 23 Value.string Sl.v Sl.nil := ⟨Try.underlying97, keyT_string Try.underlying9, by kernel_rfl⟩
theorem mapT153 : MapT PP 153 9 45 Value.string Sl.v Sl.nil := ⟨Try.underlying153, keyT_string Try.underlying9, by kernel_rfl⟩
def ofV (b6 b3 b7 : Nat) : Value := .func (.func 99) #[] #[Ptr ⟨b6, 0, none⟩, Ptr ⟨b3, 0, none⟩, Ptr ⟨b7, 0, none⟩]
structure AllW (F : Nat → Prop) (l : List DRes) (b3 b6 b7 b9 b23 : Nat) (ms : List (ByteArray × Sl)) (w : World) : Prop where
  hb3 : Blk w b3 153 [.map (some b9)]
  hb6 : Blk w b6 97 [.map (some b23)]
  hb7 : Blk w b7 154 [ofV b6 b3 b7]
  hms : Mp Value.string Sl.v w b9 ms
  tg : ∀ n d, splitOf l n = some d → ∃ t, mget ms n = some t ∧ Rd TTarget.cells 3 F w t d.targets
  no : ∀ n, splitOf l n = none → mget ms n = none
  ne : b3 ≠ b23 ∧ b6 ≠ b23 ∧ b7 ≠ b23 ∧ b9 ≠ b23
  nF : ∀ b, F b → b ≠ b23
section
variable {F Q Q' S : Nat → Prop} {l : List DRes} {b3 b6 b7 b9 b23 : Nat} {ms : List (ByteArray × Sl)} {m : List (ByteArray × Sl)} {w w' : World}
theorem AllW.chg (h : AllW F l b3 b6 b7 b9 b23 ms w) (k : Chg (fun b => b = b23) w w') : AllW F l b3 b6 b7 b9 b23 ms w' :=
  ⟨h.hb3.chg k h.ne.1, h.hb6.chg k h.ne.2.1, h.hb7.chg k h.ne.2.2.1, h.hms.chg k h.ne.2.2.2, fun n d hs => let ⟨t, h1, h2⟩ := h.tg n d hs; ⟨t, h1, h2.chg k (fun b hb _ => h.nF b hb)⟩, h.no, h.ne, h.nF⟩
theorem AllW.chgR {r : Nat} (h : AllW F l b3 b6 b7 b9 b23 ms w) (k : Chg (fun b => b = r) w w') (h3 : b3 ≠ r) (h6 : b6 ≠ r) (h7 : b7 ≠ r) (h9 : b9 ≠ r) (hF : ∀ b, F b → b ≠ r) : AllW F l b3 b6 b7 b9 b23 ms w' :=
  ⟨h.hb3.chg k h3, h.hb6.chg k h6, h.hb7.chg k h7, h.hms.chg k h9, fun n d hs => let ⟨t, h1, h2⟩ := h.tg n d hs; ⟨t, h1, h2.chg k (fun b hb _ => hF b hb)⟩, h.no, h.ne, h.nF⟩
structure DoneI (Q : Nat → Prop) (l : List DRes) (b23 : Nat) (w : World) (m : List (ByteArray × Sl)) : Prop where
  mp : Mp Value.string Sl.v w b23 m
  el : ∀ n v, mget m n = some v → ∃ xs, Rd TShare.cells 2 (fun b => (b ≠ b23 ∧ ¬ Q b) ∧ b < w.heap.size) w v xs ∧ ShD xs (shF l n)
theorem DoneI.chg (h : DoneI Q l b23 w m) (k : Chg S w w') (h1 : ¬ S b23) (h2 : ∀ b, b < w.heap.size → S b → Q b) (h3 : ∀ b, b < w.heap.size → Q' b → Q b) : DoneI Q' l b23 w' m :=
  ⟨h.mp.chg k h1, fun n v hv => let ⟨xs, r, d⟩ := h.el n v hv; ⟨xs, (r.chg k (fun b hb _ hS => hb.1.2 (h2 b hb.2 hS))).mono fun b hb => ⟨⟨hb.1.1, fun hq => hb.1.2 (h3 b hb.2 hq)⟩, by have := k.size; omega⟩, d⟩⟩
theorem DoneI.ext (h : DoneI Q l b23 w m) (k : Ext w w') : DoneI Q l b23 w' m := h.chg (k.chg (fun _ => False)) (fun h => h) (fun _ _ h => h.elim) (fun _ _ h => h)
theorem DoneI.weaken (h : DoneI Q l b23 w m) (h3 : ∀ b, b < w.heap.size → Q' b → Q b) : DoneI Q' l b23 w m := h.chg (Chg.refl (fun _ => False) _) (fun h => h) (fun _ _ h => h.elim) h3
def Knows (Q : Nat → Prop) (l : List DRes) (b23 : Nat) (n : ByteArray) (v : Sl) (w : World) : Prop := ∃ xs, Rd TShare.cells 2 (fun b => (b ≠ b23 ∧ ¬ Q b) ∧ b < w.heap.size) w v xs ∧ ShD xs (shF l n)
theorem of_shares (hS : Stand l) (hlen : l.length ≤ 64) : ∀ (j : Nat) (w : World) (Q : Nat → Prop) (m : List (ByteArray × Sl)) (n : ByteArray), hd l 8 n ≤ 8 → hd l 8 n ≤ j →
    AllW F l b3 b6 b7 b9 b23 ms w → DoneI Q l b23 w m → (∀ b, Q b → b < w.heap.size) →
    Cal PP Sl.v 99 #[.string n, Ptr ⟨b6, 0, none⟩, Ptr ⟨b3, 0, none⟩, Ptr ⟨b7, 0, none⟩] w fun v w' => Chg (fun b => b = b23) w w' ∧ Knows Q l b23 n v w' ∧ ∃ m', DoneI Q l b23 w' m' ∧ n ∈ mkeys m' ∧ ∀ k, k ∈ mkeys m → k ∈ mkeys m' := by
  intro j
  induction j with
  | zero => intro w Q m n _ h; have := (hd_bounds l 8 n).1; omega
  | succ j ih =>
  intro w Q m n h8 hj hW hD hQ
  refine c99 ?_
  unfold f99
  have h23 : b23 < w.heap.size := hD.mp.lt
  refine rn_blk (x := some b23) one97 hW.hb6 rfl rfl ?_
  refine rn_get2 (k := n) (fun _ => rfl) mapT97 hD.mp ?_
  cases hg : mget m n with
  | some v =>
    refine iteT rfl ⟨Chg.refl _ _, hD.el n v hg, m, hD, ?_, fun _ h => h⟩
    exact Classical.byContradiction fun h => by rw [mget_none.2 h] at hg; cases hg
  | none =>
  refine iteF (by simp) ?_
  refine rn_blk (x := some b9) one153 hW.hb3 rfl rfl ?_
  refine rn_get (k := n) mapT153 hW.hms ?_
  -- what its targets are
  have htg : ∃ ts : List TTarget, (∀ w', Chg (fun b => b = b23) w w' → Rd TTarget.cells 3 (fun b => F b ∨ False) w' ((mget ms n).getD Sl.nil) ts) ∧ sumS (shF l) ts = shF l n ∧ (∀ k, OkS l (sumS (shF l) (ts.take k))) ∧
      (∀ t ∈ ts, t.Service = ⟨#[]⟩ → hd l 8 t.Split < hd l 8 n) := by
    cases hs : splitOf l n with
    | none =>
      refine ⟨[], fun w' _ => ?_, by rw [shF_none hs]; rfl, fun k => by rw [List.take_nil]; exact OkS.nil, fun t ht => by cases ht⟩
      rw [hW.no n hs]; exact Rd.nil_ _ _
    | some d =>
      obtain ⟨t, h1, h2⟩ := hW.tg n d hs
      obtain ⟨q1, q2, q3⟩ := splitOf_mem hs
      refine ⟨d.targets, fun w' k => ?_, (shF_eq h8 hs).symm, fun k => sumS_ok hS q1 q2 k, fun t ht hts => kid_hd h8 (kid_mem hs ht hts)⟩
      rw [h1]; exact (h2.chg k (fun b hb _ => hW.nF b hb)).mono fun b hb => .inl hb
  obtain ⟨ts, hrd, hsum, hok, hkid⟩ := htg
  generalize (mget ms n).getD Sl.nil = st at hrd
  refine Lp.mk (fun (y : Sl × Int) w' => ∃ (k : Nat) (m' : List (ByteArray × Sl)) (xs : List TShare), y.2 = k ∧ k ≤ ts.length ∧ Chg (fun b => b = b23) w w' ∧ Own TShare.cells 2 32 w.heap.size w' y.1 xs ∧ ShD xs (sumS (shF l) (ts.take k)) ∧
      DoneI (fun b => Q b ∨ own? y.1 b) l b23 w' m' ∧ ∀ k, k ∈ mkeys m → k ∈ mkeys m') (fun y => ts.length - y.2.toNat)
    ⟨0, m, [], rfl, Nat.zero_le _, Chg.refl _ _, Own.nil_ _ _, ShD.nil, hD.weaken fun b _ hb => hb.elim id (fun ⟨a, ha, _⟩ => by cases ha), fun _ h => h⟩ ?_
  rintro ⟨z, _⟩ w1 K ⟨k, m1, xs, rfl, hk, hC, hO, hd1, hD1, hg1⟩ hK
  dsimp only at hO hD1 ⊢
  have hrd1 := hrd w1 hC
  by_cases hlt : k < ts.length
  · rw [if_pos (by rw [hrd1.len]; omega)]
    refine ⟨fun z w' => ∃ (m' : List (ByteArray × Sl)) (xs : List TShare), Chg (fun b => b = b23) w w' ∧ Own TShare.cells 2 32 w.heap.size w' z xs ∧ ShD xs (sumS (shF l) (ts.take (k + 1))) ∧
      DoneI (fun b => Q b ∨ own? z b) l b23 w' m' ∧ ∀ k, k ∈ mkeys m → k ∈ mkeys m', ?_, ?_⟩
    · have hok1 := hok (k + 1)
      rw [sumS_succ hlt] at hok1 ⊢
      refine rnp_idx sl45 hrd1 hlt rfl fun p _ hp => ?_
      refine rn_ldN (x := ts[k]) many84 hp rfl rfl ?_
      refine New.var (TTarget.cells ts[k]) sz84 rfl (oc_target _) rfl fun b10 w2 e2 h10 _ => ?_
      replace hC := hC.thenE e2; replace hO := hO.ext e2; replace hD1 := hD1.ext e2
      refine rn_blk (x := ts[k].Weight) one30 h10 rfl rfl ?_
      refine arith_run .quo _ rfl fun wv w3 hwv e3 _ => ?_
      replace hwv : Fl (wt ts[k]) wv := hwv
      replace hC := hC.thenE e3; replace hO := hO.ext e3; replace hD1 := hD1.ext e3; replace h10 := h10.ext e3
      refine rn_blk (x := ts[k].Service) one9 h10 rfl rfl ?_
      unfold partS at hok1 ⊢
      by_cases c : ts[k].Service = ⟨#[]⟩
      · rw [if_pos c] at hok1 ⊢
        refine iteF (by simpa using c) ?_
        have hW3 := hW.chg hC
        refine rn_blk (x := ofV b6 b3 b7) one154 hW3.hb7 rfl rfl ?_
        refine rn_blk (x := ts[k].Split) one9 h10 rfl rfl ?_
        refine ⟨99, #[], #[Ptr ⟨b6, 0, none⟩, Ptr ⟨b3, 0, none⟩, Ptr ⟨b7, 0, none⟩], rfl, fun vs w => enters Try.func99 rfl rfl vs w, ?_⟩
        have hkd := hkid _ (List.getElem_mem hlt) c
        refine Cal.mono (ih w3 (fun b => Q b ∨ own? z b) m1 ts[k].Split (by omega) (by omega) hW3 hD1 (fun b hb => ?_)) ?_
        · rcases hb with hb | hb
          · have := hQ b hb; have := hC.size; omega
          · exact (hO.ge hb).2
        rintro v w4 ⟨c4, ⟨vs, hv, hvd⟩, m4, hD4, _, hg4⟩
        have hO4 := hO.chg c4 (fun b hb => by have := (hO.ge hb).1; omega)
        have hC4 := hC.trans c4
        clear hD1 hO h10 hC
        have hvl := hvd.len
        refine Lp.mk (fun (y : Sl × Int) w' => ∃ (q : Nat) (xs : List TShare), y.2 = q ∧ q ≤ vs.length ∧ Chg (fun b => b = b23) w w' ∧ Own TShare.cells 2 32 w.heap.size w' y.1 xs ∧ ShD xs (mixS (wt ts[k]) (sumS (shF l) (ts.take k)) ((shF l ts[k].Split).take q)) ∧
            DoneI (fun b => Q b ∨ own? y.1 b) l b23 w' m4 ∧ Rd TShare.cells 2 (fun b => (b ≠ b23 ∧ ¬ (Q b ∨ own? y.1 b)) ∧ b < w'.heap.size) w' v vs) (fun y => vs.length - y.2.toNat)
          ⟨0, xs, rfl, Nat.zero_le _, hC4, hO4, hd1, hD4, hv⟩ ?_
        rintro ⟨y, _⟩ w5 K2 ⟨q, xs5, rfl, hq, hC5, hO5, hd5, hD5, hv5⟩ hK2
        dsimp only at hO5 hD5 hv5 ⊢
        by_cases hqv : q < vs.length
        · rw [if_pos (by rw [hv5.len]; omega)]
          have hqs : q < (shF l ts[k].Split).length := by omega
          have hel := hvd.el q hqv hqs
          refine rnp_idx sl23 hv5 hqv rfl fun p _ hp => ?_
          refine rn_ldN (x := vs[q]) many32 hp rfl rfl ?_
          refine New.var (TShare.cells vs[q]) sz32 rfl (oc_share _) rfl fun b13 w6 e6 h13 _ => ?_
          refine rn_blk (x := vs[q].Service) one9 h13 rfl rfl ?_
          refine rn_blk (x := vs[q].Upto) one30 h13 rfl rfl ?_
          refine rn_mul2 hwv hel.2 fun pv w7 hpv e7 _ => ?_
          have e := e6.trans e7
          have hb := OkS.len (OkS.mix (x := wt ts[k]) (zs := (shF l ts[k].Split).take q) (hok k) fun p hp => (sh_ok hS 9 ts[k].Split).has p (List.mem_of_mem_take hp))
          have gsz := hC5.size
          have gs := e.size
          refine Cal.mono (add_ok (n := vs[q].Service) (hO5.ext e) hd5 (by omega) hpv (by omega)) ?_
          rintro z' w8 ⟨c8, n8, xs8, hO8, hd8⟩
          rw [hv5.wr hqv]
          have own5 : ∀ b, own? y b → w.heap.size ≤ b ∧ b < w5.heap.size := fun b hb => hO5.ge hb
          have own8 : ∀ b, b < w7.heap.size → own? z' b → own? y b := fun b hb ho => by
            rcases n8 b ho with h | h
            · exact h
            · omega
          refine hK2 _ _ ⟨q + 1, xs8, rfl, hqv, (hC5.thenE e).then c8 (fun b hb ho => by have := (own5 b ho).1; omega), hO8, ?_, ?_, ?_⟩ (by dsimp only; omega)
          · rw [mixS_succ hqs]; rw [hel.1] at hd8; exact hd8
          · exact (hD5.ext e).chg c8 (fun ho => by have := (own5 _ ho).1; omega) (fun b _ ho => .inr ho) (fun b hb h => h.imp id (own8 b hb))
          · have c8s := c8.size
            exact ((hv5.ext e).chg c8 (fun b hb _ ho => hb.1.2 (.inr ho))).mono fun b hb => ⟨⟨hb.1.1, fun h => hb.1.2 (h.imp id (own8 b (by omega)))⟩, by omega⟩
        · rw [if_neg (by rw [hv5.len]; omega)]
          obtain rfl : q = vs.length := by omega
          rw [hvl, List.take_length] at hd5
          exact ⟨m4, xs5, hC5, hO5, hd5, hD5, fun k hk => hg4 k (hg1 k hk)⟩
      · rw [if_neg c] at hok1 ⊢
        refine iteT (by simpa using c) ?_
        refine rn_blk (x := ts[k].Service) one9 h10 rfl rfl ?_
        have hb := (hok k).len
        have gsz := hC.size
        refine Cal.mono (add_ok (n := ts[k].Service) hO hd1 (by omega) hwv (by omega)) ?_
        rintro z' w8 ⟨c8, n8, xs8, hO8, hd8⟩
        have own3 : ∀ b, own? z b → w.heap.size ≤ b ∧ b < w3.heap.size := fun b hb => hO.ge hb
        have own8 : ∀ b, b < w3.heap.size → own? z' b → own? z b := fun b hb ho => by
          rcases n8 b ho with h | h
          · exact h
          · omega
        exact ⟨m1, xs8, hC.then c8 (fun b hb ho => by have := (own3 b ho).1; omega), hO8, hd8, hD1.chg c8 (fun ho => by have := (own3 _ ho).1; omega) (fun b _ ho => .inr ho) (fun b hb h => h.imp id (own8 b hb)), hg1⟩
    · rintro z' w2 ⟨m2, xs2, hC2, hO2, hd2, hD2, hg2⟩
      rw [hrd1.wr hlt]
      exact hK _ _ ⟨k + 1, m2, xs2, rfl, hlt, hC2, hO2, hd2, hD2, hg2⟩ (by dsimp only; omega)
  · rw [if_neg (by rw [hrd1.len]; omega)]
    obtain rfl : k = ts.length := by omega
    rw [List.take_length, hsum] at hd1
    have hW1 := hW.chg hC
    refine rn_blk (x := some b23) one97 hW1.hb6 rfl rfl ?_
    refine rnu_put (k := n) (v := z) mapT97 hD1.mp fun w2 c2 hm2 s2 => ?_
    have hz : Rd TShare.cells 2 (fun b => (b ≠ b23 ∧ ¬ Q b) ∧ b < w2.heap.size) w2 z xs := ((hO.rd (F := fun b => own? z b) (fun b hb => hb)).chg c2 (fun b hb _ => by have := (hO.ge hb).1; omega)).mono fun b hb => by
      have h1 := hO.ge hb
      exact ⟨⟨by omega, fun hq => by have := hQ b hq; omega⟩, by omega⟩
    refine ⟨hC.trans c2, ⟨xs, hz, hd1⟩, mput m1 n z, ⟨hm2, fun n' v hv => ?_⟩, mem_mkeys_put.2 (.inl rfl), fun k hk => mem_mkeys_put.2 (.inr (hg1 k hk))⟩
    rw [mget_put] at hv
    by_cases e : n = n'
    · rw [if_pos e] at hv; cases hv; subst e; exact ⟨xs, hz, hd1⟩
    · rw [if_neg e] at hv
      obtain ⟨ys, r, d⟩ := hD1.el n' v hv
      exact ⟨ys, (r.chg c2 (fun b hb _ => hb.1.1)).mono fun b hb => ⟨⟨hb.1.1, fun hq => hb.1.2 (.inl hq)⟩, by omega⟩, d⟩
end
end Go.Proofs.Ytdoeegfcmbcbkaa.Ct


namespace Go.Proofs.Ytdoeegfcmbcbkaa.Ct
open Go Go.Eng Tr
set_option linter.unusedVariables false
set_option maxRecDepth 100000

section
variable {w : World} {F : Nat → Prop} {s : Sl} {rs : List TResource} {l : List DRes}
structure Fine (l : List DRes) : Prop where
  ord : ∀ i, i < l.length → outAt l i = false
  few : l.length ≤ 64
  stand : Stand l
  kids : ∀ n d t, splitOf l n = some d → t ∈ kidsOf d → (splitOf l t).isSome = true
  deep : ∀ n d, splitOf l n = some d → hd l 8 n ≤ 8
theorem fault_err (h : (faultM l).Err = 0) : Fine l := by
  by_cases c1 : 0 ≤ fst? (outAt l) l.length
  · rw [fs_out c1] at h; cases h
  by_cases c2 : 64 < l.length
  · rw [fs_big c1 c2] at h; cases h
  have key : ∀ p : Nat → Bool, (∀ k, k < l.length → p k = true → (∀ j, j < k → p j = false) → False) → ∀ j, j < l.length → p j = false := fun p hp => by
    intro j
    induction j using Nat.strongRecOn with
    | ind j ih =>
      intro hj
      cases c : p j with
      | false => rfl
      | true => exact (hp j hj c fun i hi => ih i hi (by omega)).elim
  have hd1 := key (dangAt l) fun k hk hp ha => by rw [fs_dang c1 c2 hk hp ha] at h; cases h
  have hd2 := key (twinAt l) fun k hk hp ha => by rw [fs_twin c1 c2 hd1 hk hp ha] at h; cases h
  have hd3 := key (heavyAt l) fun k hk hp ha => by rw [fs_heavy c1 c2 hd1 hd2 hk hp ha] at h; cases h
  have hd4 := key (deepAt l) fun k hk hp ha => by rw [fs_deep c1 c2 hd1 hd2 hd3 hk hp ha] at h; cases h
  refine ⟨fst?_neg (by omega), by omega, stand_of hd1, fun n d t hs ht => has_split (no_dang hd1 n d t hs ht), fun n d hs => ?_⟩
  obtain ⟨h1, h2, h3⟩ := splitOf_mem hs
  obtain ⟨i, hi, rfl⟩ := List.mem_iff_getElem.1 h1
  have := hd4 i hi
  rw [deepAt_eq hi] at this
  simp only [h2, decide_true, Bool.true_and, decide_eq_false_iff_not] at this
  rw [h3] at this; omega
theorem split_at (h : ConfD F w s rs l) (hf : ∀ i, i < l.length → outAt l i = false) {n : ByteArray} {d : DRes} (hs : splitOf l n = some d) : ∃ (i : Nat) (hi : i < rs.length) (hi' : i < l.length), l[i] = d ∧ rs[i].Kind = 2 ∧ rs[i].Name = n := by
  obtain ⟨h1, h2, h3⟩ := splitOf_mem hs
  obtain ⟨i, hi, rfl⟩ := List.mem_iff_getElem.1 h1
  have hi' : i < rs.length := by rw [h.len]; exact hi
  have hr := h.el i hi' hi
  exact ⟨i, hi', hi, rfl, by rw [hr.kind, h2], by rw [hr.name, h3]⟩
theorem split_of (h : ConfD F w s rs l) (hf : ∀ i, i < l.length → outAt l i = false) {i : Nat} (hi : i < rs.length) (hk : rs[i].Kind = 2) : ∃ hi' : i < l.length, splitOf l rs[i].Name = some l[i] := by
  have hi' : i < l.length := by rw [← h.len]; exact hi
  have hr := h.el i hi hi'
  exact ⟨hi', by rw [hr.name]; exact splitOf_self hf _ (List.getElem_mem hi') (by rw [← hr.kind]; exact hk)⟩
def errS (l : List DRes) (n : ByteArray) : Int := if (faultM l).Err ≠ 0 then (faultM l).Err else if (splitOf l n).isSome = true then 0 else 2
def ansS (l : List DRes) (n : ByteArray) : List SH := if (faultM l).Err = 0 ∧ (splitOf l n).isSome = true then shF l n else []
theorem allMap_ok (h : ConfD F w s rs l) (hf : Fine l) : Cal PP Value.map 57 #[s.v] w fun v w' => Ext w w' ∧ ∃ b m, v = some b ∧ w.heap.size ≤ b ∧ DoneI (fun b => b < w.heap.size) l b w' m ∧ ∀ n, (splitOf l n).isSome = true → n ∈ mkeys m := by
  refine c57 ?_
  unfold f57
  have hrl : rs.length ≤ 64 := by rw [h.len]; exact hf.few
  refine NewM.mk fun b9 w1 e1 h9 n9 s9 => ?_
  replace h9 : Mp Value.string Sl.v w1 b9 ([] : List (ByteArray × Sl)) := Mp.new h9
  refine New.var [.map (some b9)] sz153 rfl (by simp [Value.oneCell']) rfl fun b3 w2 e2 h3 nb3 => ?_
  replace h9 := h9.ext e2
  have E2 := e1.trans e2
  refine (named_ok (h.rd.ext E2) 2 (by omega)).mono ?_
  rintro t11 w3 ⟨e3, hO3⟩
  have hT := hO3.rd (F := fun b => w2.heap.size ≤ b ∧ b < w3.heap.size) (fun b hb => hO3.ge hb)
  have hTl : (ofKind 2 rs).length ≤ rs.length := ofKind_len 2 rs
  have hmem : ∀ r ∈ ofKind 2 rs, ∃ (i : Nat) (hi : i < rs.length), rs[i] = r ∧ rs[i].Kind = 2 := fun r hr => by
    obtain ⟨hr, hk⟩ := List.mem_filter.1 hr
    obtain ⟨i, hi, rfl⟩ := List.mem_iff_getElem.1 hr
    exact ⟨i, hi, rfl, by simpa using hk⟩
  generalize hts : ofKind 2 rs = ts at hT hTl hmem
  clear hO3
  have E3 := E2.trans e3
  have g3 := e3.size; have g2 := e2.size
  refine Lp.mk (fun (i : Int) w' => ∃ (k : Nat) (ms : List (ByteArray × Sl)), i = k ∧ k ≤ ts.length ∧ Ext w w' ∧ Ext w1 w1 ∧ w3.heap.size ≤ w'.heap.size ∧ Rd TResource.cells 8 (fun b => w2.heap.size ≤ b ∧ b < w3.heap.size) w' t11 ts ∧ Blk w' b3 153 [.map (some b9)] ∧ Mp Value.string Sl.v w' b9 ms ∧
      (∀ n t, mget ms n = some t → ∃ r ∈ ts, r.Name = n ∧ r.Targets = t) ∧ ∀ r ∈ ts.take k, r.Name ∈ mkeys ms) (fun i => ts.length - i.toNat)
    ⟨0, [], rfl, Nat.zero_le _, E3, Ext.refl _, Nat.le_refl _, hT, h3.ext e3, h9.ext e3, (fun n t ht => by cases ht), (fun r hr => by simp at hr)⟩ ?_
  clear hT h3 h9 E3 E2
  rintro i w4 K ⟨k, ms, rfl, hk, hE, _, g4, hT, h3, h9, hA, hB⟩ hK
  by_cases hlt : k < ts.length
  · rw [if_pos (by rw [hT.len]; omega)]
    refine rnp_idx sl22 hT hlt rfl fun p _ hp => ?_
    refine rn_ldN (x := ts[k]) many48 hp rfl rfl ?_
    refine New.var (TResource.cells ts[k]) sz48 rfl (oc_res _) rfl fun b5 w5 e5 h5 _ => ?_
    refine rn_blk (x := some b9) one153 (h3.ext e5) rfl rfl ?_
    refine rn_blk (x := ts[k].Name) one9 h5 rfl rfl ?_
    refine rn_blk (x := ts[k].Targets) one45 h5 rfl rfl ?_
    refine rnu_put (k := ts[k].Name) (v := ts[k].Targets) mapT153 (h9.ext e5) fun w6 c6 h9' s6 => ?_
    rw [hT.wr hlt]
    have g5 := e5.size
    have h9lt := h9.lt
    refine hK _ _ ⟨k + 1, _, rfl, hlt, (hE.trans e5).then c6 (fun b hb => by omega), Ext.refl _, by omega, (hT.ext e5).chg c6 (fun b hb _ => by omega), (h3.ext e5).chg c6 (by omega), h9', fun n t ht => ?_, fun r hr => ?_⟩ (by omega)
    · rw [mget_put] at ht
      by_cases e : ts[k].Name = n
      · rw [if_pos e] at ht; cases ht; exact ⟨ts[k], List.getElem_mem hlt, e, rfl⟩
      · rw [if_neg e] at ht; exact hA n t ht
    · rw [List.take_add_one, List.getElem?_eq_getElem hlt] at hr
      rcases List.mem_append.1 hr with hr | hr
      · exact mem_mkeys_put.2 (.inr (hB r hr))
      · simp at hr; subst hr; exact mem_mkeys_put.2 (.inl rfl)
  rw [if_neg (by rw [hT.len]; omega)]
  obtain rfl : k = ts.length := by omega
  rw [List.take_length] at hB
  clear hK
  refine NewM.mk fun b23 w5 e5 h23 n23 s23 => ?_
  replace h23 : Mp Value.string Sl.v w5 b23 ([] : List (ByteArray × Sl)) := Mp.new h23
  refine New.var [.map (some b23)] sz97 rfl (by simp [Value.oneCell']) rfl fun b6 w6 e6 h6 nb6 => ?_
  refine New.mk fun b7 w7 e7 h7 n7 s7 => ?_
  refine rnu_st (b := b7) (o := 0) rfl h7 [ofV b6 b3 b7] sz154 rfl (by simp [Value.oneCell', ofV]) (by simp) fun w8 c8 s8 h7 => ?_
  replace h7 : Blk w8 b7 154 [ofV b6 b3 b7] := h7
  have E5 : Ext w4 w6 := e5.trans e6
  have g6 := e6.size; have g7 := e7.size; have g5 := e5.size
  have E8 : Ext w4 w8 := (E5.trans e7).then c8 (fun b hb => by omega)
  have E8' : Ext w6 w8 := e7.then c8 (fun b hb => by omega)
  have h3lt := h3.lt; have h9lt := h9.lt; have h6lt := h6.lt; have h7lt := h7.lt
  have hdet : ∀ n t, mget ms n = some t → ∃ (i : Nat) (hi : i < rs.length) (hi' : i < l.length), rs[i].Targets = t ∧ splitOf l n = some l[i] := fun n t ht => by
    obtain ⟨r, hr, h1, h2⟩ := hA n t ht
    obtain ⟨i, hi, rfl, hk⟩ := hmem r hr
    obtain ⟨hi', hs⟩ := split_of h hf.ord hi hk
    exact ⟨i, hi, hi', h2, by rw [← h1]; exact hs⟩
  have hkeys : ∀ n d, splitOf l n = some d → n ∈ mkeys ms := fun n d hs => by
    obtain ⟨i, hi, _, _, hk, hn⟩ := split_at h hf.ord hs
    rw [← hn]
    exact hB _ (by rw [← hts]; exact List.mem_filter.2 ⟨List.getElem_mem hi, by simpa using hk⟩)
  have hW : AllW (fun b => F b ∧ b < w.heap.size) l b3 b6 b7 b9 b23 ms w8 := by
    have glow := hE.size
    refine ⟨h3.ext E8, h6.ext E8', h7, h9.ext E8, fun n d hs => ?_, fun n hs => ?_, ⟨by omega, by omega, by omega, by omega⟩, fun b hb => by have := hb.2; omega⟩
    · cases hg : mget ms n with
      | none => exact absurd (hkeys n d hs) (mget_none.1 hg)
      | some t =>
        obtain ⟨i, hi, hi', ht, hs'⟩ := hdet n t hg
        rw [hs] at hs'; cases hs'
        refine ⟨t, rfl, ?_⟩
        rw [← ht]
        exact ((h.low).el i hi hi').targets.ext (hE.trans E8)
    · cases hg : mget ms n with
      | none => rfl
      | some t => obtain ⟨i, hi, hi', ht, hs'⟩ := hdet n t hg; rw [hs] at hs'; cases hs'
  have hD : DoneI (fun _ => False) l b23 w8 [] := ⟨(h23.ext e6).ext E8', fun n v hv => by cases hv⟩
  refine rn_blk (x := some b9) one153 hW.hb3 rfl rfl ?_
  refine rn_range mapT153 hW.hms fun r w9 e9 hr9 hR => ?_
  have hb23 := hD.mp.lt
  have hW9 := hW.chg (e9.chg _)
  have glow := hE.size
  have g8 := E8.size
  have hE9 : Ext w w9 := (hE.trans E8).trans e9
  have hr23 : r ≠ b23 := by omega
  have hD9 : DoneI (fun b => b = r ∨ b < w.heap.size) l b23 w9 [] := ⟨(hD.ext e9).mp, fun n v hv => by cases hv⟩
  refine ⟨fun (_ : Unit) w' => ∃ (left : List (ByteArray × Sl)) (m : List (ByteArray × Sl)), Ext w w' ∧ r < w'.heap.size ∧ Rg Value.string Sl.v w' r b9 left ∧ AllW (fun b => F b ∧ b < w.heap.size) l b3 b6 b7 b9 b23 ms w' ∧ DoneI (fun b => b = r ∨ b < w.heap.size) l b23 w' m ∧
      (∀ x ∈ left, x ∈ ms) ∧ (∀ n ∈ mkeys ms, n ∈ mkeys left ∨ n ∈ mkeys m), fun _ w' => rgLeft w' r b9,
    ⟨ms, [], hE9, by have := hR.lt; omega, hR, hW9, hD9, fun x hx => hx, fun n hn => .inl hn⟩, ?_⟩
  rintro _ w10 ⟨left, m, hE10, hrl, hR10, hW10, hD10, hin, hall⟩
  have hlow : w.heap.size ≤ r := by omega
  refine rn_next hR10 (fun h0 => ?_) fun j n t w11 hj c11 s11 hR11 hent => ?_
  · refine rnp_extract (x := false) rfl ?_
    refine iteF (by simp) ?_
    refine rn_blk (x := some b23) one97 hW10.hb6 rfl rfl ?_
    refine ⟨hE10, b23, m, rfl, by omega, hD10.weaken (fun _ _ h => .inr h), fun n hn => ?_⟩
    obtain ⟨d, hs⟩ := Option.isSome_iff_exists.1 hn
    rcases hall n (hkeys n d hs) with h | h
    · rw [h0] at h; cases h
    · exact h
  · refine rnp_extract (x := true) rfl ?_
    refine iteT rfl ?_
    refine ⟨_, w11, hent, ?_⟩
    refine rnp_extract (x := n) rfl ?_
    have hW11 := hW10.chgR c11 (by omega) (by omega) (by omega) (by omega) (fun b hb he => by have := hb.2; omega)
    refine rn_blk (x := ofV b6 b3 b7) one154 hW11.hb7 rfl rfl ?_
    refine ⟨99, #[], #[Ptr ⟨b6, 0, none⟩, Ptr ⟨b3, 0, none⟩, Ptr ⟨b7, 0, none⟩], rfl, fun vs w => enters Try.func99 rfl rfl vs w, ?_⟩
    have hD11 : DoneI (fun b => b = r ∨ b < w.heap.size) l b23 w11 m := hD10.chg c11 (fun h => hr23 h.symm) (fun b _ h => .inl h) (fun b _ h => h)
    have hnm : (n, t) ∈ ms := hin _ (List.mem_of_getElem? hj)
    have hnt : mget ms n = some t := mget_of_mem hW11.hms.keys hnm
    obtain ⟨i, hi, hi', _, hs⟩ := hdet n t hnt
    have h8 := hf.deep n _ hs
    refine Cal.mono (of_shares hf.stand hf.few 8 w11 (fun b => b = r ∨ b < w.heap.size) m n h8 h8 hW11 hD11 (fun b hb => by have := hE10.size; have := c11.size; rcases hb with hb | hb <;> omega)) ?_
    rintro v w12 ⟨c12, _, m', hD12, hn', hg⟩
    have hR12 : Rg Value.string Sl.v w12 r b9 (left.eraseIdx j) := hR11.chg c12 hr23 (by have := hW11.ne.2.2.2; exact this)
    refine ⟨⟨left.eraseIdx j, m', (hE10.then c11 (fun b hb => by omega)).then c12 (fun b hb => by omega), by have := c12.size; omega, hR12, hW11.chg c12, hD12, fun x hx => hin x (List.mem_of_mem_eraseIdx hx), fun n2 hn2 => ?_⟩, ?_⟩
    · rcases hall n2 hn2 with h | h
      · obtain ⟨x, hx, rfl⟩ := List.mem_map.1 h
        obtain ⟨q, hq, rfl⟩ := List.mem_iff_getElem.1 hx
        obtain ⟨hjl, hje⟩ := List.getElem?_eq_some_iff.1 hj
        by_cases e : q = j
        · subst e; rw [hje]; exact .inr hn'
        · left
          refine List.mem_map.2 ⟨left[q], ?_, rfl⟩
          rw [List.mem_eraseIdx_iff_getElem]
          exact ⟨q, hq, e, rfl⟩
      · exact .inr (hg n2 h)
    · show rgLeft w12 r b9 < rgLeft w10 r b9
      rw [hR12.left, hR10.left, List.length_eraseIdx]
      have hjl := (List.getElem?_eq_some_iff.1 hj).1
      rw [if_pos hjl]; omega
end
end Go.Proofs.Ytdoeegfcmbcbkaa.Ct


namespace Go.Proofs.Ytdoeegfcmbcbkaa.Ct
open Go Go.Eng Tr
set_option linter.unusedVariables false
set_option maxRecDepth 100000

def sls (x : Sl) : List Value := [Sl.v x]
structure KnR (l : List DRes) (b9 : Nat) (w : World) (sn sq : Sl) (ns : List ByteArray) (qs : List Sl) : Prop where
  hb9 : Blk w b9 109 (TKnown15.cells ⟨sn, sq⟩)
  hns : Rd bs 1 (fun _ => True) w sn ns
  hqs : Rd sls 1 (fun _ => True) w sq qs
  len : ns.length = qs.length
  el : ∀ i (h : i < ns.length) (h' : i < qs.length), ∃ xs, Rd TShare.cells 2 (fun _ => True) w qs[i] xs ∧ ShD xs (shF l ns[i])
section
variable {w w' : World} {F : Nat → Prop} {s sn sq : Sl} {rs : List TResource} {l : List DRes} {b9 : Nat} {ns : List ByteArray} {qs : List Sl}
theorem KnR.ext (h : KnR l b9 w sn sq ns qs) (k : Ext w w') : KnR l b9 w' sn sq ns qs := ⟨h.hb9.ext k, h.hns.ext k, h.hqs.ext k, h.len, fun i a b => let ⟨xs, r, d⟩ := h.el i a b; ⟨xs, r.ext k, d⟩⟩
def atN (ns : List ByteArray) (n : ByteArray) (i : Nat) : Bool := match ns[i]? with
  | some x => decide (x = n)
  | none => false
end
end Go.Proofs.Ytdoeegfcmbcbkaa.Ct


namespace Go.Proofs.Ytdoeegfcmbcbkaa.Ct
open Go Go.Eng Tr
set_option linter.unusedVariables false
set_option maxRecDepth 100000

structure KnO (l : List DRes) (B b9 : Nat) (w : World) (sn sq : Sl) (ns : List ByteArray) (qs : List Sl) : Prop where
  hb9 : Blk w b9 109 (TKnown15.cells ⟨sn, sq⟩)
  low : B ≤ b9
  on : Own bs 1 9 B w sn ns
  oq : Own sls 1 23 B w sq qs
  n9 : ∀ b, own? sn b → b ≠ b9
  q9 : ∀ b, own? sq b → b ≠ b9
  nq : ∀ b, own? sn b → ¬ own? sq b
  len : ns.length = qs.length
  el : ∀ i (h : i < ns.length) (h' : i < qs.length), ∃ xs, Rd TShare.cells 2 (fun b => (b ≠ b9 ∧ ¬ own? sn b ∧ ¬ own? sq b) ∧ b < w.heap.size) w qs[i] xs ∧ ShD xs (shF l ns[i])
  nd : ns.Nodup
  sub : ∀ n ∈ ns, (splitOf l n).isSome = true
section
variable {w w' : World} {F : Nat → Prop} {s sn sq : Sl} {rs : List TResource} {l : List DRes} {B b9 : Nat} {ns : List ByteArray} {qs : List Sl}
theorem KnO.ext (h : KnO l B b9 w sn sq ns qs) (k : Ext w w') : KnO l B b9 w' sn sq ns qs :=
  ⟨h.hb9.ext k, h.low, h.on.ext k, h.oq.ext k, h.n9, h.q9, h.nq, h.len, fun i a b => let ⟨xs, r, d⟩ := h.el i a b; ⟨xs, (r.ext k).mono fun b hb => ⟨hb.1, by have := k.size; omega⟩, d⟩, h.nd, h.sub⟩
theorem KnO.r (h : KnO l B b9 w sn sq ns qs) : KnR l b9 w sn sq ns qs :=
  ⟨h.hb9, h.on.rd (fun _ _ => trivial), h.oq.rd (fun _ _ => trivial), h.len, fun i a b => let ⟨xs, r, d⟩ := h.el i a b; ⟨xs, r.mono fun _ _ => trivial, d⟩⟩
theorem KnO.few (h : KnO l B b9 w sn sq ns qs) : ns.length ≤ l.length := by
  have := sub_len (ys := l.map (·.name)) h.nd fun n hn => by
    obtain ⟨d, hs⟩ := Option.isSome_iff_exists.1 (h.sub n hn)
    obtain ⟨h1, _, h3⟩ := splitOf_mem hs
    exact List.mem_map.2 ⟨d, h1, h3⟩
  simpa using this
def unkS (ns : List ByteArray) (d : DRes) : Bool := decide (d.kind = 2) && !(ns.any fun x => decide (x = d.name))
end
end Go.Proofs.Ytdoeegfcmbcbkaa.Ct


namespace Go.Eng
open Go
set_option linter.unusedVariables false
set_option linter.unusedSectionVars false

def Rea {β : Type} (a b : Nat) (g g' : Nat → β) : Prop := ∃ σ τ : Nat → Nat, (∀ i, σ (τ i) = i) ∧ (∀ i, τ (σ i) = i) ∧ (∀ i, i < a ∨ b ≤ i → σ i = i) ∧ ∀ i, g' i = g (σ i)
section
variable {β : Type} {a b c d n : Nat} {g g' g'' : Nat → β}
theorem Rea.refl (a b : Nat) (g : Nat → β) : Rea a b g g := ⟨id, id, fun _ => rfl, fun _ => rfl, fun _ _ => rfl, fun _ => rfl⟩
theorem Rea.trans (h : Rea a b g g') (k : Rea a b g' g'') : Rea a b g g'' := by
  obtain ⟨σ, τ, h1, h2, h3, h4⟩ := h
  obtain ⟨σ', τ', k1, k2, k3, k4⟩ := k
  exact ⟨fun i => σ (σ' i), fun i => τ' (τ i), fun i => by simp [k1, h1], fun i => by simp [h2, k2], fun i hi => by simp [k3 i hi, h3 i hi], fun i => by rw [k4, h4]⟩
theorem Rea.mono (h : Rea a b g g') (ha : c ≤ a) (hb : b ≤ d) : Rea c d g g' := by
  obtain ⟨σ, τ, h1, h2, h3, h4⟩ := h
  exact ⟨σ, τ, h1, h2, fun i hi => h3 i (by omega), h4⟩
theorem Rea.out (h : Rea a b g g') {i : Nat} (hi : i < a ∨ b ≤ i) : g' i = g i := by
  obtain ⟨σ, τ, h1, h2, h3, h4⟩ := h
  rw [h4, h3 i hi]
theorem Rea.src (h : Rea a b g g') {i : Nat} (h1 : a ≤ i) (h2 : i < b) : ∃ j, a ≤ j ∧ j < b ∧ g' i = g j := by
  obtain ⟨σ, τ, k1, k2, k3, k4⟩ := h
  refine ⟨σ i, ?_, ?_, k4 i⟩ <;>
  · refine Classical.byContradiction fun hc => ?_
    have h5 := k3 (σ i) (by omega)
    have h6 := congrArg τ h5
    rw [k2, k2] at h6
    omega
theorem Rea.dst (h : Rea a b g g') {i : Nat} (h1 : a ≤ i) (h2 : i < b) : ∃ j, a ≤ j ∧ j < b ∧ g' j = g i := by
  obtain ⟨σ, τ, k1, k2, k3, k4⟩ := h
  refine ⟨τ i, ?_, ?_, by rw [k4, k1]⟩ <;>
  · refine Classical.byContradiction fun hc => ?_
    have h5 := k3 (τ i) (by omega)
    rw [k1] at h5
    omega
theorem Rea.all {p : β → Prop} (h : Rea a b g g') (hp : ∀ i, a ≤ i → i < b → p (g i)) : ∀ i, a ≤ i → i < b → p (g' i) := fun i h1 h2 => by
  obtain ⟨j, j1, j2, e⟩ := h.src h1 h2
  rw [e]; exact hp j j1 j2
theorem Rea.allN {p : β → Prop} (h : Rea a b g g') (hb : b ≤ n) (hp : ∀ i, i < n → p (g i)) : ∀ i, i < n → p (g' i) := fun i h2 => by
  by_cases c : a ≤ i ∧ i < b
  · exact h.all (fun i _ h => hp i (by omega)) i c.1 c.2
  · rw [h.out (by omega)]; exact hp i h2
def swp (g : Nat → β) (i j : Nat) : Nat → β := fun k => if k = i then g j else if k = j then g i else g k
theorem Rea.swp {i j : Nat} (hi : a ≤ i ∧ i < b) (hj : a ≤ j ∧ j < b) : Rea a b g (swp g i j) := by
  refine ⟨fun k => if k = i then j else if k = j then i else k, fun k => if k = i then j else if k = j then i else k, fun k => ?_, fun k => ?_, fun k hk => ?_, fun k => ?_⟩
  · dsimp only; split <;> (try split) <;> (try split) <;> omega
  · dsimp only; split <;> (try split) <;> (try split) <;> omega
  · dsimp only; split <;> (try split) <;> omega
  · unfold Eng.swp; dsimp only; split <;> (try split) <;> rfl
def Srt (T : β → β → Prop) (a b : Nat) (g : Nat → β) : Prop := ∀ i j, a ≤ i → i < j → j < b → T (g i) (g j)
theorem Srt.mono {T : β → β → Prop} (h : Srt T a b g) (ha : a ≤ c) (hb : d ≤ b) : Srt T c d g := fun i j h1 h2 h3 => h i j (by omega) h2 (by omega)
theorem Srt.eq {T : β → β → Prop} (h : Srt T a b g) (he : ∀ i, a ≤ i → i < b → g' i = g i) : Srt T a b g' := fun i j h1 h2 h3 => by rw [he i h1 (by omega), he j (by omega) h3]; exact h i j h1 h2 h3
end
theorem sorted_uniq {β : Type} {T : β → β → Prop} (hi : ∀ x, ¬ T x x) (ht : ∀ x y z, T x y → T y z → T x z) : ∀ {l l' : List β}, l.Pairwise T → l'.Pairwise T → (∀ x, x ∈ l ↔ x ∈ l') → l = l'
  | [], [], _, _, _ => rfl
  | [], y :: l', _, _, h => by have := (h y).2 (by simp); cases this
  | x :: l, [], _, _, h => by have := (h x).1 (by simp); cases this
  | x :: l, y :: l', h1, h2, h => by
    rw [List.pairwise_cons] at h1 h2
    have e : x = y := by
      refine Classical.byContradiction fun hne => ?_
      have hx : x ∈ l' := by
        rcases List.mem_cons.1 ((h x).1 (by simp)) with e | e
        · exact absurd e hne
        · exact e
      have hy : y ∈ l := by
        rcases List.mem_cons.1 ((h y).2 (by simp)) with e | e
        · exact absurd e.symm hne
        · exact e
      exact hi x (ht _ _ _ (h1.1 y hy) (h2.1 x hx))
    subst e
    congr 1
    refine sorted_uniq hi ht h1.2 h2.2 fun z => ?_
    constructor
    · intro hz
      rcases List.mem_cons.1 ((h z).1 (by simp [hz])) with e | e
      · subst e; exact absurd (h1.1 z hz) (hi z)
      · exact e
    · intro hz
      rcases List.mem_cons.1 ((h z).2 (by simp [hz])) with e | e
      · subst e; exact absurd (h2.1 z hz) (hi z)
      · exact e

structure WO {α : Type} (lt : α → α → Bool) : Prop where
  irr : ∀ x, lt x x = false
  tr : ∀ x y z, lt x y = true → lt y z = true → lt x z = true
  ntr : ∀ x y z, lt x y = false → lt y z = false → lt x z = false
section
variable {α : Type} {lt : α → α → Bool}
def Tg (lt : α → α → Bool) (x y : α × Nat) : Prop := lt x.1 y.1 = true ∨ (lt y.1 x.1 = false ∧ x.2 < y.2)
theorem WO.asym (h : WO lt) {x y : α} (k : lt x y = true) : lt y x = false := by
  cases c : lt y x with
  | false => rfl
  | true => have := h.tr _ _ _ k c; rw [h.irr] at this; cases this
theorem Tg.irr (h : WO lt) (x : α × Nat) : ¬ Tg lt x x := by
  rintro (h1 | ⟨_, h1⟩)
  · rw [h.irr] at h1; cases h1
  · omega
theorem Tg.tr (h : WO lt) {x y z : α × Nat} (h1 : Tg lt x y) (h2 : Tg lt y z) : Tg lt x z := by
  rcases h1 with h1 | ⟨h1, k1⟩ <;> rcases h2 with h2 | ⟨h2, k2⟩
  · exact .inl (h.tr _ _ _ h1 h2)
  · cases c : lt x.1 z.1 with
    | true => exact .inl c
    | false => have := h.ntr _ _ _ c h2; rw [h1] at this; cases this
  · cases c : lt x.1 z.1 with
    | true => exact .inl c
    | false => have := h.ntr _ _ _ h1 c; rw [h2] at this; cases this
  · exact .inr ⟨h.ntr _ _ _ h2 h1, by omega⟩
theorem Tg.tot {x y : α × Nat} (hne : x.2 ≠ y.2) : Tg lt x y ∨ Tg lt y x := by
  cases c : lt x.1 y.1 with
  | true => exact .inl (.inl c)
  | false =>
    cases c' : lt y.1 x.1 with
    | true => exact .inr (.inl c')
    | false =>
      by_cases e : x.2 < y.2
      · exact .inl (.inr ⟨c', e⟩)
      · exact .inr (.inr ⟨c, by omega⟩)
theorem Tg.late {x y : α × Nat} (h : WO lt) (ht : y.2 < x.2) : (lt x.1 y.1 = true → Tg lt x y) ∧ (lt x.1 y.1 = false → Tg lt y x) :=
  ⟨fun c => .inl c, fun c => .inr ⟨c, ht⟩⟩
def ins (lt : α → α → Bool) (x : α) : List α → List α
  | [] => [x]
  | y :: l => if lt x y = true then x :: y :: l else y :: ins lt x l
def stb (lt : α → α → Bool) (ys : List α) : List α := ys.foldl (fun out x => ins lt x out) []
theorem stb_snoc (ys : List α) (x : α) : stb lt (ys ++ [x]) = ins lt x (stb lt ys) := by unfold stb; rw [List.foldl_append]; rfl
end
def tag {α : Type} (ys : List α) : List (α × Nat) := ys.zipIdx
def ltp {α : Type} (lt : α → α → Bool) (x y : α × Nat) : Bool := lt x.1 y.1
section
variable {α : Type} {lt : α → α → Bool}
theorem ins_map (x : α × Nat) : ∀ l : List (α × Nat), (ins (ltp lt) x l).map (·.1) = ins lt x.1 (l.map (·.1))
  | [] => rfl
  | y :: l => by
    unfold ins ltp
    simp only [List.map_cons]
    by_cases c : lt x.1 y.1 = true
    · rw [if_pos c, if_pos c]; rfl
    · rw [if_neg c, if_neg c, List.map_cons]
      congr 1
      exact ins_map x l
theorem mem_ins {lt : α → α → Bool} {x z : α} : ∀ {l : List α}, z ∈ ins lt x l ↔ z = x ∨ z ∈ l
  | [] => by simp [ins]
  | y :: l => by
    unfold ins
    split
    · simp
    · rw [List.mem_cons, mem_ins, List.mem_cons]
      constructor
      · rintro (h | h | h)
        · exact .inr (.inl h)
        · exact .inl h
        · exact .inr (.inr h)
      · rintro (h | h | h)
        · exact .inr (.inl h)
        · exact .inl h
        · exact .inr (.inr h)
theorem ins_sorted (h : WO lt) {x : α × Nat} : ∀ {l : List (α × Nat)}, (∀ y ∈ l, y.2 < x.2) → l.Pairwise (Tg lt) → (ins (ltp lt) x l).Pairwise (Tg lt)
  | [], _, _ => by simp [ins]
  | y :: l, hx, hp => by
    unfold ins
    rw [List.pairwise_cons] at hp
    have hy := hx y (by simp)
    by_cases c : ltp lt x y = true
    · rw [if_pos c, List.pairwise_cons]
      refine ⟨fun z hz => ?_, List.pairwise_cons.2 hp⟩
      rcases List.mem_cons.1 hz with rfl | hz
      · exact .inl c
      · exact Tg.tr h (.inl c) (hp.1 z hz)
    · rw [if_neg c, List.pairwise_cons]
      refine ⟨fun z hz => ?_, ins_sorted h (fun z hz => hx z (by simp [hz])) hp.2⟩
      rcases mem_ins.1 hz with rfl | hz
      · exact (Tg.late h hy).2 (show ltp lt z y = false by simpa using c)
      · exact hp.1 z hz
theorem stb_tag (h : WO lt) (ys : List α) : (stb (ltp lt) (tag ys)).map (·.1) = stb lt ys ∧ (stb (ltp lt) (tag ys)).Pairwise (Tg lt) ∧ ∀ x, x ∈ stb (ltp lt) (tag ys) ↔ x ∈ tag ys := by
  have key : ∀ n, n ≤ ys.length → (stb (ltp lt) ((tag ys).take n)).map (·.1) = stb lt (ys.take n) ∧ (stb (ltp lt) ((tag ys).take n)).Pairwise (Tg lt) ∧ ∀ x, x ∈ stb (ltp lt) ((tag ys).take n) ↔ x ∈ (tag ys).take n := by
    intro n
    induction n with
    | zero => intro _; exact ⟨rfl, List.Pairwise.nil, fun x => by simp [stb]⟩
    | succ n ih =>
      intro hn
      obtain ⟨h1, h2, h3⟩ := ih (by omega)
      have hl : n < (tag ys).length := by simp [tag]; omega
      have e1 : (tag ys).take (n + 1) = (tag ys).take n ++ [(tag ys)[n]] := by rw [List.take_add_one, List.getElem?_eq_getElem hl]; rfl
      have e2 : ys.take (n + 1) = ys.take n ++ [ys[n]] := by rw [List.take_add_one, List.getElem?_eq_getElem (by omega)]; rfl
      have e3 : (tag ys)[n] = (ys[n], n) := by simp [tag]
      rw [e1, e2, stb_snoc, stb_snoc, e3]
      refine ⟨by rw [ins_map, h1], ins_sorted h (fun y hy => ?_) h2, fun x => ?_⟩
      · obtain ⟨i, hi, rfl⟩ := List.mem_iff_getElem.1 ((h3 y).1 hy)
        have : ((tag ys).take n)[i].2 = i := by simp [tag]
        rw [this]; simp at hi; omega
      · rw [mem_ins, h3, List.mem_append, List.mem_singleton]
        exact ⟨fun h => h.elim .inr .inl, fun h => h.elim .inr .inl⟩
  have := key ys.length (Nat.le_refl _)
  have e : (tag ys).take ys.length = tag ys := List.take_of_length_le (by simp [tag])
  rw [e, List.take_length] at this
  exact this
def tab {β : Type} (n : Nat) (g : Nat → β × Nat) : List β := (List.range n).map fun i => (g i).1
theorem tab_get {β : Type} {n : Nat} {g : Nat → β × Nat} {k : Nat} (h : k < (tab n g).length) : (tab n g)[k] = (g k).1 := by simp [tab]
theorem tab_set {β : Type} {n : Nat} {g : Nat → β × Nat} {k : Nat} {x : β × Nat} : (tab n g).set k x.1 = tab n fun i => if i = k then x else g i := by
  apply List.ext_getElem (by simp [tab])
  intro i h1 h2
  rw [List.getElem_set]
  simp only [tab, List.getElem_map, List.getElem_range]
  by_cases e : k = i
  · subst e; simp
  · rw [if_neg e, if_neg (fun h => e h.symm)]
def rowOf {β : Type} (ys : List β) (z : β) : Nat → β × Nat := fun i => (ys.getD i z, i)
theorem tab_rowOf {β : Type} (ys : List β) (z : β) : tab ys.length (rowOf ys z) = ys := by
  apply List.ext_getElem (by simp [tab])
  intro i h1 h2
  simp [tab, rowOf, List.getElem?_eq_getElem h2]
theorem stb_of (h : WO lt) {ys : List α} {z : α} {g : Nat → α × Nat} (hr : Rea 0 ys.length (rowOf ys z) g) (hs : Srt (Tg lt) 0 ys.length g) : tab ys.length g = stb lt ys := by
  obtain ⟨h1, h2, h3⟩ := stb_tag h ys
  rw [← h1]
  have e : tab ys.length g = ((List.range ys.length).map g).map (·.1) := by simp [tab]
  rw [e]
  congr 1
  refine sorted_uniq (Tg.irr h) (fun _ _ _ => Tg.tr h) ?_ h2 fun x => ?_
  · rw [List.pairwise_iff_getElem]
    intro i j hi hj hij
    simp only [List.getElem_map, List.getElem_range]
    exact hs i j (Nat.zero_le _) hij (by simpa using hj)
  · rw [h3]
    constructor
    · intro hx
      obtain ⟨i, hi, rfl⟩ := List.mem_map.1 hx
      obtain ⟨j, _, hj, e⟩ := hr.src (Nat.zero_le i) (List.mem_range.1 hi)
      rw [e]
      rw [tag, List.mem_zipIdx_iff_getElem?]
      simp [rowOf, List.getElem?_eq_getElem hj]
    · intro hx
      rw [tag, List.mem_zipIdx_iff_getElem?] at hx
      obtain ⟨hlt, e⟩ := List.getElem?_eq_some_iff.1 hx
      obtain ⟨j, _, hj, e2⟩ := hr.dst (Nat.zero_le x.2) hlt
      refine List.mem_map.2 ⟨j, List.mem_range.2 hj, ?_⟩
      rw [e2]
      have : ys.getD x.2 z = x.1 := by simp [List.getElem?_eq_getElem hlt, e]
      simp only [rowOf, this]
end

def Mul (k c : Nat) : Prop := ∃ q, c = q * k
theorem Mul.gap {k a c : Nat} (ha : Mul k a) (hc : Mul k c) (h : a < c) : a + k ≤ c := by
  obtain ⟨p, rfl⟩ := ha
  obtain ⟨q, rfl⟩ := hc
  have h1 : p < q := Nat.lt_of_mul_lt_mul_right h
  have h2 : (p + 1) * k ≤ q * k := Nat.mul_le_mul_right _ h1
  rw [Nat.add_mul] at h2; omega
theorem Mul.add {k a : Nat} (ha : Mul k a) : Mul k (a + k) := by obtain ⟨p, rfl⟩ := ha; exact ⟨p + 1, by rw [Nat.add_mul, Nat.one_mul]⟩
theorem Mul.two {k a : Nat} (ha : Mul (2 * k) a) : Mul k a := by obtain ⟨p, rfl⟩ := ha; exact ⟨p * 2, by rw [Nat.mul_assoc]⟩
theorem Mul.zero (k : Nat) : Mul k 0 := ⟨0, by simp⟩
def Bdry {β : Type} (n c : Nat) (g : Nat → β × Nat) : Prop := ∀ x y, x < c → c ≤ y → y < n → (g x).2 < (g y).2
theorem Bdry.rea {β : Type} {n c p q : Nat} {g g' : Nat → β × Nat} (h : Bdry n c g) (hr : Rea p q g g') (hq : q ≤ n) (hc : c ≤ p ∨ q ≤ c) : Bdry n c g' := fun x y h1 h2 h3 => by
  have hx : ∃ x', x' < c ∧ g' x = g x' := by
    by_cases cx : p ≤ x ∧ x < q
    · obtain ⟨x', k1, k2, e⟩ := hr.src cx.1 cx.2
      exact ⟨x', by omega, e⟩
    · exact ⟨x, h1, hr.out (by omega)⟩
  have hy : ∃ y', c ≤ y' ∧ y' < n ∧ g' y = g y' := by
    by_cases cy : p ≤ y ∧ y < q
    · obtain ⟨y', k1, k2, e⟩ := hr.src cy.1 cy.2
      exact ⟨y', by omega, by omega, e⟩
    · exact ⟨y, h2, h3, hr.out (by omega)⟩
  obtain ⟨x', k1, e1⟩ := hx
  obtain ⟨y', k2, k3, e2⟩ := hy
  rw [e1, e2]; exact h x' y' k1 k2 k3
theorem Srt.rea {β : Type} {c d p q : Nat} {T : β × Nat → β × Nat → Prop} {g g' : Nat → β × Nat} (h : Srt T c d g) (hr : Rea p q g g') (hc : d ≤ p ∨ q ≤ c) : Srt T c d g' := h.eq fun i h1 h2 => hr.out (by omega)
section
variable {P : Program} {α : Type} {cells : α → List Value} {sz T B t e n : Nat} {w : World} {s : Sl} {g : Nat → α × Nat}
theorem wrapI {x : Int} (h1 : -9223372036854775808 ≤ x) (h2 : x ≤ 9223372036854775807) : IntKind.i64.wrap x = x := wrap_in ⟨h1, h2⟩
theorem wrapU {x : Int} (h1 : 0 ≤ x) (h2 : x ≤ 9223372036854775807) : IntKind.u64.wrap x = x := by
  show x % 18446744073709551616 = x
  exact Int.emod_eq_of_lt h1 (by omega)
theorem rnp_half {ty : TypeId} {x : Int} {K : Int → Prop} (h : K (x / 2)) : RnP P (Value.int .u64) (binOp .shr ty (.int .u64 x) (.int .u64 1)) K := by
  refine RnP.of (x := x / 2) (fun w => ?_) h
  have : binOp .shr ty (.int .u64 x) (.int .u64 1) = Op.shift .shr .u64 x .u64 1 := rfl
  rw [this, shift_shr_any _ _ _ _ (by decide)]
  rfl
theorem rnp_row {i : Int} {k : Nat} {K : Addr → Prop} (ht : SlT P t e sz) (hO : Own cells sz T B w s (tab n g)) (hk : k < n) (hi : i = k) (h : ∀ p, At w p (cells (g k).1) → K p) : RnP P Ptr (Instr.indexAt t (Sl.v s) (.int .i64 i)) K :=
  rnp_idx ht (hO.rd (F := fun _ => True) (fun _ _ => trivial)) (k := k) (by simpa [tab] using hk) hi fun p _ hp => h p (by rw [tab_get] at hp; exact hp)
theorem rnp_lay {tf : TypeId} {i : Int} {k : Nat} {x : α × Nat} {v : Value} {K : World → Prop} (ht : SlT P t e sz) (hO : Own cells sz T B w s (tab n g)) (hk : k < n) (hi : i = k) (hs : (P.info? tf).map (·.size) = some sz)
    (hv : v.cells = (cells x.1).toArray) (hc : (cells x.1).length = sz) (h1 : ∀ u ∈ cells x.1, u.oneCell' = true)
    (hK : ∀ w', Chg (own? s) w w' → Own cells sz T B w' s (tab n fun j => if j = k then x else g j) → w'.heap.size = w.heap.size → K w') :
    RnP P Ptr (Instr.indexAt t (Sl.v s) (.int .i64 i)) fun p => RnU P (Instr.storeAt tf (Ptr p) v) w K := by
  have hl : k < (tab n g).length := by simpa [tab] using hk
  have := own_setN (P := P) (f := 0) (vs := cells x.1) (x' := x.1) (v := v) (tf := tf) (K := K) ht hO hl hi (by omega) (by rw [hc]; exact hs) hv h1
    (by unfold over; simp only [List.take_zero, List.nil_append, Nat.zero_add]; rw [List.drop_eq_nil_of_le (by rw [hc, hO.sz_ _ (List.getElem_mem hl)]; omega)]; simp)
    fun w' c O h => hK w' c (by rw [tab_set] at O; exact O) h
  exact this
end
end Go.Eng


namespace Go.Eng
open Go
set_option linter.unusedVariables false
set_option linter.unusedSectionVars false

def u8c (c : UInt8) : List Value := [.int .u8 ((c.toNat : Nat) : Int)]
def Byt (w : World) (b T : Nat) (l : List UInt8) : Prop := ∃ cs : List Value, w.heap[b]? = some (.cells cs.toArray T (cs.length, cs.length + 1)) ∧ l.length ≤ cs.length ∧ cs.take l.length = l.flatMap u8c
section
variable {P : Program} {w w' : World} {S : Nat → Prop} {b T : Nat} {l : List UInt8}
theorem Byt.lt (h : Byt w b T l) : b < w.heap.size := by obtain ⟨cs, h1, _⟩ := h; exact (Array.getElem?_eq_some_iff.1 h1).1
theorem Byt.chg (h : Byt w b T l) (k : Chg S w w') (hs : ¬ S b) : Byt w' b T l := by
  have hl := h.lt
  obtain ⟨cs, h1, h2, h3⟩ := h; exact ⟨cs, (k.block b hl hs).trans h1, h2, h3⟩
theorem Byt.ext (h : Byt w b T l) (k : Ext w w') : Byt w' b T l := h.chg (k.chg (fun _ => False)) (fun h => h)
theorem u8_flat (l : List UInt8) : l.flatMap u8c = l.map fun c => Value.int .u8 ((c.toNat : Nat) : Int) := by
  induction l with
  | nil => rfl
  | cons c l ih => rw [List.flatMap_cons, ih]; rfl
theorem Byt.cell (h : Byt w b T l) {i : Nat} (hi : i < l.length) : w.cell? ⟨b, i, none⟩ = some (.int .u8 ((l[i].toNat : Nat) : Int)) := by
  obtain ⟨cs, h1, h2, h3⟩ := h
  have h4 : (cs.take l.length)[i]? = some (.int .u8 ((l[i].toNat : Nat) : Int)) := by
    rw [h3, u8_flat, List.getElem?_map, List.getElem?_eq_getElem hi]; rfl
  rw [List.getElem?_take, if_pos hi] at h4
  simp [World.cell?, h1, h4]
theorem rn_bytes {src dst : TypeId} {x : ByteArray} {K : Sl → World → Prop} (hs : P.underlying src = some .string) (hd : P.underlying dst = some (.slice T)) (he : P.underlying T = some (.int .u8))
    (hk : ∀ b c w', Ext w w' → b = w.heap.size → Byt w' b T x.data.toList → K ⟨some ⟨b, 0, none⟩, x.size, c⟩ w') : Rn P Sl.v (convert src dst (.string x)) w K := by
  have hr := run_bytes_of_string (P := P) w src dst T x hs hd he
  generalize hC : grownCap w x.size 0 T = C at hr
  refine ⟨⟨some ⟨w.heap.size, 0, none⟩, x.size, C⟩, _, hr, hk _ _ _ ?_ rfl ?_⟩
  · exact (Ext.drew w).trans (Ext.alloc _ _)
  · refine ⟨(bytesRow x C).toList, ?_, ?_, ?_⟩
    · have := heap_alloc_new w.drew (.cells (bytesRow x C) T ((bytesRow x C).size, (bytesRow x C).size + 1))
      rw [Array.toArray_toList, Array.length_toList]
      exact this
    · simp [bytesRow]
    · have e : (bytesRow x C).toList = (x.data.toList.map fun c => Value.int .u8 ((c.toNat : Nat) : Int)) ++ List.replicate (C - x.size) (.int .u8 0) := by simp [bytesRow]
      rw [e, u8_flat, List.take_append_of_le_length (by simp)]
      exact List.take_of_length_le (by simp)
theorem rnu_byte {t : TypeId} {i : Nat} {c : UInt8} {K : World → Prop} (hs : (P.info? t).map (·.size) = some 1) (h : Byt w b T l) (hi : i < l.length)
    (hK : ∀ w', Chg (fun x => x = b) w w' → Byt w' b T (l.set i c) → w'.heap.size = w.heap.size → K w') : RnU P (Instr.storeAt t (Ptr ⟨b, i, none⟩) (.int .u8 ((c.toNat : Nat) : Int))) w K := by
  have hcell := h.cell hi
  obtain ⟨cs, h1, h2, h3⟩ := h
  have hfro : w.frozen? ⟨b, i, none⟩ = false := by simp [World.frozen?, h1]; omega
  have h4 : (sizeOf t).run P w = .ok 1 w := size_run hs w
  have h5 : (store (⟨b, i, none⟩ : Addr) (.int .u8 ((c.toNat : Nat) : Int))).run P w = .ok () (w.setCell ⟨b, i, none⟩ (.int .u8 ((c.toNat : Nat) : Int))) := by
    rw [run_store P w _ _ _ rfl, hcell]
    simp [hfro]
  refine ⟨w.setRow b (cs.set i (.int .u8 ((c.toNat : Nat) : Int))).toArray, ?_, hK _ ⟨rfl, rfl, rfl, ?_, ?_⟩ ⟨cs.set i (.int .u8 ((c.toNat : Nat) : Int)), ?_, ?_, ?_⟩ ?_⟩
  · simp only [Instr.storeAt, Instr.sureAddr, Ptr, storeVar, Sem.run_bind, Sem.run_pure, Result.andThen_ok, h4]
    rw [if_neg (by simp [Value.cells])]
    have e : (Value.cells (.int .u8 ((c.toNat : Nat) : Int))).toList = [.int .u8 ((c.toNat : Nat) : Int)] := rfl
    rw [e]
    simp only [storeCells, Sem.run_bind]
    have e2 : (⟨b, i, none⟩ : Addr).add 0 = ⟨b, i, none⟩ := rfl
    rw [e2, h5, Result.andThen_ok, Sem.run_pure]
    congr 1
    unfold World.setCell World.setRow
    congr 1
    have hlt : b < w.heap.size := (Array.getElem?_eq_some_iff.1 h1).1
    apply Array.ext
    · simp
    · intro k k1 k2
      simp only [Array.getElem_modify]
      by_cases e : b = k
      · subst e
        have : w.heap[b] = .cells cs.toArray T (cs.length, cs.length + 1) := (Array.getElem?_eq_some_iff.1 h1).2
        simp [this]
      · simp [e]
  · exact Nat.le_of_eq (by simp [World.setRow])
  · intro k _ hk
    exact setRow_other w b k _ (fun e => hk e)
  · have := setRow_heap w b cs.toArray (cs.set i (.int .u8 ((c.toNat : Nat) : Int))).toArray T (cs.length, cs.length + 1) h1
    rw [List.length_set]; exact this
  · simpa using h2
  · rw [List.length_set, List.take_set, h3, u8_flat, u8_flat, List.map_set]
  · simp [World.setRow]
theorem rn_text {src dst : TypeId} {a : Addr} {n c : Nat} {K : ByteArray → World → Prop} (hs : P.underlying src = some (.slice T)) (he : P.underlying T = some (.int .u8)) (hd : P.underlying dst = some .string) (hn : n = l.length)
    (hc : ∀ j (hj : j < l.length), w.cell? (a.add j) = some (.int .u8 ((l[j].toNat : Nat) : Int))) (hk : K ⟨l.toArray⟩ w) : Rn P Value.string (convert src dst (Sl.v ⟨some a, n, c⟩)) w K := by
  subst hn
  exact ⟨_, w, run_convert_bytes_back w src dst T a c l hs he hd hc, hk⟩
end
end Go.Eng


namespace Go.Proofs.Ytdoeegfcmbcbkaa.Ct
open Go Go.Eng Tr
set_option linter.unusedVariables false
set_option maxRecDepth 100000

def lowB (c : UInt8) : UInt8 := if 65 ≤ c ∧ c ≤ 90 then c + 32 else c
def okB (c : UInt8) : Bool := (decide (97 ≤ c) && decide (c ≤ 122)) || ((decide (48 ≤ c) && decide (c ≤ 57)) || (decide (c = 45) || decide (c = 46)))
def foldB (x : ByteArray) : Option ByteArray := if 1 ≤ x.size ∧ x.size ≤ 64 ∧ (x.data.toList.all fun c => okB (lowB c)) = true then some ⟨(x.data.toList.map lowB).toArray⟩ else none
def foldR (x : ByteArray) : ByteArray × Bool := match foldB x with
  | some h => (h, true)
  | none => (⟨#[]⟩, false)
theorem u8_le {a b : UInt8} : a ≤ b ↔ (a.toNat : Int) ≤ b.toNat := by rw [UInt8.le_iff_toNat_le]; omega
theorem u8_eq {a b : UInt8} : a = b ↔ (a.toNat : Int) = b.toNat := by
  constructor
  · rintro rfl; rfl
  · intro h; exact UInt8.toNat_inj.1 (by omega)
theorem lowB_yes {c : UInt8} (h : 65 ≤ c ∧ c ≤ 90) : ((lowB c).toNat : Int) = c.toNat + 32 ∧ okB (lowB c) = true := by
  have h1 : (c.toNat : Int) ≤ 90 := u8_le.1 h.2
  have h0 : (65 : Int) ≤ c.toNat := u8_le.1 h.1
  have e : ((lowB c).toNat : Int) = c.toNat + 32 := by
    unfold lowB; rw [if_pos h, UInt8.toNat_add]
    have : (32 : UInt8).toNat = 32 := rfl
    rw [this]; omega
  refine ⟨e, ?_⟩
  have h2 : (97 : UInt8) ≤ lowB c := u8_le.2 (by rw [e]; show (97 : Int) ≤ _; omega)
  have h3 : lowB c ≤ 122 := u8_le.2 (by rw [e]; show _ ≤ (122 : Int); omega)
  simp [okB, h2, h3]
theorem lowB_no {c : UInt8} (h : ¬ (65 ≤ c ∧ c ≤ 90)) : lowB c = c := by unfold lowB; rw [if_neg h]
theorem okB_iff {c : UInt8} : okB c = true ↔ (97 ≤ (c.toNat : Int) ∧ (c.toNat : Int) ≤ 122) ∨ (48 ≤ (c.toNat : Int) ∧ (c.toNat : Int) ≤ 57) ∨ (c.toNat : Int) = 45 ∨ (c.toNat : Int) = 46 := by
  simp only [okB, Bool.or_eq_true, Bool.and_eq_true, decide_eq_true_eq, u8_le, u8_eq]
  exact Iff.rfl
def okTo (x : ByteArray) (k : Nat) : Prop := ∀ j, (h : j < x.data.toList.length) → j < k → okB (lowB x.data.toList[j]) = true
theorem okTo_succ {x : ByteArray} {k : Nat} (hk : k < x.data.toList.length) (h : okTo x k) (h' : okB (lowB x.data.toList[k]) = true) : okTo x (k + 1) := fun j hj hjk => by
  by_cases c : j = k
  · subst c; exact h'
  · exact h j hj (by omega)
theorem foldR_yes {x : ByteArray} (h1 : 1 ≤ x.size ∧ x.size ≤ 64) (h : okTo x x.size) : foldR x = (⟨(x.data.toList.map lowB).toArray⟩, true) := by
  have hl : x.data.toList.length = x.size := by rw [Array.length_toList]; rfl
  have : (x.data.toList.all fun c => okB (lowB c)) = true := List.all_eq_true.2 fun c hc => by
    obtain ⟨j, hj, rfl⟩ := List.mem_iff_getElem.1 hc
    exact h j hj (by omega)
  unfold foldR foldB; rw [if_pos ⟨h1.1, h1.2, this⟩]
theorem foldR_size {x : ByteArray} (h : ¬ (1 ≤ x.size ∧ x.size ≤ 64)) : foldR x = (⟨#[]⟩, false) := by
  unfold foldR foldB; rw [if_neg (fun h' => h ⟨h'.1, h'.2.1⟩)]
theorem foldR_bad {x : ByteArray} {k : Nat} (hk : k < x.data.toList.length) (h : okB (lowB x.data.toList[k]) = false) : foldR x = (⟨#[]⟩, false) := by
  unfold foldR foldB; rw [if_neg (fun h' => by
    have := List.all_eq_true.1 h'.2.2 _ (List.getElem_mem hk)
    rw [h] at this; cases this)]
section
variable {w : World}
def pairSB (x : ByteArray × Bool) : Value := Value.tuple #[.string x.1, .bool x.2]
theorem fold_ok (x : ByteArray) : Ans pairSB 117 #[.string x] w (foldR x) := by
  refine c117 ?_
  unfold f117
  have hl : x.data.toList.length = x.size := by rw [Array.length_toList]; rfl
  refine ⟨fun b w' => w' = w ∧ b = !decide (1 ≤ x.size ∧ x.size ≤ 64), ?_, ?_⟩
  · by_cases c : (x.size : Int) < 1
    · have h0 : ¬ (1 ≤ x.size ∧ x.size ≤ 64) := by omega
      exact iteT c ⟨rfl, by simp only [h0, decide_false, Bool.not_false]⟩
    · refine iteF c ⟨rfl, ?_⟩
      by_cases c' : x.size ≤ 64
      · have h1 : ¬ 64 < (x.size : Int) := by omega
        have h2 : 1 ≤ x.size := by omega
        simp [h1, h2, c']
      · have h1 : 64 < (x.size : Int) := by omega
        simp [h1, c']
  rintro _ w0 ⟨hw0, rfl⟩
  obtain rfl : w = w0 := hw0.symm
  by_cases c : 1 ≤ x.size ∧ x.size ≤ 64
  · refine iteF (by simp [c]) ?_
    refine rn_bytes Try.underlying9 Try.underlying187 Try.underlying5 fun b cp w1 e1 hb hB => ?_
    refine Lp.mk (fun (i : Int) w' => ∃ k : Nat, i = k ∧ k ≤ x.size ∧ Ext w w' ∧ Byt w' b 5 ((x.data.toList.take k).map lowB ++ x.data.toList.drop k) ∧ okTo x k) (fun i => x.size - i.toNat)
      ⟨0, rfl, Nat.zero_le _, e1, by simpa using hB, fun j _ h => absurd h (Nat.not_lt_zero _)⟩ ?_
    rintro i w2 K ⟨k, rfl, hk, hE, hB2, hok⟩ hK
    dsimp only at *
    by_cases hlt : k < x.size
    · refine iteT (by omega) ?_
      have hkl : k < x.data.toList.length := by omega
      have hcell : w2.cell? ((⟨b, 0, none⟩ : Addr).add k) = some (.int .u8 ((x.data.toList[k].toNat : Nat) : Int)) := by
        rw [blk_add, Nat.zero_add, hB2.cell (by simp; omega)]
        congr 3
        rw [List.getElem_append_right (by simp; omega)]
        simp only [List.length_map, List.length_take, List.getElem_drop]
        congr 2; omega
      have hset : ((x.data.toList.take k).map lowB ++ x.data.toList.drop k).set k (lowB x.data.toList[k]) = (x.data.toList.take (k + 1)).map lowB ++ x.data.toList.drop (k + 1) := by
        rw [List.take_add_one, List.getElem?_eq_getElem hkl, List.map_append, List.append_assoc]
        rw [List.set_append_right _ _ (by simp; omega)]
        congr 1
        simp only [List.length_map, List.length_take]
        rw [show k - min k x.data.toList.length = 0 by omega, List.drop_eq_getElem_cons hkl]; rfl
      have eq1 : ∀ {K : Addr → Prop}, K ((⟨b, 0, none⟩ : Addr).add k) → RnP PP Ptr (Instr.indexAt 187 (Sl.v ⟨some ⟨b, 0, none⟩, x.size, cp⟩) (.int .i64 (k : Int))) K := fun hKK =>
        ⟨_, fun w => by
          have := idx_run (P := PP) (s := ⟨some ⟨b, 0, none⟩, x.size, cp⟩) sl187 rfl hlt w
          rw [Nat.mul_one] at this; exact this, hKK⟩
      generalize hcc : x.data.toList[k] = ch at hcell hset
      refine ⟨fun _ w' => Ext w w' ∧ Byt w' b 5 ((x.data.toList.take (k + 1)).map lowB ++ x.data.toList.drop (k + 1)) ∧ okTo x (k + 1), ?_, ?_⟩
      · refine eq1 ?_
        refine rn_ld1 (x := ((ch.toNat : Nat) : Int)) one5 hcell ?_
        have fin : ∀ {R : ByteArray × Bool → World → Prop}, True := fun {R} => trivial
        refine ⟨fun b' w' => w' = w2 ∧ b' = decide (65 ≤ ch ∧ ch ≤ 90), ?_, ?_⟩
        · by_cases c1 : (65 : Int) ≤ ((ch.toNat : Nat) : Int)
          · refine iteT c1 ⟨rfl, ?_⟩
            have h1 : (65 : UInt8) ≤ ch := u8_le.2 c1
            by_cases c2 : ((ch.toNat : Nat) : Int) ≤ 90
            · have h2 : ch ≤ 90 := u8_le.2 c2
              simp only [c2, h1, h2, and_self, decide_true]
            · have h2 : ¬ ch ≤ 90 := fun h => c2 (u8_le.1 h)
              simp only [c2, h1, h2, and_false, decide_false]
          · have h1 : ¬ (65 : UInt8) ≤ ch := fun h => c1 (u8_le.1 h)
            exact iteF c1 ⟨rfl, by simp only [h1, false_and, decide_false]⟩
        rintro _ w3 ⟨hw3, rfl⟩
        obtain rfl : w2 = w3 := hw3.symm
        by_cases cu : 65 ≤ ch ∧ ch ≤ 90
        · refine iteT (by simpa using cu) ?_
          obtain ⟨hlv, hlo⟩ := lowB_yes cu
          refine eq1 ?_
          refine rn_ld1 (x := ((ch.toNat : Nat) : Int)) one5 hcell ?_
          refine eq1 ?_
          have hw8 : IntKind.u8.wrap (((ch.toNat : Nat) : Int) + 32) = (((lowB ch).toNat : Nat) : Int) := by
            rw [hlv]
            have h90 : (ch.toNat : Int) ≤ 90 := u8_le.1 cu.2
            show (((ch.toNat : Nat) : Int) + 32) % 256 = _
            omega
          rw [hw8, blk_add, Nat.zero_add]
          refine rnu_byte sz5 hB2 (by simp; omega) fun w4 c4 hB4 s4 => ?_
          rw [hset] at hB4
          exact ⟨hE.then c4 (fun b' hb' => by omega), hB4, okTo_succ hkl hok (by rw [hcc]; exact hlo)⟩
        · refine iteF (by simpa using cu) ?_
          have hlv := lowB_no cu
          have hsame : ((x.data.toList.take k).map lowB ++ x.data.toList.drop k) = (x.data.toList.take (k + 1)).map lowB ++ x.data.toList.drop (k + 1) := by
            rw [← hset, hlv]
            apply List.ext_getElem (by simp)
            intro j h1 h2
            rw [List.getElem_set]
            by_cases e : k = j
            · subst e
              rw [if_pos rfl, List.getElem_append_right (by simp; omega)]
              simp only [List.length_map, List.length_take, List.getElem_drop]
              rw [← hcc]; congr 1; omega
            · rw [if_neg e]
          refine ⟨fun b' w' => w' = w2 ∧ b' = okB ch, ?_, ?_⟩
          · have hsp := okB_iff (c := ch)
            refine ⟨fun b' w' => w' = w2 ∧ b' = decide (97 ≤ ((ch.toNat : Nat) : Int) ∧ ((ch.toNat : Nat) : Int) ≤ 122), ?_, ?_⟩
            · by_cases c1 : (97 : Int) ≤ ((ch.toNat : Nat) : Int)
              · exact iteT c1 ⟨rfl, by simp [c1]⟩
              · exact iteF c1 ⟨rfl, by simp [c1]⟩
            rintro _ w3 ⟨hw3, rfl⟩
            obtain rfl : w2 = w3 := hw3.symm
            by_cases c1 : 97 ≤ ((ch.toNat : Nat) : Int) ∧ ((ch.toNat : Nat) : Int) ≤ 122
            · refine iteT (by simpa using c1) ⟨rfl, ?_⟩
              rw [hsp.2 (.inl c1)]; simpa using c1
            refine iteF (by simpa using c1) ?_
            refine ⟨fun b' w' => w' = w2 ∧ b' = decide (48 ≤ ((ch.toNat : Nat) : Int) ∧ ((ch.toNat : Nat) : Int) ≤ 57), ?_, ?_⟩
            · by_cases c2 : (48 : Int) ≤ ((ch.toNat : Nat) : Int)
              · exact iteT c2 ⟨rfl, by simp [c2]⟩
              · exact iteF c2 ⟨rfl, by simp [c2]⟩
            rintro _ w3 ⟨hw3, rfl⟩
            obtain rfl : w2 = w3 := hw3.symm
            by_cases c2 : 48 ≤ ((ch.toNat : Nat) : Int) ∧ ((ch.toNat : Nat) : Int) ≤ 57
            · refine iteT (by simpa using c2) ⟨rfl, ?_⟩
              rw [hsp.2 (.inr (.inl c2))]; simpa using c2
            refine iteF (by simpa using c2) ?_
            have hval : ∀ d : Bool, (d = true ↔ (((ch.toNat : Nat) : Int) = 45 ∨ ((ch.toNat : Nat) : Int) = 46)) → d = okB ch := fun d hd => by
              rw [Bool.eq_iff_iff, hd, hsp]
              constructor
              · rintro (h | h)
                · exact .inr (.inr (.inl h))
                · exact .inr (.inr (.inr h))
              · rintro (h | h | h)
                · exact absurd h c1
                · exact absurd h c2
                · exact h
            by_cases c3 : ((ch.toNat : Nat) : Int) = 45
            · exact iteT c3 ⟨rfl, hval _ (by simp [c3])⟩
            · exact iteF c3 ⟨rfl, hval _ (by simp [c3])⟩
          rintro _ w3 ⟨hw3, rfl⟩
          obtain rfl : w2 = w3 := hw3.symm
          cases co : okB ch with
          | true => exact iteT rfl ⟨hE, by rw [← hsame]; exact hB2, okTo_succ hkl hok (by rw [hcc, hlv]; exact co)⟩
          | false => exact iteF (by simp) ⟨hE, (foldR_bad hkl (by rw [hcc, hlv]; exact co)).symm⟩
      · rintro _ w3 ⟨hE, hB3, hok3⟩
        rw [wrapI (x := (k : Int) + 1) (by omega) (by omega)]
        exact hK _ _ ⟨k + 1, by omega, hlt, hE, hB3, hok3⟩ (by omega)
    · refine iteF (by omega) ?_
      obtain rfl : k = x.size := by omega
      refine rn_text (l := x.data.toList.map lowB) Try.underlying187 Try.underlying5 Try.underlying9 (by rw [List.length_map]; exact hl.symm) (fun j hj => ?_) ⟨hE, (foldR_yes c hok).symm⟩
      have hj' : j < x.data.toList.length := by simpa using hj
      rw [blk_add, Nat.zero_add, hB2.cell (by simp; omega)]
      congr 3
      rw [List.getElem_append_left (by simp; omega)]
      simp
  · refine iteT (by simp only [c, decide_false, Bool.not_false]) ⟨Ext.refl _, (foldR_size c).symm⟩
end
end Go.Proofs.Ytdoeegfcmbcbkaa.Ct


namespace Go.Proofs.Ytdoeegfcmbcbkaa.Ct
open Go Go.Eng Tr
set_option linter.unusedVariables false
set_option maxRecDepth 100000

section
variable {w : World}
def starB : ByteArray := ⟨#[42]⟩
def pre2 (x : ByteArray) : Bool := decide (2 ≤ x.size) && decide (x.extract 0 2 = ⟨#[42, 46]⟩)
def hostS (x : ByteArray) : Int × ByteArray :=
  if x = starB then (2, ⟨#[]⟩)
  else if pre2 x = true then (match foldB (x.extract 2 x.size) with
    | some h => (1, h)
    | none => (3, x))
  else match foldB x with
    | some h => (0, h)
    | none => (3, x)
def pairIS (x : Int × ByteArray) : Value := Value.tuple #[.int .i64 x.1, .string x.2]
theorem prefixV_ok (x y : ByteArray) : Ans Value.bool 116 #[.string x, .string y] w (decide (y.size ≤ x.size) && decide (x.extract 0 y.size = y)) := by
  refine c116 ?_
  unfold f116
  refine Cal.mono (K := fun r w' => Ext w w' ∧ r = (decide (y.size ≤ x.size) && decide (x.extract 0 y.size = y))) ?_ (fun _ _ h => h)
  refine c138 ?_
  unfold f138
  refine Jn.dup ?_
  by_cases c : (y.size : Int) ≤ (x.size : Int)
  · refine iteT c ?_
    exact rnp_str_to Try.underlying9 rfl (by omega) ⟨Ext.refl _, by rw [decide_eq_true (by omega : y.size ≤ x.size), Bool.true_and]⟩
  · exact iteF c ⟨Ext.refl _, by rw [decide_eq_false (by omega : ¬ y.size ≤ x.size), Bool.false_and]⟩
theorem foldR_none {x : ByteArray} (h : foldB x = none) : foldR x = (⟨#[]⟩, false) := by unfold foldR; rw [h]
theorem foldR_some {x h : ByteArray} (hx : foldB x = some h) : foldR x = (h, true) := by unfold foldR; rw [hx]
theorem host_ok (x : ByteArray) (hm : x.size ≤ maxLen) : Ans pairIS 86 #[.string x] w (hostS x) := by
  refine c86 ?_
  unfold f86
  unfold maxLen at hm
  by_cases c0 : x = starB
  · refine ⟨fun y w' => False, ?_, fun _ _ h => h.elim⟩
    refine iteT c0 ⟨Ext.refl _, ?_⟩
    unfold hostS; rw [if_pos c0]
  refine ⟨fun y w' => Ext w w' ∧ y = if pre2 x = true then (1, x.extract 2 x.size) else (0, x), ?_, ?_⟩
  · refine iteF c0 ?_
    refine (prefixV_ok x ⟨#[42, 46]⟩).mono ?_
    rintro _ w1 ⟨e1, rfl⟩
    have hp : (decide ((⟨#[42, 46]⟩ : ByteArray).size ≤ x.size) && decide (x.extract 0 (⟨#[42, 46]⟩ : ByteArray).size = ⟨#[42, 46]⟩)) = pre2 x := rfl
    rw [hp]
    cases c : pre2 x with
    | true =>
      refine iteT rfl ?_
      refine Dr.mk fun w2 e2 _ => ?_
      have h2 : 2 ≤ x.size := by
        unfold pre2 at c
        simp only [Bool.and_eq_true, decide_eq_true_eq] at c; exact c.1
      exact rnp_str_from Try.underlying9 (k := 2) rfl h2 ⟨e1.trans e2, rfl⟩
    | false => exact iteF (by simp) ⟨e1, rfl⟩
  rintro _ w1 ⟨e1, rfl⟩
  cases c : pre2 x with
  | true =>
    dsimp only [if_true]
    rw [if_pos rfl]
    refine (fold_ok (x.extract 2 x.size)).mono ?_
    rintro _ w2 ⟨e2, rfl⟩
    cases hf : foldB (x.extract 2 x.size) with
    | some h => rw [foldR_some hf]; exact iteT rfl ⟨e1.trans e2, by unfold hostS; rw [if_neg c0, if_pos c, hf]⟩
    | none => rw [foldR_none hf]; exact iteF (by simp) ⟨e1.trans e2, by unfold hostS; rw [if_neg c0, if_pos c, hf]⟩
  | false =>
    rw [if_neg (by simp)]
    refine (fold_ok x).mono ?_
    rintro _ w2 ⟨e2, rfl⟩
    cases hf : foldB x with
    | some h => rw [foldR_some hf]; exact iteT rfl ⟨e1.trans e2, by unfold hostS; rw [if_neg c0, if_neg (by simp [c]), hf]⟩
    | none => rw [foldR_none hf]; exact iteF (by simp) ⟨e1.trans e2, by unfold hostS; rw [if_neg c0, if_neg (by simp [c]), hf]⟩
def cmpS (a b : ByteArray) : Int := if sLt a b = true then -1 else if sLt b a = true then 1 else 0
def ordK (p q : Int × ByteArray) : Int :=
  if p.1 < q.1 then -1 else if q.1 < p.1 then 1
  else if p.1 = 1 ∧ q.2.size < p.2.size then -1 else if p.1 = 1 ∧ p.2.size < q.2.size then 1
  else cmpS p.2 q.2
def ordS (a b : ByteArray) : Int := ordK (hostS a) (hostS b)
theorem cmpStr_ok (a b : ByteArray) : Ans (Value.int .i64) 89 #[.string a, .string b] w (cmpS a b) := by
  refine c89 ?_
  unfold f89
  refine (nan_string a).mono ?_; rintro _ w1 ⟨e1, rfl⟩
  refine (nan_string b).mono ?_; rintro _ w2 ⟨e2, rfl⟩
  refine iteF (by simp) (iteF (by simp) ?_)
  have e := e1.trans e2
  unfold cmpS
  cases h : sLt a b with
  | true => exact iteT rfl ⟨e, rfl⟩
  | false =>
    refine iteF (by simp) ?_
    cases h' : sLt b a with
    | true =>
      have hne : a ≠ b := fun h0 => by subst h0; rw [sLt_irrefl] at h'; cases h'
      exact iteT (by simp [hne]) ⟨e, rfl⟩
    | false =>
      have := sLt_total h h'
      exact iteF (by simp [this]) ⟨e, rfl⟩
theorem or3_ok {b : Nat} {x y z : Int} (hb : Blk w b 3 [.int .i64 x, .int .i64 y, .int .i64 z]) : Ans (Value.int .i64) 88 #[Sl.v ⟨some ⟨b, 0, none⟩, 3, 3⟩] w (if x ≠ 0 then x else if y ≠ 0 then y else z) := by
  refine c88 ?_
  unfold f88
  refine Lp.mk (fun (i : Int) w' => ∃ k : Nat, i = k ∧ k ≤ 3 ∧ w' = w ∧ (0 < k → x = 0) ∧ (1 < k → y = 0) ∧ (2 < k → z = 0)) (fun i => 3 - i.toNat) ⟨0, rfl, by omega, rfl, fun h => by omega, fun h => by omega, fun h => by omega⟩ ?_
  rintro i w0 K ⟨k, rfl, hk, hw0, h0, h1, h2⟩ hK
  obtain rfl : w = w0 := hw0.symm
  by_cases hlt : k < 3
  · refine iteT (by dsimp only; omega) ?_
    refine rnp_own sl77 hlt rfl ?_
    have hc := hb.cell (i := k) (by simpa using hlt)
    rw [wrapI (x := (k : Int) + 1) (by omega) (by omega)]
    rcases (by omega : k = 0 ∨ k = 1 ∨ k = 2) with rfl | rfl | rfl
    · refine rn_ld1 (x := x) one3 hc ?_
      by_cases c : x = 0
      · exact iteF (by simpa using c) (hK _ _ ⟨1, rfl, by omega, rfl, fun _ => c, fun h => by omega, fun h => by omega⟩ (by decide))
      · exact iteT c ⟨Ext.refl _, by rw [if_pos c]⟩
    · have hx := h0 (by omega)
      refine rn_ld1 (x := y) one3 hc ?_
      by_cases c : y = 0
      · exact iteF (by simpa using c) (hK _ _ ⟨2, rfl, by omega, rfl, fun _ => hx, fun _ => c, fun h => by omega⟩ (by decide))
      · exact iteT c ⟨Ext.refl _, by rw [if_neg (by simpa using hx), if_pos c]⟩
    · have hx := h0 (by omega); have hy := h1 (by omega)
      refine rn_ld1 (x := z) one3 hc ?_
      by_cases c : z = 0
      · exact iteF (by simpa using c) (hK _ _ ⟨3, rfl, by omega, rfl, fun _ => hx, fun _ => hy, fun _ => c⟩ (by decide))
      · exact iteT c ⟨Ext.refl _, by rw [if_neg (by simpa using hx), if_neg (by simpa using hy)]⟩
  · obtain rfl : k = 3 := by omega
    have hx := h0 (by omega); have hy := h1 (by omega); have hz := h2 (by omega)
    refine iteF (by dsimp only; omega) ⟨Ext.refl _, by rw [if_neg (by simpa using hx), if_neg (by simpa using hy)]; exact hz.symm⟩
theorem hostOrder_ok (a b : ByteArray) (ha : a.size ≤ maxLen) (hb : b.size ≤ maxLen) : Ans (Value.int .i64) 40 #[.string a, .string b] w (ordS a b) := by
  refine c40 ?_
  unfold f40
  refine (host_ok a ha).mono ?_; rintro _ w1 ⟨e1, rfl⟩
  refine (host_ok b hb).mono ?_; rintro _ w2 ⟨e2, rfl⟩
  have E2 := e1.trans e2
  unfold ordS
  generalize hostS a = p
  generalize hostS b = q
  refine ⟨fun y w' => Ext w w' ∧ y = if p.1 = 1 then (if (q.2.size : Int) < p.2.size then -1 else if (p.2.size : Int) < q.2.size then 1 else 0) else 0, ?_, ?_⟩
  · by_cases c : p.1 = 1
    · refine iteT c ?_
      refine (cmpInt_ok _ _).mono ?_; rintro _ w3 ⟨e3, rfl⟩
      exact ⟨E2.trans e3, by rw [if_pos c]⟩
    · exact iteF c ⟨E2, by rw [if_neg c]⟩
  rintro L w3 ⟨e3, hL⟩
  refine ⟨fun y w' => w' = w3 ∧ y = if p.1 = q.1 then L else 0, ?_, ?_⟩
  · by_cases c : p.1 = q.1
    · exact iteF (by simpa using c) ⟨rfl, by rw [if_pos c]⟩
    · exact iteT c ⟨rfl, by rw [if_neg c]⟩
  rintro M w4 ⟨hw4, hM⟩
  obtain rfl : w3 = w4 := hw4.symm
  refine (cmpInt_ok _ _).mono ?_; rintro _ w4 ⟨e4, rfl⟩
  refine (cmpStr_ok _ _).mono ?_; rintro _ w5 ⟨e5, rfl⟩
  refine New.mk fun b37 w6 e6 h37 _ _ => ?_
  refine (or3_ok h37).mono ?_
  rintro _ w7 ⟨e7, rfl⟩
  refine ⟨(((e3.trans e4).trans e5).trans e6).trans e7, ?_⟩
  unfold ordK
  by_cases c1 : p.1 < q.1
  · rw [if_pos c1, if_pos c1, if_pos (by decide)]
  · by_cases c2 : q.1 < p.1
    · rw [if_neg c1, if_pos c2, if_neg c1, if_pos c2, if_pos (by decide)]
    · have c3 : p.1 = q.1 := by omega
      rw [if_pos c3] at hM
      subst hM
      rw [if_neg c1, if_neg c2, if_neg c1, if_neg c2, if_neg (by decide)]
      by_cases c4 : p.1 = 1
      · rw [if_pos c4] at hL
        by_cases c5 : q.2.size < p.2.size
        · rw [if_pos (by omega)] at hL
          rw [hL, if_pos (by decide), if_pos ⟨c4, c5⟩]
        · rw [if_neg (by omega)] at hL
          have n5 : ¬ (p.1 = 1 ∧ q.2.size < p.2.size) := fun h => c5 h.2
          by_cases c6 : p.2.size < q.2.size
          · rw [if_pos (by omega)] at hL
            rw [hL, if_pos (by decide), if_neg n5, if_pos ⟨c4, c6⟩]
          · rw [if_neg (by omega)] at hL
            have n6 : ¬ (p.1 = 1 ∧ p.2.size < q.2.size) := fun h => c6 h.2
            rw [hL, if_neg (by decide), if_neg n5, if_neg n6]
      · rw [if_neg c4] at hL
        have n5 : ¬ (p.1 = 1 ∧ q.2.size < p.2.size) := fun h => c4 h.1
        have n6 : ¬ (p.1 = 1 ∧ p.2.size < q.2.size) := fun h => c4 h.1
        rw [hL, if_neg (by decide), if_neg n5, if_neg n6]
end
end Go.Proofs.Ytdoeegfcmbcbkaa.Ct


namespace Go.Proofs.Ytdoeegfcmbcbkaa.Ct
open Go Go.Eng Tr
set_option linter.unusedVariables false
set_option maxRecDepth 100000

def CmpHost (Q : THost → Prop) (lt : THost → THost → Bool) (fv : Value) : Prop :=
  ∀ (a b : THost) (w : World), Q a → Q b → CalV PP (Value.int .i64) fv #[a.v, b.v] w fun x w' => Ext w w' ∧ decide (x < 0) = lt a b
section
variable {w : World} {B n : Nat} {s : Sl} {g : Nat → THost × Nat} {Q : THost → Prop} {lt : THost → THost → Bool} {fv : Value}
theorem ocHost (x : THost) : ∀ u ∈ THost.cells x, u.oneCell' = true := by simp [THost.cells, Value.oneCell', Sl.v]
def SortsHost (B n a b : Nat) (s : Sl) (g : Nat → THost × Nat) (w : World) (p : (Nat → THost × Nat) → Prop) (w' : World) : Prop :=
  Chg (own? s) w w' ∧ ∃ g', Rea a b g g' ∧ Own THost.cells 4 59 B w' s (tab n g') ∧ p g'
theorem Own.exchangeHost {i j : Int} {p q : Nat} {K : World → Prop} (hO : Own THost.cells 4 59 B w s (tab n g)) (hp : p < n) (hq : q < n) (hi : i = p) (hj : j = q)
    (hK : ∀ w', Chg (own? s) w w' → Own THost.cells 4 59 B w' s (tab n (swp g p q)) → K w') :
    RnP PP Ptr (Instr.indexAt 51 (Sl.v s) (.int .i64 i)) fun t51 => RnU PP (Instr.storeAt 59 (Ptr t51) (THost.v (g q).1)) w fun w =>
      RnP PP Ptr (Instr.indexAt 51 (Sl.v s) (.int .i64 j)) fun t52 => RnU PP (Instr.storeAt 59 (Ptr t52) (THost.v (g p).1)) w K := by
  refine rnp_lay (x := g q) sl51 hO hp hi sz59 rfl rfl (ocHost _) fun w1 c1 O1 _ => ?_
  refine rnp_lay (x := g p) sl51 O1 hq hj sz59 rfl rfl (ocHost _) fun w2 c2 O2 _ => hK w2 (c1.trans c2) ?_
  have e : (fun j => if j = q then g p else if j = p then g q else g j) = swp g p q := by
    funext k; unfold swp
    by_cases h1 : k = q
    · subst h1
      by_cases h2 : k = p
      · subst h2; simp
      · rw [if_pos rfl, if_neg h2, if_pos rfl]
    · rw [if_neg h1]
      by_cases h2 : k = p
      · rw [if_pos h2, if_pos h2]
      · rw [if_neg h2, if_neg h2, if_neg h1]
  rw [e] at O2; exact O2
theorem insertionHost_ok (hc : CmpHost Q lt fv) (hwo : WO lt) {a b : Nat} (hn : n ≤ 70368744177664) (hab : a ≤ b) (hb : b ≤ n) (hO : Own THost.cells 4 59 B w s (tab n g)) (hQ : ∀ i, i < n → Q (g i).1)
    (htag : ∀ i j, a ≤ i → i < j → j < b → (g i).2 < (g j).2) :
    Cal PP (fun _ : Unit => Value.tuple #[]) 135 #[s.v, .int .i64 (a : Int), .int .i64 (b : Int), fv] w fun _ w' => SortsHost B n a b s g w (Srt (Tg lt) a b) w' := by
  refine c135 ?_
  unfold f135
  rw [wrapI (x := (a : Int) + 1) (by omega) (by omega)]
  refine Lp.mk (fun (i : Int) w' => ∃ k : Nat, i = k ∧ a < k ∧ (k ≤ b ∨ k = a + 1) ∧ Chg (own? s) w w' ∧ ∃ g', Rea a (min k b) g g' ∧ Own THost.cells 4 59 B w' s (tab n g') ∧ Srt (Tg lt) a (min k b) g') (fun i => b - i.toNat)
    ⟨a + 1, by omega, by omega, .inr rfl, Chg.refl _ _, g, Rea.refl _ _ _, hO, fun i j h1 h2 h3 => by omega⟩ ?_
  rintro i w1 K ⟨k, rfl, hak, hkb, hC, g1, hr, hO1, hs1⟩ hK
  by_cases hlt : k < b
  · rw [if_pos (by omega)]
    rw [Nat.min_eq_left (by omega)] at hr hs1
    have hQ1 : ∀ i, i < n → Q (g1 i).1 := hr.allN (p := fun x => Q x.1) (by omega) hQ
    have hx : g1 k = g k := hr.out (by omega)
    have hlow : ∀ i, a ≤ i → i < k → (g1 i).2 < (g k).2 := hr.all (p := fun x => x.2 < (g k).2) fun i h1 h2 => htag i k h1 h2 hlt
    refine Lp.mk (fun (j : Int) w' => ∃ q : Nat, j = q ∧ a ≤ q ∧ q ≤ k ∧ Chg (own? s) w w' ∧ ∃ g', Rea a (k + 1) g g' ∧ Own THost.cells 4 59 B w' s (tab n g') ∧ g' q = g k ∧
        (∀ i j, a ≤ i → i < j → j ≤ k → i ≠ q → j ≠ q → Tg lt (g' i) (g' j)) ∧ (∀ j, q < j → j ≤ k → Tg lt (g k) (g' j)) ∧ ∀ i, a ≤ i → i ≤ k → i ≠ q → (g' i).2 < (g k).2) (fun j => j.toNat)
      ⟨k, rfl, by omega, Nat.le_refl _, hC, g1, hr.mono (Nat.le_refl _) (by omega), hO1, hx, fun i j h1 h2 h3 h4 h5 => hs1 i j h1 h2 (by omega), fun j h1 h2 => by omega, fun i h1 h2 h3 => hlow i h1 (by omega)⟩ ?_
    clear hC hr hO1 hs1 hQ1 hx hlow
    rintro j w2 K2 ⟨q, rfl, haq, hqk, hC, g2, hr, hO2, hx, hso, hgt, hlow⟩ hK2
    have hQ2 : ∀ i, i < n → Q (g2 i).1 := hr.allN (p := fun x => Q x.1) (by omega) hQ
    refine ⟨fun x w' => Ext w2 w' ∧ x = (decide (a < q) && lt (g2 q).1 (g2 (q - 1)).1), ?_, ?_⟩
    · refine Dr.mk fun w3 e3 _ => ?_
      by_cases haq' : a < q
      · refine iteT (by omega) ?_
        rw [wrapI (x := (q : Int) - 1) (by omega) (by omega)]
        refine rnp_row sl51 (hO2.ext e3) (k := q) (by omega) rfl fun p hp => ?_
        refine rnl_ldN (x := (g2 q).1) many59 hp rfl rfl ?_
        refine rnp_row sl51 (hO2.ext e3) (k := q - 1) (by omega) (by omega) fun p hp => ?_
        refine rnl_ldN (x := (g2 (q - 1)).1) many59 hp rfl rfl ?_
        obtain ⟨f, fi, ca, e1, e2, hcal⟩ := hc (g2 q).1 (g2 (q - 1)).1 w3 (hQ2 q (by omega)) (hQ2 (q - 1) (by omega))
        refine ⟨f, fi, ca, e1, e2, hcal.mono ?_⟩
        rintro x w4 ⟨e4, hx⟩
        exact ⟨e3.trans e4, by rw [hx]; simp [haq']⟩
      · exact iteF (by omega) ⟨e3, by simp [haq']⟩
    rintro _ w3 ⟨e3, rfl⟩
    replace hC := hC.thenE e3; replace hO2 := hO2.ext e3
    by_cases hc1 : a < q ∧ lt (g2 q).1 (g2 (q - 1)).1 = true
    · refine iteT (by simp [hc1]) ?_
      refine Dr.mk fun w4 e4 _ => ?_
      replace hC := hC.thenE e4; replace hO2 := hO2.ext e4
      rw [wrapI (x := (q : Int) - 1) (by omega) (by omega)]
      refine rnp_row sl51 hO2 (k := q - 1) (by omega) (by omega) fun p hp => ?_
      refine rnl_ldN (x := (g2 (q - 1)).1) many59 hp rfl rfl ?_
      refine rnp_row sl51 hO2 (k := q) (by omega) rfl fun p hp => ?_
      refine rnl_ldN (x := (g2 q).1) many59 hp rfl rfl ?_
      refine Own.exchangeHost hO2 (p := q) (q := q - 1) (by omega) (by omega) rfl (by omega) fun w5 c5 O5 => ?_
      have hv : ∀ i, swp g2 q (q - 1) i = if i = q then g2 (q - 1) else if i = q - 1 then g k else g2 i := fun i => by unfold swp; rw [hx]
      have ht : Tg lt (g k) (g2 (q - 1)) := by rw [← hx]; exact .inl hc1.2
      refine hK2 _ _ ⟨q - 1, by omega, by omega, by omega, hC.trans c5, swp g2 q (q - 1), hr.trans (Rea.swp ⟨by omega, by omega⟩ ⟨by omega, by omega⟩), O5, ?_, ?_, ?_, ?_⟩ (by omega)
      · rw [hv, if_neg (by omega), if_pos rfl]
      · intro i j h1 h2 h3 h4 h5
        have e1 : ∀ i, i ≠ q - 1 → ∃ i', swp g2 q (q - 1) i = g2 i' ∧ (i = q → i' = q - 1) ∧ (i ≠ q → i' = i) := fun i hi => by
          by_cases c : i = q
          · exact ⟨q - 1, by rw [hv, if_pos c], fun _ => rfl, fun h => absurd c h⟩
          · exact ⟨i, by rw [hv, if_neg c, if_neg hi], fun h => absurd h c, fun _ => rfl⟩
        obtain ⟨i', ei, hi1, hi2⟩ := e1 i h4
        obtain ⟨j', ej, hj1, hj2⟩ := e1 j h5
        rw [ei, ej]
        by_cases ci : i = q <;> by_cases cj : j = q
        · omega
        · rw [hi1 ci, hj2 cj]; exact hso (q - 1) j (by omega) (by omega) h3 (by omega) cj
        · rw [hi2 ci, hj1 cj]; exact hso i (q - 1) h1 (by omega) (by omega) ci (by omega)
        · rw [hi2 ci, hj2 cj]; exact hso i j h1 h2 h3 ci cj
      · intro j h1 h2
        rw [hv]
        by_cases c : j = q
        · rw [if_pos c]; exact ht
        · rw [if_neg c, if_neg (by omega)]; exact hgt j (by omega) h2
      · intro i h1 h2 h3
        rw [hv]
        by_cases c : i = q
        · rw [if_pos c]; exact hlow (q - 1) (by omega) (by omega) (by omega)
        · rw [if_neg c, if_neg h3]; exact hlow i h1 h2 c
    · have hno : a < q → lt (g2 q).1 (g2 (q - 1)).1 = false := fun h => by
        cases c : lt (g2 q).1 (g2 (q - 1)).1 with
        | false => rfl
        | true => exact absurd ⟨h, c⟩ hc1
      refine iteF (by
        by_cases h : a < q
        · simp [h, hno h]
        · simp [h]) ?_
      rw [wrapI (x := (k : Int) + 1) (by omega) (by omega)]
      refine hK _ _ ⟨k + 1, by omega, by omega, .inl hlt, hC, g2, by rw [Nat.min_eq_left (by omega)]; exact hr, hO2, ?_⟩ (by omega)
      rw [Nat.min_eq_left (by omega)]
      -- what lies ahead of the one that was put is not greater
      have hbelow : ∀ i, a ≤ i → i < q → Tg lt (g2 i) (g k) := fun i h1 h2 => by
        have hl := hno (by omega)
        rw [hx] at hl
        have ht : Tg lt (g2 (q - 1)) (g k) := (Tg.late hwo (hlow (q - 1) (by omega) (by omega) (by omega))).2 hl
        by_cases c : i = q - 1
        · rw [c]; exact ht
        · exact Tg.tr hwo (hso i (q - 1) h1 (by omega) (by omega) (by omega) (by omega)) ht
      intro i j h1 h2 h3
      by_cases ci : i = q
      · subst ci; rw [hx]; exact hgt j h2 (by omega)
      · by_cases cj : j = q
        · subst cj; rw [hx]; exact hbelow i h1 h2
        · exact hso i j h1 h2 (by omega) ci cj
  · rw [if_neg (by omega)]
    refine ⟨hC, g1, ?_, hO1, ?_⟩
    · exact hr.mono (Nat.le_refl _) (Nat.min_le_right _ _)
    · by_cases h : k ≤ b
      · rw [Nat.min_eq_right (by omega)] at hs1; exact hs1
      · rw [Nat.min_eq_right (by omega)] at hs1; exact hs1
theorem swapRangeHost_ok {a b m : Nat} (hn : n ≤ 70368744177664) (hab : a + m ≤ b) (hb : b + m ≤ n) (hO : Own THost.cells 4 59 B w s (tab n g)) :
    Cal PP (fun _ : Unit => Value.tuple #[]) 164 #[s.v, .int .i64 (a : Int), .int .i64 (b : Int), .int .i64 (m : Int), fv] w fun _ w' =>
      SortsHost B n a (b + m) s g w (fun g' => ∀ i, g' i = if a ≤ i ∧ i < a + m then g (i + (b - a)) else if b ≤ i ∧ i < b + m then g (i - (b - a)) else g i) w' := by
  refine c164 ?_
  unfold f164
  refine Lp.mk (fun (i : Int) w' => ∃ k : Nat, i = k ∧ k ≤ m ∧ Chg (own? s) w w' ∧ ∃ g', Rea a (b + m) g g' ∧ Own THost.cells 4 59 B w' s (tab n g') ∧
      ∀ i, g' i = if a ≤ i ∧ i < a + k then g (i + (b - a)) else if b ≤ i ∧ i < b + k then g (i - (b - a)) else g i) (fun i => m - i.toNat)
    ⟨0, rfl, Nat.zero_le _, Chg.refl _ _, g, Rea.refl _ _ _, hO, fun i => by rw [if_neg (by omega), if_neg (by omega)]⟩ ?_
  rintro i w1 K ⟨k, rfl, hk, hC, g1, hr, hO1, hv⟩ hK
  by_cases hlt : k < m
  · rw [if_pos (by omega)]
    refine Dr.mk fun w2 e2 _ => ?_
    replace hC := hC.thenE e2; replace hO1 := hO1.ext e2
    rw [wrapI (x := (b : Int) + k) (by omega) (by omega), wrapI (x := (a : Int) + k) (by omega) (by omega)]
    refine rnp_row sl51 hO1 (k := b + k) (by omega) (by omega) fun p hp => ?_
    refine rnl_ldN (x := (g1 (b + k)).1) many59 hp rfl rfl ?_
    refine rnp_row sl51 hO1 (k := a + k) (by omega) (by omega) fun p hp => ?_
    refine rnl_ldN (x := (g1 (a + k)).1) many59 hp rfl rfl ?_
    refine Own.exchangeHost hO1 (p := a + k) (q := b + k) (by omega) (by omega) (by omega) (by omega) fun w3 c3 O3 => ?_
    rw [wrapI (x := (k : Int) + 1) (by omega) (by omega)]
    refine hK _ _ ⟨k + 1, by omega, hlt, hC.trans c3, swp g1 (a + k) (b + k), hr.trans (Rea.swp ⟨by omega, by omega⟩ ⟨by omega, by omega⟩), O3, fun i => ?_⟩ (by omega)
    unfold swp
    by_cases h1 : i = a + k
    · subst h1
      rw [if_pos rfl, if_pos (by omega), hv, if_neg (by omega), if_neg (by omega)]
      congr 1; omega
    · by_cases h2 : i = b + k
      · subst h2
        rw [if_neg h1, if_pos rfl, if_neg (by omega), if_pos (by omega), hv, if_neg (by omega), if_neg (by omega)]
        congr 1; omega
      · rw [if_neg h1, if_neg h2, hv]
        by_cases h3 : a ≤ i ∧ i < a + k
        · have e1 : a ≤ i ∧ i < a + (k + 1) := by omega
          rw [if_pos h3, if_pos e1]
        · have e1 : ¬ (a ≤ i ∧ i < a + (k + 1)) := by omega
          rw [if_neg h3, if_neg e1]
          by_cases h4 : b ≤ i ∧ i < b + k
          · have e2 : b ≤ i ∧ i < b + (k + 1) := by omega
            rw [if_pos h4, if_pos e2]
          · have e2 : ¬ (b ≤ i ∧ i < b + (k + 1)) := by omega
            rw [if_neg h4, if_neg e2]
  · rw [if_neg (by omega)]
    obtain rfl : k = m := by omega
    exact ⟨hC, g1, hr, hO1, hv⟩
theorem rotateHost_ok {a m b : Nat} (hn : n ≤ 70368744177664) (ham : a < m) (hmb : m < b) (hb : b ≤ n) (hO : Own THost.cells 4 59 B w s (tab n g)) :
    Cal PP (fun _ : Unit => Value.tuple #[]) 155 #[s.v, .int .i64 (a : Int), .int .i64 (m : Int), .int .i64 (b : Int), fv] w fun _ w' =>
      SortsHost B n a b s g w (fun g' => ∀ i, g' i = if a ≤ i ∧ i < a + (b - m) then g (i + (m - a)) else if a + (b - m) ≤ i ∧ i < b then g (i - (b - m)) else g i) w' := by
  refine c155 ?_
  unfold f155
  rw [wrapI (x := (m : Int) - a) (by omega) (by omega), wrapI (x := (b : Int) - m) (by omega) (by omega)]
  -- what is left to be turned: i of them ahead of m, j of them from m on
  refine Lp.mk (fun (y : Int × Int) w' => ∃ p q : Nat, y.1 = p ∧ y.2 = q ∧ 0 < p ∧ 0 < q ∧ a ≤ m - p ∧ p ≤ m ∧ m + q ≤ b ∧ Chg (own? s) w w' ∧ ∃ g', Rea a b g g' ∧ Own THost.cells 4 59 B w' s (tab n g') ∧
      ∀ i, (if a ≤ i ∧ i < a + (b - m) then g (i + (m - a)) else if a + (b - m) ≤ i ∧ i < b then g (i - (b - m)) else g i) =
        if m - p ≤ i ∧ i < m - p + q then g' (i + p) else if m - p + q ≤ i ∧ i < m + q then g' (i - q) else g' i) (fun y => y.1.toNat + y.2.toNat)
    ⟨m - a, b - m, by omega, by omega, by omega, by omega, by omega, by omega, by omega, Chg.refl _ _, g, Rea.refl _ _ _, hO, fun i => by
      have e1 : m - (m - a) = a := by omega
      have e2 : m + (b - m) = b := by omega
      rw [e1, e2]⟩ ?_
  rintro ⟨_, _⟩ w1 K ⟨p, q, rfl, rfl, hp0, hq0, hap, hpm, hqb, hC, g1, hr, hO1, hv⟩ hK
  dsimp only at *
  by_cases hne : p = q
  · subst hne
    refine iteF (by simp) ?_
    rw [wrapI (x := (m : Int) - p) (by omega) (by omega), show (m : Int) - p = ((m - p : Nat) : Int) by omega]
    refine (swapRangeHost_ok (fv := fv) hn (a := m - p) (b := m) (m := p) (by omega) (by omega) hO1).mono ?_
    rintro _ w2 ⟨c2, g2, hr2, hO2, hv2⟩
    refine ⟨hC.trans c2, g2, hr.trans (hr2.mono (by omega) (by omega)), hO2, fun i => ?_⟩
    rw [hv, hv2]
    have e1 : m - (m - p) = p := by omega
    have e2 : m - p + p = m := by omega
    rw [e1, e2]
  · refine iteT (by omega) ?_
    by_cases hlt : q < p
    · refine iteT (by omega) ?_
      rw [wrapI (x := (m : Int) - p) (by omega) (by omega), show (m : Int) - p = ((m - p : Nat) : Int) by omega]
      refine (swapRangeHost_ok (fv := fv) hn (a := m - p) (b := m) (m := q) (by omega) (by omega) hO1).mono ?_
      rintro _ w2 ⟨c2, g2, hr2, hO2, hv2⟩
      rw [wrapI (x := (p : Int) - q) (by omega) (by omega)]
      refine hK _ _ ⟨p - q, q, by dsimp only; omega, rfl, by omega, hq0, by omega, by omega, hqb, hC.trans c2, g2, hr.trans (hr2.mono (by omega) (by omega)), hO2, fun i => ?_⟩ (by dsimp only; omega)
      rw [hv]
      by_cases h1 : m - p ≤ i ∧ i < m - p + q
      · rw [if_pos h1, if_neg (by omega), if_neg (by omega), hv2, if_pos (by omega)]; congr 1; omega
      · rw [if_neg h1]
        by_cases h2 : m - p + q ≤ i ∧ i < m + q
        · rw [if_pos h2]
          by_cases h3 : i < m - p + q + q
          · rw [if_pos (by omega), hv2]
            by_cases h4 : i + (p - q) < m
            · rw [if_neg (by omega), if_neg (by omega)]
              exfalso; omega
            · rw [if_neg (by omega), if_pos (by omega)]; congr 1; omega
          · rw [if_neg (by omega), if_pos (by omega), hv2, if_neg (by omega), if_neg (by omega)]
        · rw [if_neg h2, if_neg (by omega), if_neg (by omega), hv2, if_neg (by omega), if_neg (by omega)]
    · refine iteF (by omega) ?_
      rw [wrapI (x := (m : Int) - p) (by omega) (by omega), wrapI (x := (m : Int) + q) (by omega) (by omega), wrapI (x := (m : Int) + q - p) (by omega) (by omega), show (m : Int) - p = ((m - p : Nat) : Int) by omega, show (m : Int) + q - p = ((m + q - p : Nat) : Int) by omega]
      refine (swapRangeHost_ok (fv := fv) hn (a := m - p) (b := m + q - p) (m := p) (by omega) (by omega) hO1).mono ?_
      rintro _ w2 ⟨c2, g2, hr2, hO2, hv2⟩
      rw [wrapI (x := (q : Int) - p) (by omega) (by omega)]
      refine hK _ _ ⟨p, q - p, rfl, by dsimp only; omega, hp0, by omega, by omega, by omega, by omega, hC.trans c2, g2, hr.trans (hr2.mono (by omega) (by omega)), hO2, fun i => ?_⟩ (by dsimp only; omega)
      rw [hv]
      by_cases h1 : m - p ≤ i ∧ i < m - p + q
      · rw [if_pos h1]
        by_cases h2 : i < m - p + (q - p)
        · rw [if_pos (by omega), hv2, if_neg (by omega), if_neg (by omega)]
        · rw [if_neg (by omega), if_pos (by omega), hv2]
          by_cases h3 : i - (q - p) < m
          · rw [if_pos (by omega)]; congr 1; omega
          · exfalso; omega
      · rw [if_neg h1]
        by_cases h2 : m - p + q ≤ i ∧ i < m + q
        · rw [if_pos h2]
          rw [if_neg (by omega), if_neg (by omega), hv2, if_neg (by omega), if_pos (by omega)]; congr 1; omega
        · rw [if_neg h2, if_neg (by omega), if_neg (by omega), hv2, if_neg (by omega), if_neg (by omega)]
theorem symMergeHost_ok (hc : CmpHost Q lt fv) (hwo : WO lt) (hn : n ≤ 70368744177664) : ∀ (N a m b : Nat) (w : World) (g : Nat → THost × Nat), b - a ≤ N → a < m → m < b → b ≤ n → Own THost.cells 4 59 B w s (tab n g) →
    (∀ i, i < n → Q (g i).1) → Srt (Tg lt) a m g → Srt (Tg lt) m b g → (∀ i j, a ≤ i → i < m → m ≤ j → j < b → (g i).2 < (g j).2) →
    Cal PP (fun _ : Unit => Value.tuple #[]) 136 #[s.v, .int .i64 (a : Int), .int .i64 (m : Int), .int .i64 (b : Int), fv] w fun _ w' => SortsHost B n a b s g w (Srt (Tg lt) a b) w' := by
  intro N
  induction N with
  | zero => intro a m b w g h1 h2 h3; omega
  | succ N ih =>
  intro a m b w g hN ham hmb hb hO hQ hA hB htg
  refine c136 ?_
  unfold f136
  -- a test of one of the second row against one of the first
  have test : ∀ {w' : World} {i j : Nat} {K : Int → World → Prop}, Ext w w' → a ≤ j → j < m → m ≤ i → i < b → (∀ x w'', Ext w w'' → (x < 0 → Tg lt (g i) (g j)) → (¬ x < 0 → Tg lt (g j) (g i)) → K x w'') →
      CalV PP (Value.int .i64) fv #[(THost.v (g i).1), (THost.v (g j).1)] w' K := fun {w' i j K} e h1 h2 h3 h4 hK => by
    obtain ⟨f, fi, ca, e1, e2, hcal⟩ := hc (g i).1 (g j).1 w' (hQ i (by omega)) (hQ j (by omega))
    refine ⟨f, fi, ca, e1, e2, hcal.mono ?_⟩
    rintro x w'' ⟨e', hx⟩
    have hl := Tg.late hwo (htg j i h1 h2 h3 h4)
    refine hK x w'' (e.trans e') (fun h => hl.1 (by rw [← hx]; simpa using h)) (fun h => hl.2 (by rw [← hx]; simpa using h))
  rw [wrapI (x := (m : Int) - a) (by omega) (by omega)]
  by_cases c1 : m - a = 1
  · refine iteT (by omega) ?_
    refine Lp.mk (fun (y : Int × Int) w' => ∃ p q : Nat, y.1 = p ∧ y.2 = q ∧ m ≤ p ∧ p ≤ q ∧ q ≤ b ∧ Ext w w' ∧ (∀ x, m ≤ x → x < p → Tg lt (g x) (g a)) ∧ ∀ x, q ≤ x → x < b → Tg lt (g a) (g x)) (fun y => y.2.toNat - y.1.toNat)
      ⟨m, b, rfl, rfl, Nat.le_refl _, by omega, Nat.le_refl _, Ext.refl _, fun x h1 h2 => by omega, fun x h1 h2 => by omega⟩ ?_
    rintro ⟨_, _⟩ w1 K ⟨p, q, rfl, rfl, hmp, hpq, hqb, hE, hlo, hhi⟩ hK
    dsimp only at *
    by_cases hlt : p < q
    · refine iteT (by omega) ?_
      rw [wrapI (x := (p : Int) + q) (by omega) (by omega), wrapU (x := (p : Int) + q) (by omega) (by omega)]
      refine rnp_half ?_
      have eh : ((p : Int) + q) / 2 = (((p + q) / 2 : Nat) : Int) := by omega
      rw [eh, wrapI (x := (((p + q) / 2 : Nat) : Int)) (by omega) (by omega)]
      have hh1 : p ≤ (p + q) / 2 := by omega
      have hh2 : (p + q) / 2 < q := by omega
      generalize (p + q) / 2 = h at hh1 hh2
      refine Dr.mk fun w2 e2 _ => ?_
      replace hE := hE.trans e2
      refine rnp_row sl51 (hO.ext hE) (k := h) (by omega) rfl fun pp hp => ?_
      refine rnl_ldN (x := (g h).1) many59 hp rfl rfl ?_
      refine rnp_row sl51 (hO.ext hE) (k := a) (by omega) rfl fun pp hp => ?_
      refine rnl_ldN (x := (g a).1) many59 hp rfl rfl ?_
      refine test hE (Nat.le_refl _) ham (by omega) (by omega) fun x w3 e3 hy hno => ?_
      by_cases cx : x < 0
      · refine iteT cx ?_
        rw [wrapI (x := (h : Int) + 1) (by omega) (by omega)]
        refine hK _ _ ⟨h + 1, q, by dsimp only; omega, rfl, by omega, by omega, hqb, e3, fun z h1 h2 => ?_, hhi⟩ (by dsimp only; omega)
        by_cases c : z = h
        · rw [c]; exact hy cx
        · exact Tg.tr hwo (hB z h (by omega) (by omega) (by omega)) (hy cx)
      · refine iteF cx ?_
        refine hK _ _ ⟨p, h, rfl, rfl, hmp, hh1, by omega, e3, hlo, fun z h1 h2 => ?_⟩ (by dsimp only; omega)
        by_cases c : z = h
        · rw [c]; exact hno cx
        · exact Tg.tr hwo (hno cx) (hB h z (by omega) (by omega) h2)
    · refine iteF (by omega) ?_
      obtain rfl : p = q := by omega
      rw [wrapI (x := (p : Int) - 1) (by omega) (by omega)]
      refine Lp.mk (fun (y : Int) w' => ∃ k : Nat, y = k ∧ a ≤ k ∧ k ≤ p - 1 ∧ Chg (own? s) w w' ∧ ∃ g', Rea a b g g' ∧ Own THost.cells 4 59 B w' s (tab n g') ∧ ∀ i, g' i = if a ≤ i ∧ i < k then g (i + 1) else if i = k then g a else g i) (fun y => p - y.toNat)
        ⟨a, rfl, Nat.le_refl _, by omega, hE.chg _, g, Rea.refl _ _ _, hO.ext hE, fun i => by
          rw [if_neg (by omega)]
          by_cases c : i = a
          · rw [if_pos c, c]
          · rw [if_neg c]⟩ ?_
      clear hK
      rintro y w2 K ⟨k, rfl, hak, hkp, hC, g1, hr, hO1, hv⟩ hK
      by_cases hk1 : k < p - 1
      · refine iteT (by omega) ?_
        refine Dr.mk fun w3 e3 _ => ?_
        replace hC := hC.thenE e3; replace hO1 := hO1.ext e3
        rw [wrapI (x := (k : Int) + 1) (by omega) (by omega)]
        refine rnp_row sl51 hO1 (k := k + 1) (by omega) (by omega) fun pp hp => ?_
        refine rnl_ldN (x := (g1 (k + 1)).1) many59 hp rfl rfl ?_
        refine rnp_row sl51 hO1 (k := k) (by omega) rfl fun pp hp => ?_
        refine rnl_ldN (x := (g1 k).1) many59 hp rfl rfl ?_
        refine Own.exchangeHost hO1 (p := k) (q := k + 1) (by omega) (by omega) rfl (by omega) fun w4 c4 O4 => ?_
        refine hK _ _ ⟨k + 1, by omega, by omega, by omega, hC.trans c4, swp g1 k (k + 1), hr.trans (Rea.swp ⟨by omega, by omega⟩ ⟨by omega, by omega⟩), O4, fun i => ?_⟩ (by omega)
        unfold swp
        by_cases h1 : i = k
        · subst h1
          rw [if_pos rfl, if_pos (by omega), hv, if_neg (by omega), if_neg (by omega)]
        · rw [if_neg h1]
          by_cases h2 : i = k + 1
          · rw [if_pos h2, if_neg (by omega), if_pos h2, hv, if_neg (by omega), if_pos rfl]
          · rw [if_neg h2, if_neg h2, hv, if_neg h1]
            by_cases h3 : a ≤ i ∧ i < k
            · rw [if_pos h3, if_pos (by omega)]
            · rw [if_neg h3, if_neg (by omega)]
      · refine iteF (by omega) ⟨hC, g1, hr, hO1, ?_⟩
        obtain rfl : k = p - 1 := by omega
        intro i j h1 h2 h3
        rw [hv, hv]
        by_cases hi : a ≤ i ∧ i < p - 1
        · rw [if_pos hi]
          by_cases hj : a ≤ j ∧ j < p - 1
          · rw [if_pos hj]; exact hB _ _ (by omega) (by omega) (by omega)
          · rw [if_neg hj]
            by_cases hj' : j = p - 1
            · rw [if_pos hj']; exact hlo _ (by omega) (by omega)
            · rw [if_neg hj']; exact hB _ _ (by omega) (by omega) h3
        · rw [if_neg hi]
          by_cases hi' : i = p - 1
          · rw [if_pos hi', if_neg (by omega), if_neg (by omega)]; exact hhi j (by omega) h3
          · rw [if_neg hi', if_neg (by omega), if_neg (by omega)]; exact hB i j (by omega) h2 h3
  refine iteF (by omega) ?_
  rw [wrapI (x := (b : Int) - m) (by omega) (by omega)]
  by_cases c2 : b - m = 1
  · refine iteT (by omega) ?_
    refine Lp.mk (fun (y : Int × Int) w' => ∃ p q : Nat, y.1 = p ∧ y.2 = q ∧ a ≤ p ∧ p ≤ q ∧ q ≤ m ∧ Ext w w' ∧ (∀ x, a ≤ x → x < p → Tg lt (g x) (g m)) ∧ ∀ x, q ≤ x → x < m → Tg lt (g m) (g x)) (fun y => y.2.toNat - y.1.toNat)
      ⟨a, m, rfl, rfl, Nat.le_refl _, by omega, Nat.le_refl _, Ext.refl _, fun x h1 h2 => by omega, fun x h1 h2 => by omega⟩ ?_
    rintro ⟨_, _⟩ w1 K ⟨p, q, rfl, rfl, hmp, hpq, hqb, hE, hlo, hhi⟩ hK
    dsimp only at *
    by_cases hlt : p < q
    · refine iteT (by omega) ?_
      rw [wrapI (x := (p : Int) + q) (by omega) (by omega), wrapU (x := (p : Int) + q) (by omega) (by omega)]
      refine rnp_half ?_
      have eh : ((p : Int) + q) / 2 = (((p + q) / 2 : Nat) : Int) := by omega
      rw [eh, wrapI (x := (((p + q) / 2 : Nat) : Int)) (by omega) (by omega)]
      have hh1 : p ≤ (p + q) / 2 := by omega
      have hh2 : (p + q) / 2 < q := by omega
      generalize (p + q) / 2 = h at hh1 hh2
      refine Dr.mk fun w2 e2 _ => ?_
      replace hE := hE.trans e2
      refine rnp_row sl51 (hO.ext hE) (k := m) (by omega) rfl fun pp hp => ?_
      refine rnl_ldN (x := (g m).1) many59 hp rfl rfl ?_
      refine rnp_row sl51 (hO.ext hE) (k := h) (by omega) rfl fun pp hp => ?_
      refine rnl_ldN (x := (g h).1) many59 hp rfl rfl ?_
      refine test hE (by omega) (by omega) (Nat.le_refl _) (by omega) fun x w3 e3 hy hno => ?_
      by_cases cx : x < 0
      · refine iteF (by simpa using cx) ?_
        refine hK _ _ ⟨p, h, rfl, rfl, hmp, hh1, by omega, e3, hlo, fun z h1 h2 => ?_⟩ (by dsimp only; omega)
        by_cases c : z = h
        · rw [c]; exact hy cx
        · exact Tg.tr hwo (hy cx) (hA h z (by omega) (by omega) h2)
      · refine iteT (by simpa using cx) ?_
        rw [wrapI (x := (h : Int) + 1) (by omega) (by omega)]
        refine hK _ _ ⟨h + 1, q, by dsimp only; omega, rfl, by omega, by omega, hqb, e3, fun z h1 h2 => ?_, hhi⟩ (by dsimp only; omega)
        by_cases c : z = h
        · rw [c]; exact hno cx
        · exact Tg.tr hwo (hA z h (by omega) (by omega) (by omega)) (hno cx)
    · refine iteF (by omega) ?_
      obtain rfl : p = q := by omega
      refine Lp.mk (fun (y : Int) w' => ∃ k : Nat, y = k ∧ p ≤ k ∧ k ≤ m ∧ Chg (own? s) w w' ∧ ∃ g', Rea a b g g' ∧ Own THost.cells 4 59 B w' s (tab n g') ∧ ∀ i, g' i = if k < i ∧ i ≤ m then g (i - 1) else if i = k then g m else g i) (fun y => y.toNat)
        ⟨m, rfl, by omega, Nat.le_refl _, hE.chg _, g, Rea.refl _ _ _, hO.ext hE, fun i => by
          rw [if_neg (by omega)]
          by_cases c : i = m
          · rw [if_pos c, c]
          · rw [if_neg c]⟩ ?_
      clear hK
      rintro y w2 K ⟨k, rfl, hak, hkp, hC, g1, hr, hO1, hv⟩ hK
      by_cases hk1 : p < k
      · refine iteT (by omega) ?_
        refine Dr.mk fun w3 e3 _ => ?_
        replace hC := hC.thenE e3; replace hO1 := hO1.ext e3
        rw [wrapI (x := (k : Int) - 1) (by omega) (by omega)]
        refine rnp_row sl51 hO1 (k := k - 1) (by omega) (by omega) fun pp hp => ?_
        refine rnl_ldN (x := (g1 (k - 1)).1) many59 hp rfl rfl ?_
        refine rnp_row sl51 hO1 (k := k) (by omega) rfl fun pp hp => ?_
        refine rnl_ldN (x := (g1 k).1) many59 hp rfl rfl ?_
        refine Own.exchangeHost hO1 (p := k) (q := k - 1) (by omega) (by omega) rfl (by omega) fun w4 c4 O4 => ?_
        refine hK _ _ ⟨k - 1, by omega, by omega, by omega, hC.trans c4, swp g1 k (k - 1), hr.trans (Rea.swp ⟨by omega, by omega⟩ ⟨by omega, by omega⟩), O4, fun i => ?_⟩ (by omega)
        unfold swp
        by_cases h1 : i = k
        · subst h1
          rw [if_pos rfl, if_pos (by omega), hv, if_neg (by omega), if_neg (by omega)]
        · rw [if_neg h1]
          by_cases h2 : i = k - 1
          · rw [if_pos h2, if_neg (by omega), if_pos h2, hv, if_neg (by omega), if_pos rfl]
          · rw [if_neg h2, if_neg h2, hv, if_neg h1]
            by_cases h3 : k < i ∧ i ≤ m
            · rw [if_pos h3, if_pos (by omega)]
            · rw [if_neg h3, if_neg (by omega)]
      · refine iteF (by omega) ⟨hC, g1, hr, hO1, ?_⟩
        obtain rfl : k = p := by omega
        intro i j h1 h2 h3
        rw [hv, hv]
        by_cases hi : k < i ∧ i ≤ m
        · rw [if_pos hi, if_pos (by omega)]; exact hA _ _ (by omega) (by omega) (by omega)
        · rw [if_neg hi]
          by_cases hi' : i = k
          · rw [if_pos hi', if_pos (by omega)]; exact hhi _ (by omega) (by omega)
          · rw [if_neg hi']
            by_cases hj : k < j ∧ j ≤ m
            · rw [if_pos hj]; exact hA _ _ (by omega) (by omega) (by omega)
            · rw [if_neg hj]
              by_cases hj' : j = k
              · rw [if_pos hj']; exact hlo _ (by omega) (by omega)
              · rw [if_neg hj']; exact hA _ _ (by omega) (by omega) (by omega)
  refine iteF (by omega) ?_
  rw [wrapI (x := (a : Int) + b) (by omega) (by omega), wrapU (x := (a : Int) + b) (by omega) (by omega)]
  refine rnp_half ?_
  have em : ((a : Int) + b) / 2 = (((a + b) / 2 : Nat) : Int) := by omega
  rw [em, wrapI (x := (((a + b) / 2 : Nat) : Int)) (by omega) (by omega)]
  have hmid : 2 * ((a + b) / 2) ≤ a + b ∧ a + b < 2 * ((a + b) / 2) + 2 := by omega
  generalize (a + b) / 2 = mid at hmid
  rw [wrapI (x := (mid : Int) + m) (by omega) (by omega), wrapI (x := (mid : Int) + m - 1) (by omega) (by omega)]
  -- where the search begins and ends
  refine ⟨fun (y : Int × Int) w' => w' = w ∧ ∃ p0 q0 : Nat, y = ((p0 : Int), (q0 : Int)) ∧ ((mid < m ∧ p0 + b = mid + m ∧ q0 = mid) ∨ (m ≤ mid ∧ p0 = a ∧ q0 = m)), ?_, ?_⟩
  · by_cases c : mid < m
    · refine iteT (by omega) ⟨rfl, mid + m - b, mid, ?_, .inl ⟨c, by omega, rfl⟩⟩
      rw [wrapI (x := (mid : Int) + m - b) (by omega) (by omega)]
      simp; omega
    · exact iteF (by omega) ⟨rfl, a, m, rfl, .inr ⟨by omega, rfl, rfl⟩⟩
  rintro _ w0 ⟨hw0, p0, q0, rfl, hpq0⟩
  obtain rfl : w = w0 := hw0.symm
  dsimp only
  have hp0 : a ≤ p0 ∧ p0 ≤ q0 ∧ q0 ≤ m ∧ q0 ≤ mid := by omega
  have hrange : ∀ c, p0 ≤ c → c < q0 → m ≤ mid + m - 1 - c ∧ mid + m - 1 - c < b := fun c h1 h2 => by omega
  refine Lp.mk (fun (y : Int × Int) w' => ∃ p q : Nat, y.1 = p ∧ y.2 = q ∧ p0 ≤ p ∧ p ≤ q ∧ q ≤ q0 ∧ Ext w w' ∧ (∀ c, p0 ≤ c → c < p → Tg lt (g c) (g (mid + m - 1 - c))) ∧ ∀ c, q ≤ c → c < q0 → Tg lt (g (mid + m - 1 - c)) (g c)) (fun y => y.2.toNat - y.1.toNat)
    ⟨p0, q0, rfl, rfl, Nat.le_refl _, hp0.2.1, Nat.le_refl _, Ext.refl _, fun x h1 h2 => by omega, fun x h1 h2 => by omega⟩ ?_
  rintro ⟨_, _⟩ w1 K ⟨st, q, rfl, rfl, hps, hpq, hqq, hE, hlo, hhi⟩ hK
  dsimp only at *
  by_cases hlt : st < q
  · refine iteT (by omega) ?_
    rw [wrapI (x := (st : Int) + q) (by omega) (by omega), wrapU (x := (st : Int) + q) (by omega) (by omega)]
    refine rnp_half ?_
    have eh : ((st : Int) + q) / 2 = (((st + q) / 2 : Nat) : Int) := by omega
    rw [eh, wrapI (x := (((st + q) / 2 : Nat) : Int)) (by omega) (by omega)]
    have hh1 : st ≤ (st + q) / 2 := by omega
    have hh2 : (st + q) / 2 < q := by omega
    generalize (st + q) / 2 = h at hh1 hh2
    have hrh := hrange h (by omega) (by omega)
    rw [wrapI (x := (mid : Int) + m - 1 - h) (by omega) (by omega)]
    refine Dr.mk fun w2 e2 _ => ?_
    replace hE := hE.trans e2
    refine rnp_row sl51 (hO.ext hE) (k := mid + m - 1 - h) (by omega) (by omega) fun pp hp => ?_
    refine rnl_ldN (x := (g (mid + m - 1 - h)).1) many59 hp rfl rfl ?_
    refine rnp_row sl51 (hO.ext hE) (k := h) (by omega) rfl fun pp hp => ?_
    refine rnl_ldN (x := (g h).1) many59 hp rfl rfl ?_
    refine test hE (by omega) (by omega) hrh.1 hrh.2 fun x w3 e3 hy hno => ?_
    by_cases cx : x < 0
    · refine iteF (by simpa using cx) ?_
      refine hK _ _ ⟨st, h, rfl, rfl, hps, hh1, by omega, e3, hlo, fun z h1 h2 => ?_⟩ (by dsimp only; omega)
      have hrz := hrange z (by omega) h2
      by_cases c : z = h
      · rw [c]; exact hy cx
      · exact Tg.tr hwo (Tg.tr hwo (hB (mid + m - 1 - z) (mid + m - 1 - h) hrz.1 (by omega) hrh.2) (hy cx)) (hA h z (by omega) (by omega) (by omega))
    · refine iteT (by simpa using cx) ?_
      rw [wrapI (x := (h : Int) + 1) (by omega) (by omega)]
      refine hK _ _ ⟨h + 1, q, by dsimp only; omega, rfl, by omega, by omega, hqq, e3, fun z h1 h2 => ?_, hhi⟩ (by dsimp only; omega)
      have hrz := hrange z h1 (by omega)
      by_cases c : z = h
      · rw [c]; exact hno cx
      · exact Tg.tr hwo (Tg.tr hwo (hA z h (by omega) (by omega) (by omega)) (hno cx)) (hB (mid + m - 1 - h) (mid + m - 1 - z) hrh.1 (by omega) hrz.2)
  refine iteF (by omega) ?_
  obtain rfl : st = q := by omega
  clear hK test
  rw [wrapI (x := (mid : Int) + m - st) (by omega) (by omega)]
  obtain ⟨en, hen⟩ : ∃ en, en + st = mid + m := ⟨mid + m - st, by omega⟩
  rw [show (mid : Int) + m - st = (en : Int) by omega]
  have hE0 : st ≤ m ∧ st ≤ mid ∧ a ≤ st ∧ m ≤ en ∧ mid ≤ en ∧ en ≤ b := by omega
  have F1 : ∀ x y, a ≤ x → x < st → en ≤ y → y < b → Tg lt (g x) (g y) := fun x y h1 h2 h3 h4 => by
    by_cases c : st = p0
    · omega
    · have ht := hlo (st - 1) (by omega) (by omega)
      rw [show mid + m - 1 - (st - 1) = en by omega] at ht
      have h5 : Tg lt (g x) (g en) := by
        by_cases cx : x = st - 1
        · rw [cx]; exact ht
        · exact Tg.tr hwo (hA x (st - 1) h1 (by omega) (by omega)) ht
      by_cases cy : y = en
      · rw [cy]; exact h5
      · exact Tg.tr hwo h5 (hB en y (by omega) (by omega) h4)
  have F2 : ∀ x y, st ≤ x → x < m → m ≤ y → y < en → Tg lt (g y) (g x) := fun x y h1 h2 h3 h4 => by
    by_cases c : st = q0
    · omega
    · have ht := hhi st (Nat.le_refl _) (by omega)
      rw [show mid + m - 1 - st = en - 1 by omega] at ht
      have h5 : Tg lt (g y) (g st) := by
        by_cases cy : y = en - 1
        · rw [cy]; exact ht
        · exact Tg.tr hwo (hB y (en - 1) h3 (by omega) (by omega)) ht
      by_cases cx : x = st
      · rw [cx]; exact h5
      · exact Tg.tr hwo h5 (hA st x (by omega) (by omega) h2)
  refine ⟨fun _ w' => SortsHost B n a b s g w (fun g' => ∀ i, g' i = if st ≤ i ∧ i < st + (en - m) then g (i + (m - st)) else if st + (en - m) ≤ i ∧ i < en then g (i - (en - m)) else g i) w', ?_, ?_⟩
  · refine ⟨fun x w' => w' = w1 ∧ x = decide (st < m ∧ m < en), ?_, ?_⟩
    · by_cases c : st < m
      · exact iteT (by omega) ⟨rfl, by
          by_cases c' : m < en
          · simp [c, c']
          · simp [c, c']⟩
      · exact iteF (by omega) ⟨rfl, by simp [c]⟩
    rintro _ wq ⟨hwq, rfl⟩
    obtain rfl : w1 = wq := hwq.symm
    by_cases c : st < m ∧ m < en
    · refine iteT (by simpa using c) ?_
      refine (rotateHost_ok (fv := fv) hn c.1 c.2 (by omega) (hO.ext hE)).mono ?_
      rintro _ w2 ⟨c2, g1, hr, hO1, hv⟩
      exact ⟨(hE.chg _).trans c2, g1, hr.mono (by omega) (by omega), hO1, hv⟩
    · refine iteF (by simpa using c) ⟨hE.chg _, g, Rea.refl _ _ _, hO.ext hE, fun i => ?_⟩
      by_cases c' : st < m
      · have : en = m := by omega
        rw [this, if_neg (by omega)]
        by_cases h2 : st + (m - m) ≤ i ∧ i < m
        · rw [if_pos h2]; congr 1; omega
        · rw [if_neg h2]
      · have : st = m := by omega
        rw [this]
        by_cases h2 : m ≤ i ∧ i < m + (en - m)
        · rw [if_pos h2]; congr 1; omega
        · rw [if_neg h2, if_neg (by omega)]
  rintro _ w2 ⟨hC, g1, hr, hO1, hv⟩
  have hQ1 : ∀ i, i < n → Q (g1 i).1 := hr.allN (p := fun x => Q x.1) (by omega) hQ
  -- the four pieces
  have v1 : ∀ i, a ≤ i → i < st → g1 i = g i := fun i h1 h2 => by rw [hv, if_neg (by omega), if_neg (by omega)]
  have v2 : ∀ i, st ≤ i → i < mid → g1 i = g (i + (m - st)) := fun i h1 h2 => by rw [hv, if_pos (by omega)]
  have v3 : ∀ i, mid ≤ i → i < en → g1 i = g (i - (en - m)) := fun i h1 h2 => by rw [hv, if_neg (by omega), if_pos (by omega)]
  have v4 : ∀ i, en ≤ i → i < b → g1 i = g i := fun i h1 h2 => by rw [hv, if_neg (by omega), if_neg (by omega)]
  have hcross : ∀ i j, a ≤ i → i < mid → mid ≤ j → j < b → Tg lt (g1 i) (g1 j) := fun i j h1 h2 h3 h4 => by
    by_cases ci : i < st
    · rw [v1 i h1 ci]
      by_cases cj : j < en
      · rw [v3 j h3 cj]; exact hA _ _ h1 (by omega) (by omega)
      · rw [v4 j (by omega) h4]; exact F1 i j h1 ci (by omega) h4
    · rw [v2 i (by omega) h2]
      by_cases cj : j < en
      · rw [v3 j h3 cj]; exact F2 _ _ (by omega) (by omega) (by omega) (by omega)
      · rw [v4 j (by omega) h4]; exact hB _ _ (by omega) (by omega) h4
  have sL1 : Srt (Tg lt) a st g1 := (hA.mono (Nat.le_refl _) hE0.1).eq v1
  have sL2 : Srt (Tg lt) st mid g1 := fun i j h1 h2 h3 => by rw [v2 i h1 (by omega), v2 j (by omega) h3]; exact hB _ _ (by omega) (by omega) (by omega)
  have sR1 : Srt (Tg lt) mid en g1 := fun i j h1 h2 h3 => by rw [v3 i h1 (by omega), v3 j (by omega) h3]; exact hA _ _ (by omega) (by omega) (by omega)
  have sR2 : Srt (Tg lt) en b g1 := (hB.mono hE0.2.2.2.1 (Nat.le_refl _)).eq v4
  refine ⟨fun _ w' => Chg (own? s) w w' ∧ ∃ g2, Rea a mid g1 g2 ∧ Own THost.cells 4 59 B w' s (tab n g2) ∧ Srt (Tg lt) a mid g2, ?_, ?_⟩
  · refine ⟨fun x w' => w' = w2 ∧ x = decide (a < st ∧ st < mid), ?_, ?_⟩
    · by_cases c : a < st
      · exact iteT (by omega) ⟨rfl, by
          by_cases c' : st < mid
          · simp [c, c']
          · simp [c, c']⟩
      · exact iteF (by omega) ⟨rfl, by simp [c]⟩
    rintro _ wq ⟨hwq, rfl⟩
    obtain rfl : w2 = wq := hwq.symm
    by_cases c : a < st ∧ st < mid
    · refine iteT (by simpa using c) ?_
      refine (ih a st mid w2 g1 (by omega) c.1 c.2 (by omega) hO1 hQ1 sL1 sL2 fun i j h1 h2 h3 h4 => ?_).mono ?_
      · rw [v1 i h1 h2, v2 j h3 h4]; exact htg _ _ h1 (by omega) (by omega) (by omega)
      · rintro _ w3 ⟨c3, g2, hr2, hO2, hs2⟩
        exact ⟨hC.trans c3, g2, hr2, hO2, hs2⟩
    · refine iteF (by simpa using c) ⟨hC, g1, Rea.refl _ _ _, hO1, ?_⟩
      by_cases c' : a < st
      · exact sL1.mono (Nat.le_refl _) (by omega)
      · exact sL2.mono (by omega) (Nat.le_refl _)
  rintro _ w3 ⟨hC3, g2, hr2, hO2, hs2⟩
  have hQ2 : ∀ i, i < n → Q (g2 i).1 := hr2.allN (p := fun x => Q x.1) (by omega) hQ1
  have v5 : ∀ i, mid ≤ i → g2 i = g1 i := fun i h => hr2.out (.inr h)
  have fin : ∀ {w' : World} {g3 : Nat → THost × Nat}, Chg (own? s) w w' → Rea mid b g2 g3 → Own THost.cells 4 59 B w' s (tab n g3) → Srt (Tg lt) mid b g3 → SortsHost B n a b s g w (Srt (Tg lt) a b) w' := fun {w' g3} hc3 hr3 hO3 hs3 => by
    refine ⟨hc3, g3, (hr.trans (hr2.mono (Nat.le_refl _) (by omega))).trans (hr3.mono (by omega) (Nat.le_refl _)), hO3, fun i j h1 h2 h3 => ?_⟩
    by_cases ci : mid ≤ i
    · exact hs3 i j ci h2 h3
    · rw [hr3.out (i := i) (by omega)]
      by_cases cj : mid ≤ j
      · obtain ⟨j', k1, k2, ej⟩ := hr3.src cj h3
        obtain ⟨i', l1, l2, ei⟩ := hr2.src h1 (by omega)
        rw [ej, ei, v5 j' k1]
        exact hcross i' j' l1 l2 k1 k2
      · rw [hr3.out (i := j) (by omega)]; exact hs2 i j h1 h2 (by omega)
  refine ⟨fun x w' => w' = w3 ∧ x = decide (mid < en ∧ en < b), ?_, ?_⟩
  · by_cases c : mid < en
    · exact iteT (by omega) ⟨rfl, by
        by_cases c' : en < b
        · simp [c, c']
        · simp [c, c']⟩
    · exact iteF (by omega) ⟨rfl, by simp [c]⟩
  rintro _ wq ⟨hwq, rfl⟩
  obtain rfl : w3 = wq := hwq.symm
  by_cases c : mid < en ∧ en < b
  · refine iteT (by simpa using c) ?_
    refine (ih mid en b w3 g2 (by omega) c.1 c.2 hb hO2 hQ2 (sR1.eq fun i h _ => v5 i h) (sR2.eq fun i h _ => v5 i (by omega)) fun i j h1 h2 h3 h4 => ?_).mono ?_
    · rw [v5 i h1, v5 j (by omega), v3 i h1 h2, v4 j h3 h4]; exact htg _ _ (by omega) (by omega) (by omega) h4
    · rintro _ w4 ⟨c4, g3, hr3, hO3, hs3⟩
      exact fin (hC3.trans c4) hr3 hO3 hs3
  · refine iteF (by simpa using c) (fin hC3 (Rea.refl _ _ _) hO2 ?_)
    by_cases c' : mid < en
    · exact (sR1.mono (Nat.le_refl _) (by omega)).eq fun i h _ => v5 i h
    · exact (sR2.mono (by omega) (Nat.le_refl _)).eq fun i h _ => v5 i h
theorem stableHost_ok (hc : CmpHost Q lt fv) (hwo : WO lt) (hn : n ≤ 70368744177664) (hO : Own THost.cells 4 59 B w s (tab n g)) (hQ : ∀ i, i < n → Q (g i).1) (htag : ∀ i j, i < j → j < n → (g i).2 < (g j).2) :
    Cal PP (fun _ : Unit => Value.tuple #[]) 113 #[s.v, .int .i64 (n : Int), fv] w fun _ w' => SortsHost B n 0 n s g w (Srt (Tg lt) 0 n) w' := by
  refine c113 ?_
  unfold f113
  refine Lp.mk (fun (y : Int × Int) w' => ∃ a : Nat, y.1 = a ∧ y.2 = (a : Int) + 20 ∧ Mul 20 a ∧ a ≤ n ∧ Chg (own? s) w w' ∧ ∃ g', Rea 0 a g g' ∧ Own THost.cells 4 59 B w' s (tab n g') ∧ (∀ c, Mul 20 c → Bdry n c g') ∧
      ∀ c, Mul 20 c → c + 20 ≤ a → Srt (Tg lt) c (c + 20) g') (fun y => n - y.1.toNat)
    ⟨0, rfl, rfl, Mul.zero _, Nat.zero_le _, Chg.refl _ _, g, Rea.refl _ _ _, hO, fun c _ x y h1 h2 h3 => htag x y (by omega) h3, fun c _ h => by omega⟩ ?_
  rintro ⟨_, _⟩ w1 K ⟨a, rfl, rfl, hma, han, hC, g1, hr, hO1, hbd, hso⟩ hK
  dsimp only at *
  have hQ1 : ∀ i, i < n → Q (g1 i).1 := hr.allN (p := fun x => Q x.1) han hQ
  have hup : ∀ i j, a ≤ i → i < j → j < n → (g1 i).2 < (g1 j).2 := fun i j h1 h2 h3 => by rw [hr.out (.inr h1), hr.out (.inr (by omega))]; exact htag i j h2 h3
  by_cases hlt : a + 20 ≤ n
  · refine iteT (by omega) ?_
    rw [show (a : Int) + 20 = ((a + 20 : Nat) : Int) by omega, wrapI (x := ((a + 20 : Nat) : Int) + 20) (by omega) (by omega)]
    refine (insertionHost_ok hc hwo (a := a) (b := a + 20) hn (by omega) hlt hO1 hQ1 fun i j h1 h2 h3 => hup i j h1 h2 (by omega)).mono ?_
    rintro _ w2 ⟨c2, g2, hr2, hO2, hs2⟩
    refine hK _ _ ⟨a + 20, rfl, by dsimp only, hma.add, hlt, hC.trans c2, g2, (hr.mono (Nat.le_refl _) (by omega)).trans (hr2.mono (by omega) (Nat.le_refl _)), hO2, fun c hmc => ?_, fun c hmc h => ?_⟩ (by dsimp only; omega)
    · refine (hbd c hmc).rea hr2 (by omega) ?_
      by_cases h : c ≤ a
      · exact .inl h
      · exact .inr (hma.gap hmc (by omega))
    · by_cases h' : c = a
      · rw [h']; exact hs2
      · have hlt' : c < a := by omega
        exact (hso c hmc (hmc.gap hma hlt')).rea hr2 (.inl (hmc.gap hma hlt'))
  refine iteF (by omega) ?_
  refine (insertionHost_ok hc hwo (a := a) (b := n) hn han (Nat.le_refl _) hO1 hQ1 fun i j h1 h2 h3 => hup i j h1 h2 h3).mono ?_
  rintro _ w2 ⟨c2, g2, hr2, hO2, hs2⟩
  -- sizes doubled
  have start : ∀ c, Mul 20 c → Bdry n c g2 ∧ Srt (Tg lt) c (min (c + 20) n) g2 := fun c hmc => by
    refine ⟨(hbd c hmc).rea hr2 (Nat.le_refl _) ?_, ?_⟩
    · by_cases h : c ≤ a
      · exact .inl h
      · right; have := hma.gap hmc (by omega); omega
    · by_cases h' : c = a
      · rw [h']; exact hs2.mono (Nat.le_refl _) (Nat.min_le_right _ _)
      · by_cases h : c < a
        · have hg := hmc.gap hma h
          exact ((hso c hmc hg).rea hr2 (.inl hg)).mono (Nat.le_refl _) (Nat.min_le_left _ _)
        · have := hma.gap hmc (by omega)
          intro i j h1 h2 h3; omega
  have hr02 : Rea 0 n g g2 := (hr.mono (Nat.le_refl _) han).trans (hr2.mono (Nat.zero_le _) (Nat.le_refl _))
  refine Lp.mk (fun (y : Int) w' => ∃ bs : Nat, y = bs ∧ 0 < bs ∧ bs ≤ 140737488355328 ∧ Chg (own? s) w w' ∧ ∃ g', Rea 0 n g g' ∧ Own THost.cells 4 59 B w' s (tab n g') ∧ ∀ c, Mul bs c → Bdry n c g' ∧ Srt (Tg lt) c (min (c + bs) n) g') (fun y => n - y.toNat)
    ⟨20, rfl, by omega, by omega, hC.trans c2, g2, hr02, hO2, start⟩ ?_
  clear hK start hr02 hs2 hO2 hr2 c2 hup hQ1 hso hbd hO1 hr hC
  rintro y w3 K ⟨bs, rfl, hbs, hbl, hC, g3, hr, hO3, hG⟩ hK
  by_cases hlt : bs < n
  · refine iteT (by omega) ?_
    rw [wrapI (x := 2 * (bs : Int)) (by omega) (by omega)]
    refine Lp.mk (fun (y : Int × Int) w' => ∃ a : Nat, y.1 = a ∧ y.2 = (a : Int) + 2 * bs ∧ Mul (2 * bs) a ∧ a ≤ n ∧ Chg (own? s) w w' ∧ ∃ g', Rea 0 n g g' ∧ Own THost.cells 4 59 B w' s (tab n g') ∧
        (∀ c, Mul bs c → a ≤ c → Bdry n c g' ∧ Srt (Tg lt) c (min (c + bs) n) g') ∧ (∀ c, Mul (2 * bs) c → Bdry n c g') ∧ ∀ c, Mul (2 * bs) c → c + 2 * bs ≤ a → Srt (Tg lt) c (c + 2 * bs) g') (fun y => n - y.1.toNat)
      ⟨0, rfl, by simp, Mul.zero _, Nat.zero_le _, hC, g3, hr, hO3, fun c hmc _ => hG c hmc, fun c hmc => (hG c hmc.two).1, fun c _ h => by omega⟩ ?_
    clear hG hO3 hr hC
    rintro ⟨_, _⟩ w4 K2 ⟨a, rfl, rfl, hma, han, hC, g4, hr, hO4, hG, hbd, hso⟩ hK2
    dsimp only at *
    have hQ4 : ∀ i, i < n → Q (g4 i).1 := hr.allN (p := fun x => Q x.1) (Nat.le_refl _) hQ
    rw [wrapI (x := (a : Int) + bs) (by omega) (by omega), show (a : Int) + bs = ((a + bs : Nat) : Int) by omega]
    by_cases hb : a + 2 * bs ≤ n
    · refine iteT (by omega) ?_
      rw [show (a : Int) + 2 * bs = ((a + 2 * bs : Nat) : Int) by omega]
      have s1 := (hG a hma.two (Nat.le_refl _)).2
      have g2' := hG (a + bs) hma.two.add (by omega)
      rw [Nat.min_eq_left (by omega)] at s1
      have s2 := g2'.2
      rw [show min (a + bs + bs) n = a + 2 * bs by omega] at s2
      refine (symMergeHost_ok hc hwo hn (2 * bs) a (a + bs) (a + 2 * bs) w4 g4 (by omega) (by omega) (by omega) hb hO4 hQ4 s1 s2 fun i j h1 h2 h3 h4 => g2'.1 i j h2 h3 (by omega)).mono ?_
      rintro _ w5 ⟨c5, g5, hr5, hO5, hs5⟩
      rw [wrapI (x := ((a + 2 * bs : Nat) : Int) + 2 * bs) (by omega) (by omega)]
      refine hK2 _ _ ⟨a + 2 * bs, rfl, by dsimp only, hma.add, hb, hC.trans c5, g5, hr.trans (hr5.mono (Nat.zero_le _) hb), hO5, fun c hmc h => ?_, fun c hmc => ?_, fun c hmc h => ?_⟩ (by dsimp only; omega)
      · obtain ⟨h1, h2⟩ := hG c hmc (by omega)
        exact ⟨h1.rea hr5 hb (.inr h), h2.rea hr5 (.inr h)⟩
      · refine (hbd c hmc).rea hr5 hb ?_
        by_cases h : c ≤ a
        · exact .inl h
        · exact .inr (hma.gap hmc (by omega))
      · by_cases h' : c = a
        · rw [h']; exact hs5
        · have hlt' : c < a := by
            have := hma
            by_cases h'' : a < c
            · have := hma.gap hmc h''; omega
            · omega
          exact (hso c hmc (hmc.gap hma hlt')).rea hr5 (.inl (hmc.gap hma hlt'))
    · refine iteF (by omega) ?_
      refine ⟨fun _ w' => Chg (own? s) w w' ∧ ∃ g5, Rea 0 n g g5 ∧ Own THost.cells 4 59 B w' s (tab n g5) ∧ ∀ c, Mul (2 * bs) c → Bdry n c g5 ∧ Srt (Tg lt) c (min (c + 2 * bs) n) g5, ?_, ?_⟩
      · have fin : ∀ {w' : World} {g5 : Nat → THost × Nat}, Chg (own? s) w w' → Rea a n g4 g5 → Own THost.cells 4 59 B w' s (tab n g5) → Srt (Tg lt) a n g5 →
            Chg (own? s) w w' ∧ ∃ g5, Rea 0 n g g5 ∧ Own THost.cells 4 59 B w' s (tab n g5) ∧ ∀ c, Mul (2 * bs) c → Bdry n c g5 ∧ Srt (Tg lt) c (min (c + 2 * bs) n) g5 := fun {w' g5} hc5 hr5 hO5 hs5 => by
          refine ⟨hc5, g5, hr.trans (hr5.mono (Nat.zero_le _) (Nat.le_refl _)), hO5, fun c hmc => ⟨?_, ?_⟩⟩
          · refine (hbd c hmc).rea hr5 (Nat.le_refl _) ?_
            by_cases h : c ≤ a
            · exact .inl h
            · right; have := hma.gap hmc (by omega); omega
          · by_cases h' : c = a
            · rw [h']; exact hs5.mono (Nat.le_refl _) (Nat.min_le_right _ _)
            · by_cases h : c < a
              · have hg := hmc.gap hma h
                exact ((hso c hmc hg).rea hr5 (.inl hg)).mono (Nat.le_refl _) (Nat.min_le_left _ _)
              · have := hma.gap hmc (by omega)
                intro i j h1 h2 h3; omega
        have s1 := (hG a hma.two (Nat.le_refl _)).2
        by_cases hm : a + bs < n
        · refine iteT (by omega) ?_
          have g2' := hG (a + bs) hma.two.add (by omega)
          rw [Nat.min_eq_left (by omega)] at s1
          have s2 := g2'.2
          rw [Nat.min_eq_right (by omega)] at s2
          refine (symMergeHost_ok hc hwo hn n a (a + bs) n w4 g4 (by omega) (by omega) hm (Nat.le_refl _) hO4 hQ4 s1 s2 fun i j h1 h2 h3 h4 => g2'.1 i j h2 h3 h4).mono ?_
          rintro _ w5 ⟨c5, g5, hr5, hO5, hs5⟩
          exact fin (hC.trans c5) hr5 hO5 hs5
        · refine iteF (by omega) ?_
          rw [Nat.min_eq_right (by omega)] at s1
          exact fin hC (Rea.refl _ _ _) hO4 s1
      rintro _ w5 ⟨hC5, g5, hr5, hO5, hG5⟩
      rw [wrapI (x := (bs : Int) * 2) (by omega) (by omega)]
      exact hK _ _ ⟨2 * bs, by omega, by omega, by omega, hC5, g5, hr5, hO5, hG5⟩ (by omega)
  · refine iteF (by omega) ⟨hC, g3, hr, hO3, ?_⟩
    have := (hG 0 (Mul.zero _)).2
    rw [Nat.min_eq_right (by omega)] at this; exact this
theorem sortStableHost_ok {ys : List THost} (hc : CmpHost Q lt fv) (hwo : WO lt) (hn : ys.length ≤ 70368744177664) (hO : Own THost.cells 4 59 B w s ys) (hQ : ∀ y ∈ ys, Q y) :
    Cal PP (fun _ : Unit => Value.tuple #[]) 77 #[s.v, fv] w fun _ w' => Chg (own? s) w w' ∧ Own THost.cells 4 59 B w' s (stb lt ys) := by
  refine c77 ?_
  unfold f77
  have e := tab_rowOf ys (⟨⟨#[]⟩, ⟨#[]⟩, Sl.nil, Sl.nil⟩ : THost)
  rw [hO.len]
  refine (stableHost_ok (n := ys.length) (g := rowOf ys ⟨⟨#[]⟩, ⟨#[]⟩, Sl.nil, Sl.nil⟩) hc hwo hn (by rw [e]; exact hO) (fun i hi => ?_) (fun i j h1 h2 => h1)).mono ?_
  · simp only [rowOf, List.getD_eq_getElem?_getD, List.getElem?_eq_getElem hi, Option.getD_some]
    exact hQ _ (List.getElem_mem hi)
  · rintro _ w' ⟨c, g', hr, hO', hs⟩
    rw [stb_of hwo hr hs] at hO'
    exact ⟨c, hO'⟩
end
end Go.Proofs.Ytdoeegfcmbcbkaa.Ct


namespace Go.Proofs.Ytdoeegfcmbcbkaa.Ct
open Go Go.Eng Tr
set_option linter.unusedVariables false
set_option maxRecDepth 100000

def LK (p q : Int × ByteArray) : Prop := p.1 < q.1 ∨ (p.1 = q.1 ∧ ((p.1 = 1 ∧ q.2.size < p.2.size) ∨ ((p.1 = 1 → p.2.size = q.2.size) ∧ sLt p.2 q.2 = true)))
theorem LK_iff {p q : Int × ByteArray} : ordK p q < 0 ↔ LK p q := by
  unfold ordK LK cmpS
  by_cases c1 : p.1 < q.1
  · simp [c1]
  · by_cases c2 : q.1 < p.1
    · have : ¬ p.1 = q.1 := by omega
      simp [c1, c2, this]
    · have c3 : p.1 = q.1 := by omega
      rw [if_neg c1, if_neg c2]
      by_cases c4 : p.1 = 1
      · by_cases c5 : q.2.size < p.2.size
        · rw [if_pos ⟨c4, c5⟩]; simp [c3, c5]; exact .inl (by omega)
        · rw [if_neg (fun h => c5 h.2)]
          by_cases c6 : p.2.size < q.2.size
          · rw [if_pos ⟨c4, c6⟩]
            constructor
            · intro h; omega
            · rintro (h | ⟨_, ⟨_, h⟩ | ⟨h, _⟩⟩)
              · omega
              · omega
              · have := h c4; omega
          · rw [if_neg (fun h => c6 h.2)]
            have c7 : p.2.size = q.2.size := by omega
            cases hs : sLt p.2 q.2 with
            | true => simp [c3, c7]
            | false =>
              cases hs' : sLt q.2 p.2 <;> simp [c1, c3, c7]
      · rw [if_neg (fun h => c4 h.1), if_neg (fun h => c4 h.1)]
        cases hs : sLt p.2 q.2 with
        | true => simp [c3]; intro h; omega
        | false =>
          cases hs' : sLt q.2 p.2 <;> simp [c1, c3] <;> omega
theorem LK_irr (p : Int × ByteArray) : ¬ LK p p := by
  rintro (h | ⟨_, ⟨_, h⟩ | ⟨_, h⟩⟩)
  · omega
  · omega
  · rw [sLt_irrefl] at h; cases h
theorem LK_tr {p q r : Int × ByteArray} (h : LK p q) (k : LK q r) : LK p r := by
  rcases h with h | ⟨h0, h⟩ <;> rcases k with k | ⟨k0, k⟩
  · exact .inl (by omega)
  · exact .inl (by omega)
  · exact .inl (by omega)
  · refine .inr ⟨by omega, ?_⟩
    rcases h with ⟨h1, h2⟩ | ⟨h1, h2⟩ <;> rcases k with ⟨k1, k2⟩ | ⟨k1, k2⟩
    · exact .inl ⟨h1, by omega⟩
    · have := k1 (by omega); exact .inl ⟨h1, by omega⟩
    · have h3 := h1 (by omega); exact .inl ⟨by omega, by omega⟩
    · exact .inr ⟨fun e => by have := h1 e; have := k1 (by omega); omega, sLt_trans h2 k2⟩
theorem LK_tot (p q : Int × ByteArray) : LK p q ∨ LK q p ∨ p = q := by
  by_cases c1 : p.1 < q.1
  · exact .inl (.inl c1)
  · by_cases c2 : q.1 < p.1
    · exact .inr (.inl (.inl c2))
    · have c3 : p.1 = q.1 := by omega
      by_cases c4 : p.1 = 1 ∧ q.2.size < p.2.size
      · exact .inl (.inr ⟨c3, .inl c4⟩)
      · by_cases c5 : p.1 = 1 ∧ p.2.size < q.2.size
        · exact .inr (.inl (.inr ⟨c3.symm, .inl ⟨by omega, c5.2⟩⟩))
        · have c6 : p.1 = 1 → p.2.size = q.2.size := fun h => by
            have h1 : ¬ q.2.size < p.2.size := fun h' => c4 ⟨h, h'⟩
            have h2 : ¬ p.2.size < q.2.size := fun h' => c5 ⟨h, h'⟩
            omega
          cases hs : sLt p.2 q.2 with
          | true => exact .inl (.inr ⟨c3, .inr ⟨c6, hs⟩⟩)
          | false =>
            cases hs' : sLt q.2 p.2 with
            | true => exact .inr (.inl (.inr ⟨c3.symm, .inr ⟨fun h => (c6 (by omega)).symm, hs'⟩⟩))
            | false => exact .inr (.inr (Prod.ext c3 (sLt_total hs hs')))
def ltH (a b : THost) : Bool := decide (ordS a.Host b.Host < 0)
theorem wo_host : WO ltH := by
  refine ⟨fun x => ?_, fun x y z h k => ?_, fun x y z h k => ?_⟩
  · have := LK_irr (hostS x.Host)
    rw [← LK_iff] at this
    exact decide_eq_false this
  · have h1 := LK_iff.1 (of_decide_eq_true h); have k1 := LK_iff.1 (of_decide_eq_true k)
    exact decide_eq_true (LK_iff.2 (LK_tr h1 k1))
  · have h1 : ¬ LK (hostS x.Host) (hostS y.Host) := fun h' => of_decide_eq_false h (LK_iff.2 h')
    have k1 : ¬ LK (hostS y.Host) (hostS z.Host) := fun h' => of_decide_eq_false k (LK_iff.2 h')
    refine decide_eq_false fun h' => ?_
    have hh := LK_iff.1 h'
    rcases LK_tot (hostS x.Host) (hostS y.Host) with c | c | c
    · exact h1 c
    · exact k1 (LK_tr c hh)
    · rw [c] at hh; exact k1 hh
theorem ordK_pos {p q : Int × ByteArray} : 0 < ordK p q ↔ ordK q p < 0 := by
  rw [LK_iff]
  have hval : ordK p q = -1 ∨ ordK p q = 0 ∨ ordK p q = 1 := by
    unfold ordK cmpS
    repeat' split
    all_goals simp
  constructor
  · intro h
    rcases LK_tot p q with c | c | c
    · have := LK_iff.2 c; omega
    · exact c
    · subst c
      have : ordK p p = 0 := by unfold ordK cmpS; simp [sLt_irrefl]
      omega
  · intro h
    have h1 : ¬ LK p q := fun c => LK_irr _ (LK_tr c h)
    have h2 : ¬ ordK p q < 0 := fun c => h1 (LK_iff.1 c)
    rcases hval with c | c | c
    · omega
    · exfalso
      rcases LK_tot p q with d | d | d
      · exact h1 d
      · -- neither 0 nor below: the cases are read off
        rcases h with h | ⟨h0, h⟩
        · unfold ordK at c
          rw [if_neg (by omega), if_pos h] at c; omega
        · unfold ordK at c
          rw [if_neg (by omega), if_neg (by omega)] at c
          rcases h with ⟨h3, h4⟩ | ⟨h3, h4⟩
          · rw [if_neg (by omega), if_pos ⟨by omega, h4⟩] at c; omega
          · have h5 : p.1 = 1 → p.2.size = q.2.size := fun e => (h3 (by omega)).symm
            rw [if_neg (fun e => by have := h5 e.1; omega), if_neg (fun e => by have := h5 e.1; omega)] at c
            have h6 : sLt p.2 q.2 = false := by
              cases e : sLt p.2 q.2 with
              | false => rfl
              | true => have := sLt_trans e h4; rw [sLt_irrefl] at this; cases this
            unfold cmpS at c
            rw [h6, h4] at c; simp at c
      · subst d; exact LK_irr _ h
    · omega
section
variable {w : World}
end
end Go.Proofs.Ytdoeegfcmbcbkaa.Ct


namespace Go.Proofs.Ytdoeegfcmbcbkaa.Ct
open Go Go.Eng Tr
set_option linter.unusedVariables false
set_option maxRecDepth 100000

def All2 {α β : Type} (R : α → β → Prop) : List α → List β → Prop
  | [], [] => True
  | x :: xs, y :: ys => R x y ∧ All2 R xs ys
  | _, _ => False
section
variable {α β : Type} {R R' : α → β → Prop}
theorem All2.len : ∀ {xs : List α} {ys : List β}, All2 R xs ys → xs.length = ys.length
  | [], [], _ => rfl
  | x :: xs, y :: ys, h => by simp [All2.len h.2]
  | [], _ :: _, h => h.elim
  | _ :: _, [], h => h.elim
theorem All2.mono (hm : ∀ x y, R x y → R' x y) : ∀ {xs : List α} {ys : List β}, All2 R xs ys → All2 R' xs ys
  | [], [], _ => trivial
  | x :: xs, y :: ys, h => ⟨hm x y h.1, All2.mono hm h.2⟩
  | [], _ :: _, h => h.elim
  | _ :: _, [], h => h.elim
theorem All2.get : ∀ {xs : List α} {ys : List β}, All2 R xs ys → ∀ k (h : k < xs.length) (h' : k < ys.length), R xs[k] ys[k]
  | x :: xs, y :: ys, h, 0, _, _ => h.1
  | x :: xs, y :: ys, h, k + 1, a, b => All2.get h.2 k (by simpa using a) (by simpa using b)
theorem All2.snoc : ∀ {xs : List α} {ys : List β}, All2 R xs ys → ∀ {x : α} {y : β}, R x y → All2 R (xs ++ [x]) (ys ++ [y])
  | [], [], _, _, _, h => ⟨h, trivial⟩
  | x :: xs, y :: ys, h, _, _, h' => ⟨h.1, All2.snoc h.2 h'⟩
  | [], _ :: _, h, _, _, _ => h.elim
  | _ :: _, [], h, _, _, _ => h.elim
theorem All2.ins {lt : α → α → Bool} {lt' : β → β → Bool} (hc : ∀ x x' y y', R x y → R x' y' → lt x x' = lt' y y') {x : α} {y : β} (hxy : R x y) : ∀ {xs : List α} {ys : List β}, All2 R xs ys → All2 R (ins lt x xs) (ins lt' y ys)
  | [], [], _ => ⟨hxy, trivial⟩
  | x' :: xs, y' :: ys, h => by
    unfold Eng.ins
    rw [hc x x' y y' hxy h.1]
    by_cases c : lt' y y' = true
    · rw [if_pos c, if_pos c]; exact ⟨hxy, h⟩
    · rw [if_neg c, if_neg c]; exact ⟨h.1, All2.ins hc hxy h.2⟩
  | [], _ :: _, h => h.elim
  | _ :: _, [], h => h.elim
theorem All2.stb {lt : α → α → Bool} {lt' : β → β → Bool} (hc : ∀ x x' y y', R x y → R x' y' → lt x x' = lt' y y') {xs : List α} {ys : List β} (h : All2 R xs ys) : All2 R (stb lt xs) (stb lt' ys) := by
  unfold Eng.stb
  have : ∀ {xs : List α} {ys : List β} {o : List α} {o' : List β}, All2 R o o' → All2 R xs ys → All2 R (xs.foldl (fun out x => Eng.ins lt x out) o) (ys.foldl (fun out x => Eng.ins lt' x out) o') := by
    intro xs
    induction xs with
    | nil => intro ys o o' ho h; cases ys with | nil => exact ho | cons => exact h.elim
    | cons x xs ih => intro ys o o' ho h; cases ys with | nil => exact h.elim | cons y ys => exact ih (ys := ys) (o := Eng.ins lt x o) (o' := Eng.ins lt' y o') (All2.ins hc h.1 ho) h.2
  exact this trivial h
end
section
variable {α : Type} {lt : α → α → Bool}
theorem stb_pw (h : WO lt) (ys : List α) : ∀ i j (hi : i < (stb lt ys).length) (hj : j < (stb lt ys).length), i < j → lt (stb lt ys)[j] (stb lt ys)[i] = false := by
  obtain ⟨h1, h2, _⟩ := stb_tag h ys
  rw [List.pairwise_iff_getElem] at h2
  intro i j hi hj hij
  have hl : (stb (ltp lt) (tag ys)).length = (stb lt ys).length := by rw [← h1, List.length_map]
  have ei : (stb lt ys)[i] = ((stb (ltp lt) (tag ys))[i]'(by omega)).1 := by simp only [← h1, List.getElem_map]
  have ej : (stb lt ys)[j] = ((stb (ltp lt) (tag ys))[j]'(by omega)).1 := by simp only [← h1, List.getElem_map]
  rw [ei, ej]
  rcases h2 i j (by omega) (by omega) hij with h | ⟨h, _⟩
  · have := WO.asym ‹WO lt› h; exact this
  · exact h
theorem mem_stb {ys : List α} {x : α} : x ∈ stb lt ys ↔ x ∈ ys := by
  have : ∀ n, n ≤ ys.length → (x ∈ stb lt (ys.take n) ↔ x ∈ ys.take n) := by
    intro n
    induction n with
    | zero => intro _; simp [stb]
    | succ n ih =>
      intro hn
      have e : ys.take (n + 1) = ys.take n ++ [ys[n]] := by rw [List.take_add_one, List.getElem?_eq_getElem (by omega)]; rfl
      rw [e, stb_snoc, mem_ins, ih (by omega), List.mem_append, List.mem_singleton]
      exact ⟨fun h => h.elim .inr .inl, fun h => h.elim .inr .inl⟩
  have := this ys.length (Nat.le_refl _)
  rwa [List.take_length] at this
theorem ins_len (x : α) : ∀ l : List α, (ins lt x l).length = l.length + 1
  | [] => rfl
  | y :: l => by
    unfold ins; split
    · rfl
    · simp [ins_len x l]
theorem stb_len (ys : List α) : (stb lt ys).length = ys.length := by
  have : ∀ n, n ≤ ys.length → (stb lt (ys.take n)).length = n := by
    intro n
    induction n with
    | zero => intro _; simp [stb]
    | succ n ih =>
      intro hn
      have e : ys.take (n + 1) = ys.take n ++ [ys[n]] := by rw [List.take_add_one, List.getElem?_eq_getElem (by omega)]; rfl
      rw [e, stb_snoc, ins_len, ih (by omega)]
  have := this ys.length (Nat.le_refl _)
  rwa [List.take_length] at this
end

structure DEntry where
  path : ByteArray
  method : ByteArray
  shares : List SH
structure DHost where
  host : ByteArray
  route : ByteArray
  entries : List DEntry
  permits : List TPermit
structure DTab where
  version : Int
  hosts : List DHost
  services : List ByteArray
structure EntD (F : Nat → Prop) (w : World) (e : TEntry) (d : DEntry) : Prop where
  path : e.Path = d.path
  method : e.Method = d.method
  shares : ∃ xs, Rd TShare.cells 2 F w e.Shares xs ∧ ShD xs d.shares
structure HostD (F : Nat → Prop) (w : World) (h : THost) (d : DHost) : Prop where
  host : h.Host = d.host
  route : h.Route = d.route
  entries : ∃ es, Rd TEntry.cells 3 F w h.Entries es ∧ All2 (EntD F w) es d.entries
  permits : Rd TPermit.cells 3 F w h.Permits d.permits
structure TabD (F : Nat → Prop) (w : World) (t : TTables) (d : DTab) : Prop where
  version : t.Version = d.version
  hosts : ∃ hs, Rd THost.cells 4 F w t.Hosts hs ∧ All2 (HostD F w) hs d.hosts
  services : Rd bs 1 F w t.Services d.services
section
variable {F G S : Nat → Prop} {w w' : World} {e : TEntry} {de : DEntry} {h : THost} {dh : DHost} {t : TTables} {dt : DTab}
theorem EntD.chg (hh : EntD F w e de) (k : Chg S w w') (hs : ∀ b, F b → b < w.heap.size → ¬ S b) : EntD F w' e de := ⟨hh.path, hh.method, let ⟨xs, r, d⟩ := hh.shares; ⟨xs, r.chg k hs, d⟩⟩
theorem EntD.mono (hh : EntD F w e de) (hF : ∀ b, F b → G b) : EntD G w e de := ⟨hh.path, hh.method, let ⟨xs, r, d⟩ := hh.shares; ⟨xs, r.mono hF, d⟩⟩
theorem HostD.chg (hh : HostD F w h dh) (k : Chg S w w') (hs : ∀ b, F b → b < w.heap.size → ¬ S b) : HostD F w' h dh :=
  ⟨hh.host, hh.route, let ⟨es, r, d⟩ := hh.entries; ⟨es, r.chg k hs, d.mono fun _ _ x => x.chg k hs⟩, hh.permits.chg k hs⟩
theorem HostD.mono (hh : HostD F w h dh) (hF : ∀ b, F b → G b) : HostD G w h dh := ⟨hh.host, hh.route, let ⟨es, r, d⟩ := hh.entries; ⟨es, r.mono hF, d.mono fun _ _ x => x.mono hF⟩, hh.permits.mono hF⟩
theorem HostD.ext (hh : HostD F w h dh) (k : Ext w w') : HostD F w' h dh := hh.chg (k.chg fun _ => False) (fun _ _ _ h => h)
theorem TabD.chg (hh : TabD F w t dt) (k : Chg S w w') (hs : ∀ b, F b → b < w.heap.size → ¬ S b) : TabD F w' t dt :=
  ⟨hh.version, let ⟨es, r, d⟩ := hh.hosts; ⟨es, r.chg k hs, d.mono fun _ _ x => x.chg k hs⟩, hh.services.chg k hs⟩
theorem TabD.mono (hh : TabD F w t dt) (hF : ∀ b, F b → G b) : TabD G w t dt := ⟨hh.version, let ⟨es, r, d⟩ := hh.hosts; ⟨es, r.mono hF, d.mono fun _ _ x => x.mono hF⟩, hh.services.mono hF⟩
theorem TabD.ext (hh : TabD F w t dt) (k : Ext w w') : TabD F w' t dt := hh.chg (k.chg fun _ => False) (fun _ _ _ h => h)
end

theorem oc_entry (x : TEntry) : ∀ u ∈ TEntry.cells x, u.oneCell' = true := by simp [TEntry.cells, Value.oneCell', Sl.v]
theorem oc_permit (x : TPermit) : ∀ u ∈ TPermit.cells x, u.oneCell' = true := by simp [TPermit.cells, Value.oneCell']
theorem oc_host (x : THost) : ∀ u ∈ THost.cells x, u.oneCell' = true := by simp [THost.cells, Value.oneCell', Sl.v]
theorem oc_tab (x : TTables) : ∀ u ∈ TTables.cells x, u.oneCell' = true := by simp [TTables.cells, Value.oneCell', Sl.v]
structure HW (B b7 : Nat) (w : World) (hn rn : ByteArray) (es ps : Sl) (xs : List TEntry) (ds : List DEntry) (pl : List TPermit) : Prop where
  hb : Blk w b7 59 (THost.cells ⟨hn, rn, es, ps⟩)
  lo : B ≤ b7
  eo : Own TEntry.cells 3 61 B w es xs
  po : Own TPermit.cells 3 89 B w ps pl
  e7 : ∀ b, own? es b → b ≠ b7
  p7 : ∀ b, own? ps b → b ≠ b7
  ep : ∀ b, own? es b → ¬ own? ps b
  el : All2 (EntD (fun b => (B ≤ b ∧ b < w.heap.size) ∧ b ≠ b7 ∧ ¬ own? es b ∧ ¬ own? ps b) w) xs ds
section
variable {B b7 : Nat} {w w' : World} {hn rn : ByteArray} {es ps : Sl} {xs : List TEntry} {ds : List DEntry} {pl : List TPermit} {S : Nat → Prop}
theorem HW.chg (h : HW B b7 w hn rn es ps xs ds pl) (k : Chg S w w') (hs : ∀ b, B ≤ b → b < w.heap.size → ¬ S b) : HW B b7 w' hn rn es ps xs ds pl :=
  ⟨h.hb.chg k (hs _ h.lo h.hb.lt), h.lo, h.eo.chg k (fun b hb => hs b (h.eo.ge hb).1 (h.eo.ge hb).2), h.po.chg k (fun b hb => hs b (h.po.ge hb).1 (h.po.ge hb).2), h.e7, h.p7, h.ep,
    h.el.mono fun x y e => (e.chg k (fun b hb _ => hs b hb.1.1 hb.1.2)).mono fun b hb => ⟨⟨hb.1.1, by have := k.size; omega⟩, hb.2⟩⟩
theorem HW.ext (h : HW B b7 w hn rn es ps xs ds pl) (k : Ext w w') : HW B b7 w' hn rn es ps xs ds pl := h.chg (k.chg fun _ => False) (fun _ _ _ h => h)
theorem HW.done (h : HW B b7 w hn rn es ps xs ds pl) : HostD (fun b => B ≤ b ∧ b < w.heap.size) w ⟨hn, rn, es, ps⟩ ⟨hn, rn, ds, pl⟩ :=
  ⟨rfl, rfl, ⟨xs, h.eo.rd (fun b hb => h.eo.ge hb), h.el.mono fun x y e => e.mono fun b hb => hb.1⟩, h.po.rd (fun b hb => h.po.ge hb)⟩
theorem HW.entry (h : HW B b7 w hn rn es ps xs ds pl) {x : TEntry} {d : DEntry} (hx : EntD (fun b => (B ≤ b ∧ b < w.heap.size) ∧ b ≠ b7 ∧ ¬ own? es b ∧ ¬ own? ps b) w x d) (hlen : xs.length ≤ 1048576) (hB : B ≤ w.heap.size) {K : World → Prop}
    (hK : ∀ w' es', Chg (fun b => b = b7 ∨ own? es b) w w' → HW B b7 w' hn rn es' ps (xs ++ [x]) (ds ++ [d]) pl → K w') :
    New 61 (TEntry.cells x) w fun b116 w => Rn PP Sl.v (Builtin.append_ #[56, 56] 56 #[(Sl.v es), (Sl.v (⟨some ⟨b116, 0, none⟩, 1, 1⟩ : Sl))]) w fun t117 w =>
      RnU PP (Instr.storeAt 56 (Ptr ((⟨b7, 0, none⟩ : Addr).add 2)) (Sl.v t117)) w K := by
  refine New.mk fun b1 w1 e1 h1 n1 s1 => ?_
  have h' := h.ext e1
  have g1 := e1.size
  refine rn_app1 (x := x) el56 h'.eo h1 rfl rfl (oc_entry _) (by omega) (by decide) (by omega) fun es' w2 O2 c2 n2 => ?_
  have g2 := c2.size
  have hb7 := h.hb.lt
  refine rnu_st (b := b7) (o := 2) rfl (h'.hb.chg c2 (fun ho => h.e7 _ ho rfl)) [Sl.v es'] sz56 rfl (by simp [Sl.v, Value.oneCell']) (by simp [THost.cells]) fun w3 c3 s3 hb3 => ?_
  replace hb3 : Blk w3 b7 59 (THost.cells ⟨hn, rn, es', ps⟩) := hb3
  have g3 := c3.size
  have ns : ∀ b, own? es' b → (own? es b ∨ b = w1.heap.size) ∧ b < w2.heap.size := fun b hb => ⟨n2 b hb, (O2.ge hb).2⟩
  have oe : ∀ b, own? es b → B ≤ b ∧ b < w.heap.size := fun b hb => h.eo.ge hb
  have op : ∀ b, own? ps b → B ≤ b ∧ b < w.heap.size := fun b hb => h.po.ge hb
  have he7 : ∀ b, own? es' b → b ≠ b7 := fun b hb => by
    rcases (ns b hb).1 with k | k
    · exact h.e7 b k
    · omega
  have hep : ∀ b, own? es' b → ¬ own? ps b := fun b hb hp => by
    rcases (ns b hb).1 with k | k
    · exact h.ep b k hp
    · have := (op b hp).2; omega
  refine hK w3 es' (((e1.chg _).trans (c2.mono fun b _ hb => .inr hb)).trans (c3.mono fun b _ hb => .inl hb)) ⟨hb3, h.lo, O2.chg c3 (fun b hb he => he7 b hb he), (h'.po.chg c2 (fun b hb he => h.ep b he hb)).chg c3 (fun b hb he => h.p7 b hb he), he7, h.p7, hep, ?_⟩
  have carry : ∀ {y : TEntry} {dy : DEntry}, EntD (fun b => (B ≤ b ∧ b < w.heap.size) ∧ b ≠ b7 ∧ ¬ own? es b ∧ ¬ own? ps b) w y dy → EntD (fun b => (B ≤ b ∧ b < w3.heap.size) ∧ b ≠ b7 ∧ ¬ own? es' b ∧ ¬ own? ps b) w3 y dy := fun {y dy} hy =>
    (((hy.chg (e1.chg (fun _ => False)) (fun _ _ _ h => h)).chg c2 (fun b hb _ => hb.2.2.1)).chg c3 (fun b hb _ => hb.2.1)).mono fun b hb => ⟨⟨hb.1.1, by have := hb.1.2; omega⟩, hb.2.1, fun ho => by
      rcases (ns b ho).1 with k | k
      · exact hb.2.2.1 k
      · have := hb.1.2; omega, hb.2.2.2⟩
  exact (h.el.mono fun _ _ hy => carry hy).snoc (carry hx)
theorem HW.permit (h : HW B b7 w hn rn es ps xs ds pl) {x : TPermit} (hlen : pl.length ≤ 1048576) (hB : B ≤ w.heap.size) {K : World → Prop}
    (hK : ∀ w' ps', Chg (fun b => b = b7 ∨ own? ps b) w w' → HW B b7 w' hn rn es ps' xs ds (pl ++ [x]) → (∀ b, own? ps' b → own? ps b ∨ w.heap.size ≤ b) → K w') :
    New 89 (TPermit.cells x) w fun b116 w => Rn PP Sl.v (Builtin.append_ #[57, 57] 57 #[(Sl.v ps), (Sl.v (⟨some ⟨b116, 0, none⟩, 1, 1⟩ : Sl))]) w fun t117 w =>
      RnU PP (Instr.storeAt 57 (Ptr ((⟨b7, 0, none⟩ : Addr).add 3)) (Sl.v t117)) w K := by
  refine New.mk fun b1 w1 e1 h1 n1 s1 => ?_
  have h' := h.ext e1
  have g1 := e1.size
  refine rn_app1 (x := x) el57 h'.po h1 rfl rfl (oc_permit _) (by omega) (by decide) (by omega) fun ps' w2 O2 c2 n2 => ?_
  have g2 := c2.size
  have hb7 := h.hb.lt
  refine rnu_st (b := b7) (o := 3) rfl (h'.hb.chg c2 (fun ho => h.p7 _ ho rfl)) [Sl.v ps'] sz57 rfl (by simp [Sl.v, Value.oneCell']) (by simp [THost.cells]) fun w3 c3 s3 hb3 => ?_
  replace hb3 : Blk w3 b7 59 (THost.cells ⟨hn, rn, es, ps'⟩) := hb3
  have g3 := c3.size
  have ns : ∀ b, own? ps' b → (own? ps b ∨ b = w1.heap.size) ∧ b < w2.heap.size := fun b hb => ⟨n2 b hb, (O2.ge hb).2⟩
  have oe : ∀ b, own? es b → B ≤ b ∧ b < w.heap.size := fun b hb => h.eo.ge hb
  have op : ∀ b, own? ps b → B ≤ b ∧ b < w.heap.size := fun b hb => h.po.ge hb
  have hp7 : ∀ b, own? ps' b → b ≠ b7 := fun b hb => by
    rcases (ns b hb).1 with k | k
    · exact h.p7 b k
    · omega
  have hep : ∀ b, own? es b → ¬ own? ps' b := fun b hb hp => by
    rcases (ns b hp).1 with k | k
    · exact h.ep b hb k
    · have := (oe b hb).2; omega
  refine hK w3 ps' (((e1.chg _).trans (c2.mono fun b _ hb => .inr hb)).trans (c3.mono fun b _ hb => .inl hb)) ⟨hb3, h.lo, (h'.eo.chg c2 (fun b hb he => h.ep b hb he)).chg c3 (fun b hb he => h.e7 b hb he), O2.chg c3 (fun b hb he => hp7 b hb he), h.e7, hp7, hep, ?_⟩ (fun b hb => (n2 b hb).imp id fun h => by omega)
  exact h.el.mono fun _ _ hy => (((hy.chg (e1.chg (fun _ => False)) (fun _ _ _ h => h)).chg c2 (fun b hb _ => hb.2.2.2)).chg c3 (fun b hb _ => hb.2.1)).mono fun b hb => ⟨⟨hb.1.1, by have := hb.1.2; omega⟩, hb.2.1, hb.2.2.1, fun ho => by
      rcases (ns b ho).1 with k | k
      · exact hb.2.2.2 k
      · have := hb.1.2; omega⟩
end
end Go.Proofs.Ytdoeegfcmbcbkaa.Ct


namespace Go.Proofs.Ytdoeegfcmbcbkaa.Ct
open Go Go.Eng Tr
set_option linter.unusedVariables false
set_option maxRecDepth 100000

section
variable {α β : Type} {R : α → β → Prop}
theorem All2.of : ∀ {xs : List α} {ys : List β}, xs.length = ys.length → (∀ k (h : k < xs.length) (h' : k < ys.length), R xs[k] ys[k]) → All2 R xs ys
  | [], [], _, _ => trivial
  | x :: xs, y :: ys, hl, h => ⟨h 0 (by simp) (by simp), All2.of (by simpa using hl) fun k a b => h (k + 1) (by simpa using a) (by simpa using b)⟩
  | [], _ :: _, hl, _ => by simp at hl
  | _ :: _, [], hl, _ => by simp at hl
theorem All2.filter {p : α → Bool} {q : β → Bool} (hc : ∀ x y, R x y → p x = q y) : ∀ {xs : List α} {ys : List β}, All2 R xs ys → All2 R (xs.filter p) (ys.filter q)
  | [], [], _ => trivial
  | x :: xs, y :: ys, h => by
    rw [List.filter_cons, List.filter_cons, hc x y h.1]
    split
    · exact ⟨h.1, All2.filter hc h.2⟩
    · exact All2.filter hc h.2
  | [], _ :: _, h => h.elim
  | _ :: _, [], h => h.elim
end
def dk (k : Int) (l : List DRes) : List DRes := l.filter fun d => decide (d.kind = k)
def entD (l : List DRes) (r : TRule) : DEntry := ⟨r.Path, r.Method, stepsS (shF l r.Split)⟩
def permD (d : DRes) : List TPermit := d.rules.map fun r => ⟨r.Path, r.Method, r.Allow⟩
def permAt (n : ByteArray) (d : DRes) : List TPermit := if d.route = n then permD d else []
def permS (l : List DRes) (n : ByteArray) : List TPermit := (dk 4 l).flatMap (permAt n)
def hostD (l : List DRes) (d : DRes) : DHost := ⟨d.host, d.name, d.rules.map (entD l), permS l d.name⟩
def ltD (a b : DHost) : Bool := decide (ordS a.host b.host < 0)
def hostsS (l : List DRes) : List DHost := stb ltD ((dk 3 l).map (hostD l))
def servS (l : List DRes) : List ByteArray := (dk 1 l).map (·.name)
theorem tot_filter (k : Int) : ∀ l : List DRes, tot (dk k l) ≤ tot l
  | [] => Nat.le_refl _
  | d :: l => by
    have := tot_filter k l
    unfold dk at *
    rw [List.filter_cons]
    split <;> simp only [tot, List.map_cons, List.sum_cons] at * <;> omega
theorem tot_upto : ∀ (l : List DRes) (k : Nat) (h : k < l.length), tot (l.take k) + l[k].rules.length ≤ tot l
  | d :: l, 0, _ => by simp [tot]
  | d :: l, k + 1, h => by
    have := tot_upto l k (by simpa using h)
    simp only [tot, List.take_succ_cons, List.map_cons, List.sum_cons, List.getElem_cons_succ] at *
    omega
theorem perm_len (n : ByteArray) : ∀ l : List DRes, (l.flatMap (permAt n)).length ≤ tot l
  | [] => Nat.le_refl _
  | d :: l => by
    have := perm_len n l
    have h0 : (permAt n d).length ≤ d.rules.length := by
      unfold permAt; split
      · simp [permD]
      · simp
    simp only [List.flatMap_cons, List.length_append, tot, List.map_cons, List.sum_cons] at *
    omega
def Ruled (l : List DRes) : Prop := ∀ d ∈ l, d.kind = 3 → ∀ t ∈ d.rules, (splitOf l t.Split).isSome = true
theorem fault_ruled {l : List DRes} (h : (faultM l).Err = 0) : Ruled l := by
  by_cases c1 : 0 ≤ fst? (outAt l) l.length
  · rw [fs_out c1] at h; cases h
  by_cases c2 : 64 < l.length
  · rw [fs_big c1 c2] at h; cases h
  have hd1 : ∀ i, i < l.length → dangAt l i = false := by
    intro j
    induction j using Nat.strongRecOn with
    | ind j ih =>
      intro hj
      cases c : dangAt l j with
      | false => rfl
      | true => rw [fs_dang c1 c2 hj c fun i hi => ih i hi (by omega)] at h; cases h
  intro d hd h3 t ht
  obtain ⟨i, hi, rfl⟩ := List.mem_iff_getElem.1 hd
  have k1 := hd1 i hi
  rw [dangAt_eq hi] at k1
  have k2 : dang (has l) l[i] < 0 := by simpa using k1
  unfold dang at k2
  rw [if_neg (by omega), if_pos h3] at k2
  have k3 : fst? (badR (has l) l[i].rules) l[i].rules.length < 0 := by
    by_cases c : fst? (badR (has l) l[i].rules) l[i].rules.length < 0
    · exact c
    · unfold line? at k2; rw [if_neg c] at k2; omega
  obtain ⟨j, hj, rfl⟩ := List.mem_iff_getElem.1 ht
  have k4 := fst?_neg k3 j hj
  rw [badR_eq hj] at k4
  exact has_split (by simpa using k4)
section
variable {w w0 : World} {F G : Nat → Prop} {s : Sl} {rs : List TResource} {l : List DRes}
theorem rnl_get {κ ν : Type} [DecidableEq κ] {ek : κ → Value} {ev : ν → Value} {mt kt et b : Nat} {z : ν} {m : List (κ × ν)} {K : ν → Prop} {k : κ} (ht : MapT PP mt kt et ek ev z) (h : Mp ek ev w0 b m) (hk : K ((mget m k).getD z)) :
    RnL PP ev (Instr.lookup mt (.map (some b)) (ek k) false) w0 K := ⟨_, fun w e => lookup_run ht (h.ext e) k, hk⟩
theorem ConfD.all2 (h : ConfD F w s rs l) : All2 (ResD F w) rs l := All2.of h.len h.el
theorem ConfD.kind2 (h : ConfD F w s rs l) (k : Int) : All2 (ResD F w) (ofKind k rs) (dk k l) := h.all2.filter fun x y e => by rw [e.kind]
theorem host_ok76 (h : ConfD F w s rs l) (hf : Fine l) (hr : Ruled l) (ht : tot l ≤ 1048576) {b : Nat} {m : List (ByteArray × Sl)} {Q : Nat → Prop} (hD : DoneI Q l b w m)
    (hall : ∀ n, (splitOf l n).isSome = true → n ∈ mkeys m) {r : TResource} {d : DRes} (hrd : ResD G w r d) (hd : d ∈ l) (h3 : d.kind = 3) :
    Cal PP THost.v 76 #[s.v, .map (some b), r.v] w fun x w' => Ext w w' ∧ HostD (fun b => w.heap.size ≤ b ∧ b < w'.heap.size) w' x (hostD l d) := by
  have hl := h.low
  have hru : Rd TRule.cells 4 (fun b => b < w.heap.size) w r.Rules d.rules := (Rd.low hrd.rules (fun _ => by simp [TRule.cells])).mono fun b hb => hb.2
  refine c76 ?_
  unfold f76
  have hrl : rs.length ≤ 64 := by rw [h.len]; exact hf.few
  have hfew := hf.few
  have hdr : d.rules.length ≤ tot l := by
    obtain ⟨i, hi, rfl⟩ := List.mem_iff_getElem.1 hd
    have := tot_upto l i hi; omega
  refine New.mk fun b5 w1 e1 h5 n5 s5 => ?_
  refine New.mk fun b6 w2 e2 h6 n6 s6 => ?_
  refine rn_blk (x := r.Host) one9 (h5.ext e2) rfl rfl ?_
  refine rn_blk (x := r.Name) one9 (h5.ext e2) rfl rfl ?_
  refine New.var (THost.cells ⟨r.Host, r.Name, Sl.nil, Sl.nil⟩) sz59 rfl (oc_host _) rfl fun b7 w3 e3 h7 nb7 => ?_
  have h5' := (h5.ext e2).ext e3
  have h6' := h6.ext e3
  have E3 := (e1.trans e2).trans e3
  refine rn_blk (x := r.Rules) one46 h5' rfl rfl ?_
  have g1 := e1.size; have g2 := e2.size; have g3 := e3.size
  have hW0 : HW w2.heap.size b7 w3 r.Host r.Name Sl.nil Sl.nil [] [] [] := ⟨h7, nb7, Own.nil_ _ _, Own.nil_ _ _, (fun b ⟨a, ha, _⟩ => by cases ha), (fun b ⟨a, ha, _⟩ => by cases ha), (fun b ⟨a, ha, _⟩ => by cases ha), trivial⟩
  refine Lp.mk (fun (i : Int) w' => ∃ (k : Nat) (es : Sl) (xs : List TEntry), i = k ∧ k ≤ d.rules.length ∧ Chg (fun b => w2.heap.size ≤ b) w3 w' ∧ HW w2.heap.size b7 w' r.Host r.Name es Sl.nil xs ((d.rules.take k).map (entD l)) []) (fun i => d.rules.length - i.toNat)
    ⟨0, _, _, rfl, Nat.zero_le _, Chg.refl _ _, hW0⟩ ?_
  clear hW0
  rintro i w4 K ⟨k, es, xs, rfl, hk, C4, hW⟩ hK
  have E4 : Ext w w4 := E3.then C4 (fun b hb => by omega)
  have g4 := C4.size
  by_cases hlt : k < d.rules.length
  · rw [if_pos (by rw [hru.len]; omega)]
    refine rnp_idx sl46 (hru.ext E4) hlt rfl fun p _ hp => ?_
    refine rn_ldN (x := d.rules[k]) many91 hp rfl rfl ?_
    refine New.var (TRule.cells d.rules[k]) sz91 rfl (oc_rule _) rfl fun b9 w5 e5 h9 nb9 => ?_
    refine Dr.mk fun w6 e6 _ => ?_
    have E46 := e5.trans e6
    have hW6 := hW.ext E46
    have h9' := h9.ext e6
    refine rnl_blk (x := es) one56 hW6.hb rfl rfl ?_
    refine rnl_blk (x := d.rules[k].Path) one9 h9' rfl rfl ?_
    refine rnl_blk (x := d.rules[k].Method) one9 h9' rfl rfl ?_
    refine rnl_blk (x := d.rules[k].Split) one9 h9' rfl rfl ?_
    have hD6 := (hD.ext E4).ext E46
    refine rnl_get (k := d.rules[k].Split) mapT97 hD6.mp ?_
    have hsp := hr d hd h3 _ (List.getElem_mem hlt)
    have hn := hall _ hsp
    cases hg : mget m d.rules[k].Split with
    | none => exact absurd hn (mget_none.1 hg)
    | some u =>
      obtain ⟨ys, ry, dy⟩ := hD6.el _ u hg
      have hok := (sh_ok hf.stand 9 d.rules[k].Split).len
      refine (steps_ok ry dy (by unfold shF; omega)).mono ?_
      rintro t36 w7 ⟨e7, zs, O7, d7⟩
      refine ⟨e7, ?_⟩
      have g5 := e5.size; have g6 := e6.size; have g7 := e7.size
      have hxl : xs.length = k := by rw [hW.el.len]; simp; omega
      refine HW.entry (hW6.ext e7) (x := ⟨d.rules[k].Path, d.rules[k].Method, t36⟩) (d := entD l d.rules[k]) ⟨rfl, rfl, zs, O7.rd fun b hb => ?_, d7⟩ (by omega) (by omega) fun w8 es' c8 hW8 => ?_
      · have q := O7.ge hb
        have h7lt := hW.hb.lt
        refine ⟨⟨by omega, q.2⟩, by omega, fun ho => ?_, fun ⟨a, ha, _⟩ => by cases ha⟩
        have h9 := (hW.eo.ge ho).2; omega
      · rw [hru.wr hlt]
        have c48 : Chg (fun b => w2.heap.size ≤ b) w4 w8 := ((E46.trans e7).chg _).trans (c8.mono fun b _ hb => by
          rcases hb with hb | hb
          · subst hb; exact hW.lo
          · exact (hW.eo.ge hb).1)
        refine hK _ _ ⟨k + 1, es', xs ++ [⟨d.rules[k].Path, d.rules[k].Method, t36⟩], rfl, hlt, C4.trans c48, ?_⟩ (by omega)
        rw [List.take_add_one, List.getElem?_eq_getElem hlt, List.map_append]
        exact hW8
  · rw [if_neg (by rw [hru.len]; omega)]
    obtain rfl : k = d.rules.length := by omega
    rw [List.take_length] at hW
    clear hK
    refine (named_ok (h.rd.ext E4) 4 (by omega)).mono ?_
    rintro t43 w5 ⟨e5, O5⟩
    have E5 := E4.trans e5
    have g5 := e5.size
    have hT := O5.rd (F := fun b => w4.heap.size ≤ b ∧ b < w5.heap.size) (fun b hb => O5.ge hb)
    have hA : All2 (ResD (fun b => b < w.heap.size) w) (ofKind 4 rs) (dk 4 l) := (hl.kind2 4).mono fun _ _ x => x.mono fun b hb => hb.2
    have hperm := perm_len d.name (dk 4 l)
    have htf := tot_filter 4 l
    have hAl := hA.len
    generalize hts : ofKind 4 rs = ts at hT hA hAl
    have hps : permS l d.name = (dk 4 l).flatMap (permAt d.name) := rfl
    generalize hds : dk 4 l = ds at hA hAl hperm htf hps
    clear O5
    have h7lt := hW.hb.lt
    have eslt : ∀ b, own? es b → w2.heap.size ≤ b ∧ b < w4.heap.size := fun b hb => hW.eo.ge hb
    refine Lp.mk (fun (i : Int) w' => ∃ (k : Nat) (ps : Sl), i = k ∧ k ≤ ts.length ∧ Chg (fun b => w2.heap.size ≤ b ∧ ¬ (w4.heap.size ≤ b ∧ b < w5.heap.size)) w5 w' ∧ (∀ b, own? ps b → w5.heap.size ≤ b) ∧ HW w2.heap.size b7 w' r.Host r.Name es ps xs (d.rules.map (entD l)) ((ds.take k).flatMap (permAt d.name))) (fun i => ts.length - i.toNat)
      ⟨0, Sl.nil, rfl, Nat.zero_le _, Chg.refl _ _, (fun b ⟨a, ha, _⟩ => by cases ha), hW.ext e5⟩ ?_
    clear hW
    rintro i w6 K ⟨k, ps, rfl, hk, C6, hps6, hW⟩ hK
    have E6 : Ext w w6 := E5.then C6 (fun b hb => by have := hb.1; omega)
    have g6 := C6.size
    have hT6 := hT.chg C6 (fun b hb _ hs => hs.2 hb)
    by_cases hlt : k < ts.length
    · rw [if_pos (by rw [hT.len]; omega)]
      have hkd : k < ds.length := by omega
      have hel := (hA.get k hlt hkd).ext E6
      have htk := tot_upto ds k hkd
      have hpk := perm_len d.name (ds.take k)
      refine ⟨fun _ w' => ∃ ps', Chg (fun b => w2.heap.size ≤ b ∧ ¬ (w4.heap.size ≤ b ∧ b < w5.heap.size)) w5 w' ∧ (∀ b, own? ps' b → w5.heap.size ≤ b) ∧ HW w2.heap.size b7 w' r.Host r.Name es ps' xs (d.rules.map (entD l)) ((ds.take k).flatMap (permAt d.name) ++ permAt d.name ds[k]), ?_, ?_⟩
      · refine rnp_idx sl22 hT6 hlt rfl fun p _ hp => ?_
        refine rn_ldN (x := ts[k]) many48 hp rfl rfl ?_
        refine New.var (TResource.cells ts[k]) sz48 rfl (oc_res _) rfl fun b11 w7 e7 h11 nb11 => ?_
        have g7 := e7.size
        refine rn_blk (x := ts[k].Route) one9 h11 rfl rfl ?_
        have h5w : Blk w7 b5 48 (TResource.cells r) := ((((h5'.chg C4 (by omega)).ext e5).chg C6 (fun hb => by have := hb.1; omega)).ext e7)
        refine rn_blk (x := r.Name) one9 h5w rfl rfl ?_
        have C7 := C6.thenE e7
        by_cases c : ds[k].route = d.name
        · refine iteF (by rw [hel.route, hrd.name]; simpa using c) ?_
          refine rn_blk (x := ts[k].Rules) one46 h11 rfl rfl ?_
          have hpa : permAt d.name ds[k] = permD ds[k] := if_pos c
          rw [hpa]
          have hR := (hel.ext e7).rules
          generalize hq : ds[k].rules = qs at hR htk
          have hpd : permD ds[k] = qs.map fun r => (⟨r.Path, r.Method, r.Allow⟩ : TPermit) := by unfold permD; rw [hq]
          rw [hpd]
          refine Lp.mk (fun (i : Int) w' => ∃ (j : Nat) (ps' : Sl), i = j ∧ j ≤ qs.length ∧ Ext w7 w7 ∧ Chg (fun b => w2.heap.size ≤ b ∧ ¬ (w4.heap.size ≤ b ∧ b < w5.heap.size)) w5 w' ∧ Chg (fun b => w2.heap.size ≤ b) w7 w' ∧ (∀ b, own? ps' b → w5.heap.size ≤ b) ∧
              HW w2.heap.size b7 w' r.Host r.Name es ps' xs (d.rules.map (entD l)) ((ds.take k).flatMap (permAt d.name) ++ (qs.take j).map fun r => (⟨r.Path, r.Method, r.Allow⟩ : TPermit))) (fun i => qs.length - i.toNat)
            ⟨0, ps, rfl, Nat.zero_le _, Ext.refl _, C7, Chg.refl _ _, hps6, by simpa using hW.ext e7⟩ ?_
          rintro i w8 K2 ⟨j, ps', rfl, hj, _, C8, C78, hps8, hW8⟩ hK2
          have g8 := C8.size
          by_cases hlj : j < qs.length
          · rw [if_pos (by rw [hR.len]; omega)]
            have hR8 := hR.chg C78 (fun b hb _ hs => by omega)
            refine rnp_idx sl46 hR8 hlj rfl fun p _ hp => ?_
            refine rn_ldN (x := qs[j]) many91 hp rfl rfl ?_
            refine New.var (TRule.cells qs[j]) sz91 rfl (oc_rule _) rfl fun b13 w9 e9 h13 nb13 => ?_
            have g9 := e9.size
            have hW9 := hW8.ext e9
            refine rn_blk (x := ps') one57 hW9.hb rfl rfl ?_
            refine rn_blk (x := qs[j].Path) one9 h13 rfl rfl ?_
            refine rn_blk (x := qs[j].Method) one9 h13 rfl rfl ?_
            refine rn_blk (x := qs[j].Allow) one4 h13 rfl rfl ?_
            refine HW.permit hW9 (x := ⟨qs[j].Path, qs[j].Method, qs[j].Allow⟩) (by rw [List.length_append, List.length_map, List.length_take]; omega) (by omega) fun w10 ps2 c10 hW10 hp10 => ?_
            rw [hR.wr hlj]
            have c810 : Chg (fun b => w2.heap.size ≤ b ∧ ¬ (w4.heap.size ≤ b ∧ b < w5.heap.size)) w8 w10 := (e9.chg _).trans (c10.mono fun b _ hb => by
              rcases hb with hb | hb
              · subst hb; exact ⟨hW8.lo, by omega⟩
              · have := hps8 b hb; exact ⟨by omega, by omega⟩)
            refine hK2 _ _ ⟨j + 1, ps2, rfl, hlj, Ext.refl _, C8.trans c810, C78.trans (c810.mono fun b _ hb => hb.1), fun b hb => ?_, ?_⟩ (by omega)
            · rcases hp10 b hb with h | h
              · exact hps8 b h
              · omega
            · rw [List.take_add_one, List.getElem?_eq_getElem hlj, List.map_append, ← List.append_assoc]
              exact hW10
          · rw [if_neg (by rw [hR.len]; omega)]
            obtain rfl : j = qs.length := by omega
            rw [List.take_length] at hW8
            exact ⟨ps', C8, hps8, hW8⟩
        · refine iteT (by rw [hel.route, hrd.name]; simpa using c) ⟨ps, C7, hps6, ?_⟩
          have hpa : permAt d.name ds[k] = [] := if_neg c
          rw [hpa, List.append_nil]; exact hW.ext e7
      · rintro _ w7 ⟨ps', C7, hps7, hW7⟩
        rw [hT.wr hlt]
        refine hK _ _ ⟨k + 1, ps', rfl, hlt, C7, hps7, ?_⟩ (by omega)
        rw [List.take_add_one, List.getElem?_eq_getElem hkd, List.flatMap_append]
        simpa using hW7
    · rw [if_neg (by rw [hT.len]; omega)]
      obtain rfl : k = ts.length := by omega
      rw [hAl, List.take_length, ← hps] at hW
      refine rn_blkN (x := (⟨r.Host, r.Name, es, ps⟩ : THost)) many59 hW.hb rfl rfl ?_
      have h6w : Blk w6 b6 59 (THost.cells ⟨⟨#[]⟩, ⟨#[]⟩, Sl.nil, Sl.nil⟩) := (((h6'.chg C4 (by omega)).ext e5).chg C6 (fun hb => by have := hb.1; omega))
      refine rnu_st (b := b6) (o := 0) rfl h6w (THost.cells ⟨r.Host, r.Name, es, ps⟩) sz59 rfl (oc_host _) (by simp [THost.cells]) fun w7 c7 s7 hb7 => ?_
      replace hb7 : Blk w7 b6 59 (THost.cells ⟨r.Host, r.Name, es, ps⟩) := hb7
      refine rnr_ldN (x := (⟨r.Host, r.Name, es, ps⟩ : THost)) many59 hb7.whole rfl rfl ?_
      have hH := hW.done.chg c7 (fun b hb _ e => by omega)
      have g7 := c7.size
      refine ⟨E6.then c7 (fun b hb => by omega), ?_⟩
      rw [hrd.host, hrd.name] at hH ⊢
      exact hH.mono fun b hb => ⟨by omega, by omega⟩
end
end Go.Proofs.Ytdoeegfcmbcbkaa.Ct


namespace Go.Proofs.Ytdoeegfcmbcbkaa.Ct
open Go Go.Eng Tr
set_option linter.unusedVariables false
set_option maxRecDepth 100000

structure TW (B b8 : Nat) (w : World) (v : Int) (hs ss : Sl) (xs : List THost) (ds : List DHost) (sl : List ByteArray) : Prop where
  hb : Blk w b8 53 (TTables.cells ⟨v, hs, ss⟩)
  lo : B ≤ b8
  ho : Own THost.cells 4 59 B w hs xs
  so : Own bs 1 9 B w ss sl
  h8 : ∀ b, own? hs b → b ≠ b8
  s8 : ∀ b, own? ss b → b ≠ b8
  hsn : ∀ b, own? hs b → ¬ own? ss b
  el : All2 (HostD (fun b => (B ≤ b ∧ b < w.heap.size) ∧ b ≠ b8 ∧ ¬ own? hs b ∧ ¬ own? ss b) w) xs ds
section
variable {B b8 : Nat} {w w' : World} {v : Int} {hs ss : Sl} {xs : List THost} {ds : List DHost} {sl : List ByteArray} {S : Nat → Prop}
theorem TW.chg (h : TW B b8 w v hs ss xs ds sl) (k : Chg S w w') (hS : ∀ b, B ≤ b → b < w.heap.size → ¬ S b) : TW B b8 w' v hs ss xs ds sl :=
  ⟨h.hb.chg k (hS _ h.lo h.hb.lt), h.lo, h.ho.chg k (fun b hb => hS b (h.ho.ge hb).1 (h.ho.ge hb).2), h.so.chg k (fun b hb => hS b (h.so.ge hb).1 (h.so.ge hb).2), h.h8, h.s8, h.hsn,
    h.el.mono fun x y e => (e.chg k (fun b hb _ => hS b hb.1.1 hb.1.2)).mono fun b hb => ⟨⟨hb.1.1, by have := k.size; omega⟩, hb.2⟩⟩
theorem TW.ext (h : TW B b8 w v hs ss xs ds sl) (k : Ext w w') : TW B b8 w' v hs ss xs ds sl := h.chg (k.chg fun _ => False) (fun _ _ _ h => h)
theorem TW.done (h : TW B b8 w v hs ss xs ds sl) : TabD (fun b => B ≤ b ∧ b < w.heap.size) w ⟨v, hs, ss⟩ ⟨v, ds, sl⟩ :=
  ⟨rfl, ⟨xs, h.ho.rd (fun b hb => h.ho.ge hb), h.el.mono fun x y e => e.mono fun b hb => hb.1⟩, h.so.rd (fun b hb => h.so.ge hb)⟩
theorem TW.set (h : TW B b8 w v hs ss xs ds sl) {hs' : Sl} {xs' : List THost} {ds' : List DHost} {w1 : World} (hO : Own THost.cells 4 59 B w1 hs' xs') (hc : Chg (own? hs) w w1) (hn : ∀ b, own? hs' b → own? hs b ∨ w.heap.size ≤ b)
    (hel : All2 (HostD (fun b => (B ≤ b ∧ b < w1.heap.size) ∧ b ≠ b8 ∧ ¬ own? hs' b ∧ ¬ own? ss b) w1) xs' ds') {K : World → Prop}
    (hK : ∀ w', Chg (fun b => b = b8) w1 w' → TW B b8 w' v hs' ss xs' ds' sl → K w') : RnU PP (Instr.storeAt 51 (Ptr ((⟨b8, 0, none⟩ : Addr).add 1)) (Sl.v hs')) w1 K := by
  have hl := h.hb.lt
  have g := hc.size
  refine rnu_st (b := b8) (o := 1) rfl (h.hb.chg hc (fun ho => h.h8 _ ho rfl)) [Sl.v hs'] sz51 rfl (by simp [Sl.v, Value.oneCell']) (by simp [TTables.cells]) fun w3 c3 s3 hb3 => ?_
  replace hb3 : Blk w3 b8 53 (TTables.cells ⟨v, hs', ss⟩) := hb3
  have g3 := c3.size
  have h8' : ∀ b, own? hs' b → b ≠ b8 := fun b hb => by
    rcases hn b hb with k | k
    · exact h.h8 b k
    · omega
  have hns : ∀ b, own? hs' b → ¬ own? ss b := fun b hb hp => by
    rcases hn b hb with k | k
    · exact h.hsn b k hp
    · have := (h.so.ge hp).2; omega
  exact hK w3 c3 ⟨hb3, h.lo, hO.chg c3 (fun b hb e => h8' b hb e), (h.so.chg hc (fun b hb ho => h.hsn b ho hb)).chg c3 (fun b hb e => h.s8 b hb e), h8', h.s8, hns,
    hel.mono fun x y e => (e.chg c3 (fun b hb _ e => hb.2.1 e)).mono fun b hb => ⟨⟨hb.1.1, by omega⟩, hb.2⟩⟩
theorem TW.carry (h : TW B b8 w v hs ss xs ds sl) {hs' : Sl} {w1 : World} (hc : Chg (own? hs) w w1) (hn : ∀ b, own? hs' b → own? hs b ∨ w.heap.size ≤ b) :
    All2 (HostD (fun b => (B ≤ b ∧ b < w1.heap.size) ∧ b ≠ b8 ∧ ¬ own? hs' b ∧ ¬ own? ss b) w1) xs ds := h.el.mono fun x y e => (e.chg hc (fun b hb _ => hb.2.2.1)).mono fun b hb => by
  have g := hc.size
  have := hb.1.2
  exact ⟨⟨hb.1.1, by omega⟩, hb.2.1, fun ho => by
    rcases hn b ho with k | k
    · exact hb.2.2.1 k
    · omega, hb.2.2.2⟩
theorem TW.host (h : TW B b8 w v hs ss xs ds sl) {x : THost} {d : DHost} (hx : HostD (fun b => (B ≤ b ∧ b < w.heap.size) ∧ b ≠ b8 ∧ ¬ own? hs b ∧ ¬ own? ss b) w x d) (hlen : xs.length ≤ 1048576) (hB : B ≤ w.heap.size) {K : World → Prop}
    (hK : ∀ w' hs', Chg (fun b => b = b8 ∨ own? hs b) w w' → TW B b8 w' v hs' ss (xs ++ [x]) (ds ++ [d]) sl → (∀ b, own? hs' b → own? hs b ∨ w.heap.size ≤ b) → K w') :
    New 59 (THost.cells x) w fun b116 w => Rn PP Sl.v (Builtin.append_ #[51, 51] 51 #[(Sl.v hs), (Sl.v (⟨some ⟨b116, 0, none⟩, 1, 1⟩ : Sl))]) w fun t117 w =>
      RnU PP (Instr.storeAt 51 (Ptr ((⟨b8, 0, none⟩ : Addr).add 1)) (Sl.v t117)) w K := by
  refine New.mk fun b1 w1 e1 h1 n1 s1 => ?_
  have h' := h.ext e1
  have g1 := e1.size
  refine rn_app1 (x := x) el51 h'.ho h1 rfl rfl (oc_host _) (by omega) (by decide) (by omega) fun hs' w2 O2 c2 n2 => ?_
  have n2' : ∀ b, own? hs' b → own? hs b ∨ w1.heap.size ≤ b := fun b hb => (n2 b hb).imp id fun h => by omega
  have hx1 : HostD (fun b => (B ≤ b ∧ b < w1.heap.size) ∧ b ≠ b8 ∧ ¬ own? hs b ∧ ¬ own? ss b) w1 x d := (hx.ext e1).mono fun b hb => ⟨⟨hb.1.1, by have := hb.1.2; omega⟩, hb.2⟩
  have hall : All2 (HostD (fun b => (B ≤ b ∧ b < w2.heap.size) ∧ b ≠ b8 ∧ ¬ own? hs' b ∧ ¬ own? ss b) w2) (xs ++ [x]) (ds ++ [d]) :=
    (h'.carry c2 n2').snoc ((hx1.chg c2 (fun b hb _ => hb.2.2.1)).mono fun b hb => by
      have g := c2.size
      have := hb.1.2
      exact ⟨⟨hb.1.1, by omega⟩, hb.2.1, fun ho => by
        rcases n2' b ho with k | k
        · exact hb.2.2.1 k
        · omega, hb.2.2.2⟩)
  exact h'.set O2 c2 n2' hall fun w3 c3 hW => hK w3 hs' (((e1.chg _).trans (c2.mono fun b _ hb => .inr hb)).trans (c3.mono fun b _ hb => .inl hb)) hW fun b hb => (n2 b hb).imp id fun h => by omega
theorem TW.serv (h : TW B b8 w v hs ss xs ds sl) {x : ByteArray} (hlen : sl.length ≤ 1048576) (hB : B ≤ w.heap.size) {K : World → Prop}
    (hK : ∀ w' ss', Chg (fun b => b = b8 ∨ own? ss b) w w' → TW B b8 w' v hs ss' xs ds (sl ++ [x]) → (∀ b, own? ss' b → own? ss b ∨ w.heap.size ≤ b) → K w') :
    New 9 [.string x] w fun b116 w => Rn PP Sl.v (Builtin.append_ #[44, 44] 44 #[(Sl.v ss), (Sl.v (⟨some ⟨b116, 0, none⟩, 1, 1⟩ : Sl))]) w fun t117 w =>
      RnU PP (Instr.storeAt 44 (Ptr ((⟨b8, 0, none⟩ : Addr).add 2)) (Sl.v t117)) w K := by
  refine New.mk fun b1 w1 e1 h1 n1 s1 => ?_
  have h' := h.ext e1
  have g1 := e1.size
  refine rn_app1 (x := x) el44 h'.so h1 rfl rfl (oc_bs _) (by omega) (by decide) (by omega) fun ss' w2 O2 c2 n2 => ?_
  have g2 := c2.size
  have hl := h.hb.lt
  refine rnu_st (b := b8) (o := 2) rfl (h'.hb.chg c2 (fun ho => h.s8 _ ho rfl)) [Sl.v ss'] sz44 rfl (by simp [Sl.v, Value.oneCell']) (by simp [TTables.cells]) fun w3 c3 s3 hb3 => ?_
  replace hb3 : Blk w3 b8 53 (TTables.cells ⟨v, hs, ss'⟩) := hb3
  have g3 := c3.size
  have s8' : ∀ b, own? ss' b → b ≠ b8 := fun b hb => by
    rcases n2 b hb with k | k
    · exact h.s8 b k
    · omega
  have hns : ∀ b, own? hs b → ¬ own? ss' b := fun b hb hp => by
    rcases n2 b hp with k | k
    · exact h.hsn b hb k
    · have := (h.ho.ge hb).2; omega
  refine hK w3 ss' (((e1.chg _).trans (c2.mono fun b _ hb => .inr hb)).trans (c3.mono fun b _ hb => .inl hb)) ⟨hb3, h.lo, (h'.ho.chg c2 (fun b hb ho => h.hsn b hb ho)).chg c3 (fun b hb e => h.h8 b hb e), O2.chg c3 (fun b hb e => s8' b hb e), h.h8, s8', hns, ?_⟩ (fun b hb => (n2 b hb).imp id fun h => by omega)
  exact h.el.mono fun x y e => (((e.chg (e1.chg (fun _ => False)) (fun _ _ _ h => h)).chg c2 (fun b hb _ => hb.2.2.2)).chg c3 (fun b hb _ => hb.2.1)).mono fun b hb => by
    have := hb.1.2
    exact ⟨⟨hb.1.1, by omega⟩, hb.2.1, hb.2.2.1, fun ho => by
      rcases n2 b ho with k | k
      · exact hb.2.2.2 k
      · omega⟩
end

theorem rnc_blk {P : Program} {S : Nat → Prop} {α : Type} {enc : α → Value} {x : α} {t T b i : Nat} {w0 : World} {p : Addr} {cs : List Value} {K : α → Prop} (h : One P t) (hb : Blk w0 b T cs) (hS : ¬ S b) (hp : p = ⟨b, i, none⟩) (hi : cs[i]? = some (enc x)) (hk : K x) :
    RnC P S enc (Instr.loadAt t (Ptr p)) w0 K := by
  obtain ⟨hj, e⟩ := List.getElem?_eq_some_iff.1 hi
  subst hp
  exact ⟨x, fun w c => by simp [Instr.loadAt, Instr.sureAddr, Ptr, load1_run h (((hb.chg c hS).cell hj).trans (by rw [e]))], hk⟩
def pairTI (x : TTables × Int) : Value := Value.tuple #[TTables.v x.1, .int .i64 x.2]
def errC (v : Int) (l : List DRes) : Int := if v < 1 ∨ 1048576 < v then 2 else (faultM l).Err
def ansC (v : Int) (l : List DRes) : DTab := if (v < 1 ∨ 1048576 < v) ∨ (faultM l).Err ≠ 0 then ⟨0, [], []⟩ else ⟨v, hostsS l, servS l⟩
def noT : TTables := ⟨0, Sl.nil, Sl.nil⟩
theorem TabD.none (F : Nat → Prop) (w : World) : TabD F w noT ⟨0, [], []⟩ := ⟨rfl, ⟨[], Rd.nil_ _ _, trivial⟩, Rd.nil_ _ _⟩
section
variable {w : World} {F : Nat → Prop} {s : Sl} {rs : List TResource} {l : List DRes}
theorem hostCmp_ok : CmpHost (fun x => x.Host.size ≤ maxLen) ltH (.func (.func 78) #[] #[]) := fun a b w ha hb => by
  refine ⟨78, #[], #[], rfl, fun vs w => enters Try.func78 rfl rfl vs w, ?_⟩
  show Cal PP (Value.int .i64) 78 #[a.v, b.v] w _
  refine c78 ?_
  unfold f78
  refine New.mk fun b2 w1 e1 h2 _ _ => ?_
  refine New.mk fun b3 w2 e2 h3 _ _ => ?_
  refine rn_blk (x := a.Host) one9 (h2.ext e2) rfl rfl ?_
  refine rn_blk (x := b.Host) one9 h3 rfl rfl ?_
  refine (hostOrder_ok a.Host b.Host ha hb).mono ?_
  rintro _ w3 ⟨e3, rfl⟩
  exact ⟨(e1.trans e2).trans e3, rfl⟩
theorem HostD.ltE {F : Nat → Prop} {w : World} {x x' : THost} {d d' : DHost} (h : HostD F w x d) (h' : HostD F w x' d') : ltH x x' = ltD d d' := by unfold ltH ltD; rw [h.host, h'.host]
theorem dk_len (k : Int) (l : List DRes) : (dk k l).length ≤ l.length := List.length_filter_le _ _
theorem compile_ok (h : ConfD F w s rs l) (hft : Fit l) (ht : tot l ≤ 1048576) (hln : l.length ≤ 1048576) (hh : ∀ d ∈ l, d.host.size ≤ maxLen) (v : Int) :
    Cal PP (fun x : TTables × Int => Value.tuple #[TTables.v x.1, .int .i64 x.2]) 34 #[.int .i64 v, s.v] w fun x w' => Ext w w' ∧ x.2 = errC v l ∧ TabD (fun b => w.heap.size ≤ b ∧ b < w'.heap.size) w' x.1 (ansC v l) := by
  have hlow := h.low
  refine c34 ?_
  unfold f34
  refine New.mk fun b4 w1 e1 h4 n4 s4 => ?_
  refine ⟨fun x w' => w' = w1 ∧ x = decide (v < 1 ∨ 1048576 < v), ?_, ?_⟩
  · by_cases c : v < 1
    · exact iteT c ⟨rfl, by simp [c]⟩
    · exact iteF c ⟨rfl, by simp [c]⟩
  rintro _ w2 ⟨hw2, rfl⟩
  obtain rfl : w1 = w2 := hw2.symm
  by_cases c : v < 1 ∨ 1048576 < v
  · refine iteT (by simpa using c) ?_
    refine rnu_st (b := b4) (o := 0) rfl h4 (TTables.cells noT) sz53 rfl (oc_tab _) (by simp [TTables.cells]) fun w2 c2 s2 hb2 => ?_
    replace hb2 : Blk w2 b4 53 (TTables.cells noT) := hb2
    refine rnr_ldN (x := noT) many53 hb2.whole rfl rfl ?_
    refine ⟨e1.then c2 (fun b hb => by omega), ?_, ?_⟩
    · unfold errC; rw [if_pos c]
    · unfold ansC; rw [if_pos (.inl c)]; exact TabD.none _ _
  refine iteF (by simpa using c) ?_
  refine (check_ok (h.ext e1) hft).mono ?_
  rintro ⟨x, f⟩ w2 ⟨e2, hfl⟩
  dsimp only at hfl ⊢
  subst hfl
  refine New.var (TFault.cells (faultM l)) sz80 rfl (oc_fault _) rfl fun b7 w3 e3 h7 nb7 => ?_
  have h4' := (h4.ext e2).ext e3
  have g1 := e1.size; have g2 := e2.size; have g3 := e3.size
  have l4 := h4.lt
  have E3 := (e1.trans e2).trans e3
  refine rn_blk (x := (faultM l).Err) one25 h7 rfl rfl ?_
  have hz : errC v l = (faultM l).Err := if_neg c
  by_cases c0 : (faultM l).Err ≠ 0
  · refine iteT c0 ?_
    refine Dr.mk fun w4 e4 _ => ?_
    refine rnc_blk (x := (faultM l).Err) one25 (h7.ext e4) (by omega) rfl rfl ?_
    refine rnu_st (b := b4) (o := 0) rfl (h4'.ext e4) (TTables.cells noT) sz53 rfl (oc_tab _) (by simp [TTables.cells]) fun w5 c5 s5 hb5 => ?_
    replace hb5 : Blk w5 b4 53 (TTables.cells noT) := hb5
    refine ⟨c5, ?_⟩
    refine rnr_ldN (x := noT) many53 hb5.whole rfl rfl ?_
    refine ⟨(E3.trans e4).then c5 (fun b hb => by omega), hz.symm, ?_⟩
    unfold ansC; rw [if_pos (.inr c0)]; exact TabD.none _ _
  refine iteF c0 ?_
  have c0 : (faultM l).Err = 0 := by simpa using c0
  have hf := fault_err c0
  have hru := fault_ruled c0
  have hfew := hf.few
  have hrl : rs.length ≤ 64 := by rw [h.len]; exact hfew
  have hans : ansC v l = ⟨v, hostsS l, servS l⟩ := if_neg (fun h => h.elim c (fun h => h c0))
  refine New.var (TTables.cells ⟨v, Sl.nil, Sl.nil⟩) sz53 rfl (oc_tab _) rfl fun b8 w4 e4 h8 nb8 => ?_
  have E4 := E3.trans e4
  have g4 := e4.size
  refine (allMap_ok (h.ext E4) hf).mono ?_
  rintro _ w5 ⟨e5, bm, m, rfl, hbm, hD, hall⟩
  have g5 := e5.size
  refine (named_ok (h.rd.ext (E4.trans e5)) 3 (by omega)).mono ?_
  rintro t37 w6 ⟨e6, O6⟩
  have g6 := e6.size
  have E6 := (E4.trans e5).trans e6
  have hT := O6.rd (F := fun b => w5.heap.size ≤ b ∧ b < w6.heap.size) (fun b hb => O6.ge hb)
  have hcon : ∀ {w'}, Ext w w' → ConfD (fun b => b < w.heap.size) w' s rs l := fun e => (hlow.mono fun b hb => hb.2).ext e
  have hel : ∀ {w'}, Ext w w' → All2 (ResD (fun b => b < w.heap.size) w') (ofKind 3 rs) (dk 3 l) := fun e => (hcon e).kind2 3
  have hmem : ∀ d ∈ dk 3 l, d ∈ l ∧ d.kind = 3 := fun d hd => by
    obtain ⟨h1, h2⟩ := List.mem_filter.1 hd
    exact ⟨h1, by simpa using h2⟩
  have hlen := dk_len 3 l
  have hhosts : hostsS l = stb ltD ((dk 3 l).map (hostD l)) := rfl
  generalize hts : ofKind 3 rs = ts at hT hel
  generalize hds : dk 3 l = ds at hel hmem hlen hhosts
  have hAl := (hel (Ext.refl _)).len
  clear O6
  have hW0 : TW w3.heap.size b8 w6 v Sl.nil Sl.nil [] [] [] := ⟨(h8.ext e5).ext e6, nb8, Own.nil_ _ _, Own.nil_ _ _, (fun b ⟨a, ha, _⟩ => by cases ha), (fun b ⟨a, ha, _⟩ => by cases ha), (fun b ⟨a, ha, _⟩ => by cases ha), trivial⟩
  refine Lp.mk (fun (i : Int) w' => ∃ (k : Nat) (hs : Sl) (xs : List THost), i = k ∧ k ≤ ts.length ∧ Ext w6 w6 ∧ Chg (fun b => b = b8 ∨ w6.heap.size ≤ b) w6 w' ∧ (∀ b, own? hs b → w6.heap.size ≤ b) ∧ TW w3.heap.size b8 w' v hs Sl.nil xs ((ds.take k).map (hostD l)) []) (fun i => ts.length - i.toNat)
    ⟨0, _, _, rfl, Nat.zero_le _, Ext.refl _, Chg.refl _ _, (fun b ⟨a, ha, _⟩ => by cases ha), hW0⟩ ?_
  clear hW0
  rintro i w7 K ⟨k, hs, xs, rfl, hk, _, C7, hn7, hW⟩ hK
  have E7 : Ext w w7 := E6.then C7 (fun b hb => by omega)
  have g7 := C7.size
  have l8 := h8.lt
  have hT7 := hT.chg C7 (fun b hb _ hs => by omega)
  by_cases hlt : k < ts.length
  · rw [if_pos (by rw [hT.len]; omega)]
    have hkd : k < ds.length := by omega
    refine rnp_idx sl22 hT7 hlt rfl fun p _ hp => ?_
    refine rn_ldN (x := ts[k]) many48 hp rfl rfl ?_
    refine New.var (TResource.cells ts[k]) sz48 rfl (oc_res _) rfl fun b11 w8 e8 h11 nb11 => ?_
    refine Dr.mk fun w9 e9 _ => ?_
    have e79 := e8.trans e9
    have hW9 := hW.ext e79
    have g79 := e79.size
    refine rnl_blk (x := hs) one51 hW9.hb rfl rfl ?_
    refine rnl_ldN (x := ts[k]) many48 (h11.ext e9).whole rfl rfl ?_
    have E9 := E7.trans e79
    obtain ⟨hd1, hd2⟩ := hmem _ (List.getElem_mem hkd)
    have bmlt := hD.mp.lt
    have hD9 : DoneI (fun b => b < w4.heap.size) l bm w9 m := ((hD.ext e6).chg C7 (fun hb => by omega) (fun b hb hS => by rcases hS with hS | hS <;> omega) (fun _ _ h => h)).ext e79
    refine (host_ok76 (hcon E9) hf hru ht hD9 hall ((hel E9).get k hlt hkd) hd1 hd2).mono ?_
    rintro x w10 ⟨e10, hx⟩
    refine ⟨e10, ?_⟩
    have g10 := e10.size
    have hxl : xs.length = k := by rw [hW.el.len]; simp; omega
    refine TW.host (hW9.ext e10) (x := x) (d := hostD l ds[k]) (hx.mono fun b hb => ?_) (by omega) (by omega) fun w11 hs' c11 hW11 no11 => ?_
    · have l7 := hW.hb.lt
      refine ⟨⟨by omega, hb.2⟩, by omega, fun ho => ?_, fun ⟨a, ha, _⟩ => by cases ha⟩
      have := (hW.ho.ge ho).2; omega
    · rw [hT.wr hlt]
      have c711 : Chg (fun b => b = b8 ∨ w6.heap.size ≤ b) w7 w11 := ((e79.trans e10).chg _).trans (c11.mono fun b _ hb => hb.imp id fun h => hn7 b h)
      refine hK _ _ ⟨k + 1, hs', xs ++ [x], rfl, hlt, Ext.refl _, C7.trans c711, fun b hb => ?_, ?_⟩ (by omega)
      · rcases no11 b hb with h | h
        · exact hn7 b h
        · omega
      · rw [List.take_add_one, List.getElem?_eq_getElem hkd, List.map_append]
        exact hW11
  · rw [if_neg (by rw [hT.len]; omega)]
    obtain rfl : k = ts.length := by omega
    rw [hAl, List.take_length] at hW
    clear hK
    refine rn_blk (x := hs) one51 hW.hb rfl rfl ?_
    have hQ : ∀ y ∈ xs, y.Host.size ≤ maxLen := fun y hy => by
      obtain ⟨i, hi, rfl⟩ := List.mem_iff_getElem.1 hy
      have hi' : i < (ds.map (hostD l)).length := by rw [← hW.el.len]; exact hi
      have := (hW.el.get i hi hi').host
      rw [this, List.getElem_map]
      exact hh _ (hmem _ (List.getElem_mem _)).1
    have hxl : xs.length ≤ 64 := by rw [hW.el.len, List.length_map]; omega
    refine (sortStableHost_ok hostCmp_ok wo_host (by omega) hW.ho hQ).mono ?_
    rintro _ w8 ⟨c8, O8⟩
    have hel8 := (hW.carry c8 fun b hb => .inl hb).stb (lt := ltH) (lt' := ltD) fun x x' y y' h h' => h.ltE h'
    rw [← hhosts] at hel8
    have hW8 : TW w3.heap.size b8 w8 v hs Sl.nil (stb ltH xs) (hostsS l) [] := ⟨hW.hb.chg c8 (fun ho => hW.h8 _ ho rfl), hW.lo, O8, Own.nil_ _ _, hW.h8, hW.s8, hW.hsn, hel8⟩
    have g8 := c8.size
    have E8 : Ext w w8 := E7.then c8 (fun b hb => by have := hn7 b hb; omega)
    have h4w : Blk w8 b4 53 (TTables.cells noT) := (((((h4'.ext e4).ext e5).ext e6).chg C7 (by omega)).chg c8 (fun ho => by have := hn7 _ ho; omega))
    clear hW hel8 O8
    refine (named_ok (h.rd.ext E8) 1 (by omega)).mono ?_
    rintro t57 w9 ⟨e9, O9⟩
    have g9 := e9.size
    have E9 := E8.trans e9
    have hT2 := O9.rd (F := fun b => w8.heap.size ≤ b ∧ b < w9.heap.size) (fun b hb => O9.ge hb)
    have hel2 := (hcon (Ext.refl _)).kind2 1
    have hln2 := dk_len 1 l
    have hserv : servS l = (dk 1 l).map (·.name) := rfl
    generalize ofKind 1 rs = t2 at hT2 hel2
    generalize dk 1 l = d2 at hel2 hln2 hserv
    have hA2 := hel2.len
    clear O9
    refine Lp.mk (fun (i : Int) w' => ∃ (k : Nat) (ss : Sl), i = k ∧ k ≤ t2.length ∧ Ext w9 w9 ∧ Chg (fun b => b = b8 ∨ w9.heap.size ≤ b) w9 w' ∧ (∀ b, own? ss b → w9.heap.size ≤ b) ∧ TW w3.heap.size b8 w' v hs ss (stb ltH xs) (hostsS l) ((d2.take k).map (·.name))) (fun i => t2.length - i.toNat)
      ⟨0, _, rfl, Nat.zero_le _, Ext.refl _, Chg.refl _ _, (fun b ⟨a, ha, _⟩ => by cases ha), hW8.ext e9⟩ ?_
    rintro i w10 K ⟨k, ss, rfl, hk, _, C10, hn10, hW⟩ hK
    have E10 : Ext w w10 := E9.then C10 (fun b hb => by omega)
    have g10 := C10.size
    have hT10 := hT2.chg C10 (fun b hb _ hs => by omega)
    by_cases hlt : k < t2.length
    · rw [if_pos (by rw [hT2.len]; omega)]
      have hkd : k < d2.length := by omega
      refine rnp_idx sl22 hT10 hlt rfl fun p _ hp => ?_
      refine rn_ldN (x := t2[k]) many48 hp rfl rfl ?_
      refine New.var (TResource.cells t2[k]) sz48 rfl (oc_res _) rfl fun b13 w11 e11 h13 nb13 => ?_
      have g11 := e11.size
      have hW11 := hW.ext e11
      refine rn_blk (x := ss) one44 hW11.hb rfl rfl ?_
      refine rn_blk (x := t2[k].Name) one9 h13 rfl rfl ?_
      refine TW.serv hW11 (x := t2[k].Name) (by simp; omega) (by omega) fun w12 ss' c12 hW12 no12 => ?_
      rw [hT2.wr hlt]
      have c1012 : Chg (fun b => b = b8 ∨ w9.heap.size ≤ b) w10 w12 := (e11.chg _).trans (c12.mono fun b _ hb => hb.imp id fun h => hn10 b h)
      refine hK _ _ ⟨k + 1, ss', rfl, hlt, Ext.refl _, C10.trans c1012, fun b hb => ?_, ?_⟩ (by omega)
      · rcases no12 b hb with h | h
        · exact hn10 b h
        · omega
      · rw [List.take_add_one, List.getElem?_eq_getElem hkd, List.map_append]
        have hnm := (hel2.get k hlt hkd).name
        rw [hnm] at hW12
        exact hW12
    · rw [if_neg (by rw [hT2.len]; omega)]
      obtain rfl : k = t2.length := by omega
      rw [hA2, List.take_length, ← hserv] at hW
      refine rn_blkN (x := (⟨v, hs, ss⟩ : TTables)) many53 hW.hb rfl rfl ?_
      refine rnu_st (b := b4) (o := 0) rfl ((h4w.ext e9).chg C10 (by omega)) (TTables.cells ⟨v, hs, ss⟩) sz53 rfl (oc_tab _) (by simp [TTables.cells]) fun w11 c11 s11 hb11 => ?_
      replace hb11 : Blk w11 b4 53 (TTables.cells ⟨v, hs, ss⟩) := hb11
      refine rnr_ldN (x := (⟨v, hs, ss⟩ : TTables)) many53 hb11.whole rfl rfl ?_
      have hR := hW.done.chg c11 (fun b hb _ e => by omega)
      have g11 := c11.size
      refine ⟨E10.then c11 (fun b hb => by omega), ?_, ?_⟩
      · rw [hz, c0]
      · rw [hans]; exact hR.mono fun b hb => ⟨by omega, by omega⟩
end
end Go.Proofs.Ytdoeegfcmbcbkaa.Ct


namespace Go.Proofs.Ytdoeegfcmbcbkaa.Ct
open Go Go.Eng Tr
set_option linter.unusedVariables false
set_option maxRecDepth 100000

structure KnL (N : Nat) (l : List DRes) (b9 : Nat) (w : World) (sn sq : Sl) (ns : List ByteArray) (qs : List Sl) : Prop where
  b : b9 < N
  hb9 : Blk w b9 109 (TKnown15.cells ⟨sn, sq⟩)
  hns : Rd bs 1 (fun b => b < N) w sn ns
  hqs : Rd sls 1 (fun b => b < N) w sq qs
  len : ns.length = qs.length
  el : ∀ i (h : i < ns.length) (h' : i < qs.length), ∃ xs, Rd TShare.cells 2 (fun b => b < N) w qs[i] xs ∧ ShD xs (shF l ns[i])
section
variable {w w' : World} {N b9 : Nat} {sn sq : Sl} {l : List DRes} {ns : List ByteArray} {qs : List Sl} {S : Nat → Prop}
theorem KnR.low (h : KnR l b9 w sn sq ns qs) : KnL w.heap.size l b9 w sn sq ns qs :=
  ⟨h.hb9.lt, h.hb9, (Rd.low h.hns (fun _ => by simp [bs])).mono fun b hb => hb.2, (Rd.low h.hqs (fun _ => by simp [sls])).mono fun b hb => hb.2, h.len, fun i a b => let ⟨xs, r, d⟩ := h.el i a b; ⟨xs, (Rd.low r (fun _ => by simp [TShare.cells])).mono fun b hb => hb.2, d⟩⟩
theorem KnL.chg (h : KnL N l b9 w sn sq ns qs) (k : Chg S w w') (hS : ∀ b, b < N → ¬ S b) : KnL N l b9 w' sn sq ns qs :=
  ⟨h.b, h.hb9.chg k (hS _ h.b), h.hns.chg k (fun b hb _ => hS b hb), h.hqs.chg k (fun b hb _ => hS b hb), h.len, fun i a b => let ⟨xs, r, d⟩ := h.el i a b; ⟨xs, r.chg k (fun b hb _ => hS b hb), d⟩⟩
theorem KnL.ext (h : KnL N l b9 w sn sq ns qs) (k : Ext w w') : KnL N l b9 w' sn sq ns qs := h.chg (k.chg fun _ => False) (fun _ _ h => h)
theorem KnL.r (h : KnL N l b9 w sn sq ns qs) : KnR l b9 w sn sq ns qs := ⟨h.hb9, h.hns.mono fun _ _ => trivial, h.hqs.mono fun _ _ => trivial, h.len, fun i a b => let ⟨xs, r, d⟩ := h.el i a b; ⟨xs, r.mono fun _ _ => trivial, d⟩⟩
end
def hk (l : List DRes) (k : Nat) : List DHost := stb ltD ((dk 3 (l.take k)).map (hostD l))
def sk (l : List DRes) (k : Nat) : List ByteArray := (dk 1 (l.take k)).map (·.name)
def rul4 (n : ByteArray) (d : DRes) : List TRule := if d.kind = 4 ∧ d.route = n then d.rules else []
def toP (r : TRule) : TPermit := ⟨r.Path, r.Method, r.Allow⟩
theorem wo_ltD : WO ltD :=
  let f : DHost → THost := fun d => ⟨d.host, d.host, Sl.nil, Sl.nil⟩
  ⟨fun x => wo_host.irr (f x), fun x y z => wo_host.tr (f x) (f y) (f z), fun x y z => wo_host.ntr (f x) (f y) (f z)⟩
section
variable {w : World} {F : Nat → Prop} {s : Sl} {rs : List TResource} {l : List DRes}
end
end Go.Proofs.Ytdoeegfcmbcbkaa.Ct


namespace Go.Proofs.Ytdoeegfcmbcbkaa.Ct
open Go Go.Eng Tr
set_option linter.unusedVariables false
set_option maxRecDepth 100000

section
variable {w : World} {F G : Nat → Prop}
end
end Go.Proofs.Ytdoeegfcmbcbkaa.Ct


namespace Go.Eng
open Go
set_option linter.unusedVariables false
def rowAt (s : Sl) (k sz : Nat) : Addr := (s.a.getD ⟨0, 0, none⟩).add (k * sz)
section
variable {α β : Type} {cells : α → List Value} {sz T B : Nat} {P : Program} {w w0 : World} {s : Sl} {l : List α} {enc : β → Value} {x : β} {t e tf k f : Nat}
theorem Own.at_ (h : Own cells sz T B w s l) (hk : k < l.length) : s.a.isSome = true ∧ At w (rowAt s k sz) (cells l[k]) := by
  obtain ⟨a, ha, _, hat⟩ := (h.rd (F := fun _ => True) fun _ _ => trivial).el k hk
  refine ⟨by rw [ha]; rfl, ?_⟩
  unfold rowAt; rw [ha]; exact hat
end
end Go.Eng
namespace Go.Proofs.Ytdoeegfcmbcbkaa.Ct
open Go Go.Eng Tr
set_option linter.unusedVariables false
set_option maxRecDepth 100000
theorem EntD.ext {F : Nat → Prop} {w w' : World} {e : TEntry} {d : DEntry} (h : EntD F w e d) (k : Ext w w') : EntD F w' e d := h.chg (k.chg fun _ => False) (fun _ _ _ h => h)
section
variable {w : World} {F : Nat → Prop} {s : Sl}
structure FitT (d : DTab) : Prop where
  h : d.hosts.length ≤ 1048576
  s : d.services.length ≤ 1048576
  e : ∀ h ∈ d.hosts, h.entries.length ≤ 1048576
  p : ∀ h ∈ d.hosts, h.permits.length ≤ 1048576
  q : ∀ h ∈ d.hosts, ∀ e ∈ h.entries, e.shares.length ≤ 1048576
theorem EntD.low {e : TEntry} {d : DEntry} (h : EntD F w e d) : EntD (fun b => b < w.heap.size) w e d := ⟨h.path, h.method, let ⟨xs, r, k⟩ := h.shares; ⟨xs, (Rd.low r (fun _ => by simp [TShare.cells])).mono fun b hb => hb.2, k⟩⟩
theorem HostD.low {h : THost} {d : DHost} (k : HostD F w h d) : HostD (fun b => b < w.heap.size) w h d := ⟨k.host, k.route, let ⟨es, r, a⟩ := k.entries; ⟨es, (Rd.low r (fun _ => by simp [TEntry.cells])).mono fun b hb => hb.2, a.mono fun _ _ x => x.low⟩, (Rd.low k.permits (fun _ => by simp [TPermit.cells])).mono fun b hb => hb.2⟩
theorem TabD.low {t : TTables} {d : DTab} (k : TabD F w t d) : TabD (fun b => b < w.heap.size) w t d := ⟨k.version, let ⟨es, r, a⟩ := k.hosts; ⟨es, (Rd.low r (fun _ => by simp [THost.cells])).mono fun b hb => hb.2, a.mono fun _ _ x => x.low⟩, (Rd.low k.services (fun _ => by simp [bs])).mono fun b hb => hb.2⟩
def goneT : TTarget := ⟨⟨#[103, 111, 110, 101]⟩, ⟨#[]⟩, 0⟩
def goneR : TRule := ⟨⟨#[103, 111, 110, 101]⟩, ⟨#[]⟩, ⟨#[]⟩, false⟩
def goneD : TResource := ⟨-9, ⟨#[]⟩, Sl.nil, Sl.nil, ⟨#[]⟩, Sl.nil, ⟨#[]⟩, false⟩
end
end Go.Proofs.Ytdoeegfcmbcbkaa.Ct


