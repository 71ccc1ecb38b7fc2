/- A part of the proof whose last text is YtdoeegfcmbcbkaaBZ6. -/
import Derived.Test.YtdoeegfcmbcbkaaBZ3
import Derived.Laws.Shifts
import Derived.Laws.IdiomStrings
set_option linter.all false
namespace Go.Proofs.Ytdoeegfcmbcbkaa.Ct
open Go Go.Eng Tr
set_option linter.unusedVariables false
set_option maxRecDepth 100000

def ints (x : Int) : List Value := [.int .i64 x]
def dv (l : List DRes) (r i : Nat) : Nat :=
  match l[i]? with
  | none => 0
  | some d => if d.kind = 2 then (if hd l r d.name ≤ r then hd l r d.name else 0) else 0
def pv (l : List DRes) (r : Nat) (ts : List TTarget) : Nat := if maxl ((kt ts).map (hd l r)) ≤ r then 1 + maxl ((kt ts).map (hd l r)) else 0
def row (l : List DRes) (r : Nat) : List Int := (List.range l.length).map fun i => (dv l r i : Int)
theorem row_get {l : List DRes} {r i : Nat} (h : i < l.length) : (row l r)[i]? = some ((dv l r i : Nat) : Int) := by
  simp [row, h]
theorem row_len (l : List DRes) (r : Nat) : (row l r).length = l.length := by simp [row]
section
variable {w : World} {F G : Nat → Prop} {s : Sl} {rs : List TResource} {l : List DRes}
theorem pv_dv (huq : ∀ d ∈ l, d.kind = 2 → splitOf l d.name = some d) {i : Nat} (hi : i < l.length) (hk : l[i].kind = 2) (r : Nat) : pv l r l[i].targets = dv l (r + 1) i := by
  have h1 : kids l l[i].name = kt l[i].targets := by unfold kids; rw [huq _ (List.getElem_mem hi) hk]; rfl
  have h2 : hd l (r + 1) l[i].name = 1 + maxl ((kt l[i].targets).map (hd l r)) := by rw [← h1]; rfl
  unfold pv dv
  simp only [List.getElem?_eq_getElem hi, if_pos hk, h2]
  by_cases h : maxl ((kt l[i].targets).map (hd l r)) ≤ r
  · rw [if_pos h, if_pos (by omega)]
  · rw [if_neg h, if_neg (by omega)]
theorem pv_yes {r : Nat} {ts : List TTarget} {k : Nat} (h : k < ts.length) (hs : ts[k].Service = ⟨#[]⟩) (h0 : 0 < pv l r (ts.take k)) :
    pv l r (ts.take (k + 1)) = if hd l r ts[k].Split ≤ r then max (pv l r (ts.take k)) (hd l r ts[k].Split + 1) else 0 := by
  unfold pv at h0 ⊢
  rw [kt_yes h hs, List.map_append, List.map_cons, List.map_nil, maxl_app]
  by_cases c : maxl ((kt (ts.take k)).map (hd l r)) ≤ r
  · rw [if_pos c]
    by_cases c2 : hd l r ts[k].Split ≤ r
    · rw [if_pos c2, if_pos (by omega)]; omega
    · rw [if_neg c2, if_neg (by omega)]
  · rw [if_neg c] at h0; omega
theorem pv_zero {r : Nat} {ts : List TTarget} {k : Nat} (h0 : pv l r (ts.take k) = 0) : pv l r ts = 0 := by
  have : ∀ j, pv l r (ts.take (k + j)) = 0 := fun j => by
    induction j with
    | zero => exact h0
    | succ j ih =>
      by_cases hj : k + j < ts.length
      · unfold pv at ih ⊢
        by_cases c : maxl ((kt (ts.take (k + j))).map (hd l r)) ≤ r
        · rw [if_pos c] at ih; omega
        · rw [if_neg]
          by_cases hs : ts[k + j].Service = ⟨#[]⟩
          · rw [show k + (j + 1) = k + j + 1 by omega, kt_yes hj hs, List.map_append, List.map_cons, List.map_nil, maxl_app]; omega
          · rw [show k + (j + 1) = k + j + 1 by omega, kt_no hj hs]; exact c
      · rw [List.take_of_length_le (by omega)]; rwa [List.take_of_length_le (by omega)] at ih
  have h := this ts.length
  rwa [List.take_of_length_le (by omega)] at h
theorem ints_flat (xs : List Int) : xs.flatMap ints = xs.map (Value.int .i64) := by
  induction xs with
  | nil => rfl
  | cons x xs ih => simp [List.flatMap_cons, ih, ints]
def mix (l : List DRes) (r j : Nat) : List Value := (List.range l.length).map fun i => Value.int .i64 ((if i < j then dv l (r + 1) i else 0 : Nat) : Int)
theorem mix_len (r j : Nat) : (mix l r j).length = l.length := by simp [mix]
theorem mix_set {r j : Nat} (hj : j < l.length) : (mix l r j).set j (.int .i64 ((dv l (r + 1) j : Nat) : Int)) = mix l r (j + 1) := by
  apply List.ext_getElem (by simp [mix])
  intro i h1 h2
  simp only [mix, List.length_set, List.length_map, List.length_range] at h1
  by_cases e : j = i
  · subst e; simp [mix]
  · rw [List.getElem_set_ne e]
    simp only [mix, List.getElem_map, List.getElem_range]
    by_cases h : i < j
    · rw [if_pos h, if_pos (by omega)]
    · rw [if_neg h, if_neg (by omega)]
theorem mix_skip {r j : Nat} (hj : j < l.length) (h0 : dv l (r + 1) j = 0) : mix l r j = mix l r (j + 1) := by
  apply List.ext_getElem (by simp [mix])
  intro i h1 h2
  simp only [mix, List.getElem_map, List.getElem_range]
  by_cases h : i < j
  · rw [if_pos h, if_pos (by omega)]
  · rw [if_neg h]
    by_cases e : i = j
    · subst e; rw [if_pos (by omega), h0]
    · rw [if_neg (by omega)]
theorem mix_zero (r : Nat) : List.replicate l.length (Value.int .i64 0) = mix l r 0 := by
  apply List.ext_getElem (by simp [mix])
  intro i h1 h2
  simp [mix]
theorem mix_full (r : Nat) : mix l r l.length = (row l (r + 1)).flatMap ints := by
  rw [ints_flat]
  apply List.ext_getElem (by simp [mix, row])
  intro i h1 h2
  simp only [mix, List.length_map, List.length_range] at h1
  simp [mix, row, h1]
theorem row_zero : List.replicate l.length (Value.int .i64 0) = (row l 0).flatMap ints := by
  rw [ints_flat]
  apply List.ext_getElem (by simp [row])
  intro i h1 h2
  simp only [row, List.length_replicate] at h1
  simp only [row, List.getElem_replicate, List.getElem_map, List.getElem_range]
  have : dv l 0 i = 0 := by simp [dv, h1, hd]
  rw [this]; rfl
theorem fst?_le {p : Nat → Bool} {n : Nat} : fst? p n = -1 ∨ ∃ k, fst? p n = (k : Nat) ∧ k < n ∧ p k = true := by
  unfold fst?
  cases h : (List.range n).find? p with
  | none => exact .inl rfl
  | some k =>
    right
    have h1 := List.mem_of_find?_eq_some h
    have h2 := List.find?_some h
    exact ⟨k, rfl, by simpa using h1, h2⟩
theorem has_at {kind : Int} {n : ByteArray} (h : has l kind n = true) : ∃ k : Nat, fst? (isAt l kind n) l.length = k ∧ ∃ hk : k < l.length, l[k].kind = kind ∧ l[k].name = n := by
  unfold has at h
  simp only [decide_eq_true_eq] at h
  rcases fst?_le (p := isAt l kind n) (n := l.length) with h' | ⟨k, h1, h2, h3⟩
  · omega
  · rw [isAt_eq h2] at h3
    simp only [Bool.and_eq_true, decide_eq_true_eq] at h3
    exact ⟨k, h1, h2, h3⟩
theorem depths_ok (h : ConfD F w s rs l) (hlen : l.length ≤ 64) (huq : ∀ d ∈ l, d.kind = 2 → splitOf l d.name = some d)
    (hnd : ∀ n d t, splitOf l n = some d → t ∈ kidsOf d → has l 2 t = true) :
    Cal PP Sl.v 102 #[s.v] w fun x w' => Ext w w' ∧ Rd ints 1 (fun b => w.heap.size ≤ b) w' x (row l 8) := by
  refine c102 ?_
  unfold f102
  rw [h.n]
  refine rn_make1 el77 rfl (by omega) (by unfold maxLen; omega) fun b13 w1 e1 h13 hn => ?_
  refine Lp.mk (fun (y : Sl × Int) w' => ∃ (r b : Nat), y.2 = r ∧ r ≤ 8 ∧ y.1 = ⟨some ⟨b, 0, none⟩, l.length, l.length⟩ ∧ w.heap.size ≤ b ∧ Ext w w' ∧ Blk w' b 3 ((row l r).flatMap ints)) (fun y => 8 - y.2.toNat)
    ⟨0, b13, rfl, by omega, rfl, by omega, e1, by rw [← row_zero]; exact h13⟩ ?_
  rintro ⟨y, i⟩ w2 K ⟨r, b, rfl, hr, rfl, hbn, hE, hb⟩ hK
  dsimp only
  by_cases hr8 : r < 8
  · rw [if_pos (by omega)]
    refine rn_make1 el77 rfl (by omega) (by unfold maxLen; omega) fun b20 w3 e3 h20 hn20 => ?_
    have hbl := hb.lt
    replace hE := hE.trans e3; replace hb := hb.ext e3
    have hrow : ∀ {w' : World}, Blk w' b 3 ((row l r).flatMap ints) → Rd ints 1 (fun _ => True) w' ⟨some ⟨b, 0, none⟩, l.length, l.length⟩ (row l r) := fun h => h.rd rfl (fun _ _ => rfl) trivial (row_len l r).symm (by unfold maxLen; omega)
    refine Lp.mk (fun (y : Int) w' => ∃ j : Nat, y = j ∧ j ≤ l.length ∧ Ext w w' ∧ Blk w' b 3 ((row l r).flatMap ints) ∧ Blk w' b20 3 (mix l r j)) (fun y => l.length - y.toNat)
      ⟨0, rfl, Nat.zero_le _, hE, hb, by rw [← mix_zero]; exact h20⟩ ?_
    rintro y w4 K2 ⟨j, rfl, hj, hE, hb, h20⟩ hK2
    by_cases hlt : j < l.length
    · rw [if_pos (by omega)]
      refine ⟨fun _ w' => Ext w w' ∧ Blk w' b 3 ((row l r).flatMap ints) ∧ Blk w' b20 3 (mix l r (j + 1)), ?_, ?_⟩
      · refine (h.ext hE).idx hlt rfl fun p q _ hp hq => ?_
        refine rn_at one3 hp rfl ?_
        rw [hq.kind]
        by_cases c2 : l[j].kind = 2
        · refine iteF (fun h => h c2) ?_
          have hpd := pv_dv huq hlt c2 r
          have hsp := huq _ (List.getElem_mem hlt) c2
          refine Lp.mk (fun (y : Int × Int) w' => ∃ k : Nat, y.2 = k ∧ k ≤ l[j].targets.length ∧ y.1 = (pv l r (l[j].targets.take k) : Nat) ∧ Ext w w' ∧ Blk w' b 3 ((row l r).flatMap ints) ∧ Blk w' b20 3 (mix l r j)) (fun y => l[j].targets.length - y.2.toNat)
            ⟨0, rfl, Nat.zero_le _, by simp [pv, kt, maxl], hE, hb, h20⟩ ?_
          rintro ⟨n, _⟩ w5 K3 ⟨k, rfl, hk, rfl, hE, hb, h20⟩ hK3
          dsimp only
          refine ⟨fun x w' => w' = w5 ∧ x = (decide (k < l[j].targets.length) && decide (0 < pv l r (l[j].targets.take k))), ?_, ?_⟩
          · refine (h.ext hE).idx hlt rfl fun p q _ hp hq => ?_
            refine rn_at one45 hp rfl ?_
            by_cases hkl : k < l[j].targets.length
            · refine iteT (by rw [hq.targets.len]; omega) ⟨rfl, ?_⟩
              simp [hkl]
            · refine iteF (by rw [hq.targets.len]; omega) ⟨rfl, by simp [hkl]⟩
          rintro _ _ ⟨rfl, rfl⟩
          by_cases hgo : k < l[j].targets.length ∧ 0 < pv l r (l[j].targets.take k)
          · obtain ⟨hkl, hpos⟩ := hgo
            refine iteT (by simp [hkl, hpos]) ?_
            refine ⟨fun x w' => x = (pv l r (l[j].targets.take (k + 1)) : Nat) ∧ Ext w w' ∧ Blk w' b 3 ((row l r).flatMap ints) ∧ Blk w' b20 3 (mix l r j), ?_, ?_⟩
            · refine (h.ext hE).idx hlt rfl fun p q _ hp hq => ?_
              refine rn_at one45 hp rfl ?_
              refine rnp_idx sl45 hq.targets hkl rfl fun p _ hp => ?_
              refine rn_ldN (x := l[j].targets[k]) many84 hp rfl rfl ?_
              refine New.var (TTarget.cells l[j].targets[k]) sz84 rfl (oc_target _) rfl fun b9 w6 e6 h9 _ => ?_
              replace hE := hE.trans e6; replace hb := hb.ext e6; replace h20 := h20.ext e6
              refine rn_blk one9 h9 rfl rfl ?_
              by_cases cs : l[j].targets[k].Service = ⟨#[]⟩
              · refine iteF (fun h => h cs) ?_
                refine rn_blk one9 h9 rfl rfl ?_
                refine (find_ok (h.ext hE) 2 _).mono ?_
                rintro _ w7 ⟨e7, rfl⟩
                replace hE := hE.trans e7; replace hb := hb.ext e7; replace h20 := h20.ext e7
                have hin : l[j].targets[k].Split ∈ kidsOf l[j] := mem_kt hkl cs
                obtain ⟨at_, hat, hatl, hak, han⟩ := has_at (hnd _ _ _ hsp hin)
                have hdv : dv l r at_ = if hd l r l[j].targets[k].Split ≤ r then hd l r l[j].targets[k].Split else 0 := by
                  simp only [dv, List.getElem?_eq_getElem hatl, if_pos hak, han]
                have hb1 := hd_bounds l r l[j].targets[k].Split
                have hyes := pv_yes (l := l) hkl cs hpos
                rw [hat]
                have rd : ∀ {w' : World} {K : Int → World → Prop}, Blk w' b 3 ((row l r).flatMap ints) → K ((dv l r at_ : Nat) : Int) w' →
                    RnP PP Ptr (Instr.indexAt 77 (Sl.v ⟨some ⟨b, 0, none⟩, l.length, l.length⟩) (.int .i64 (at_ : Int))) fun p => Rn PP (Value.int .i64) (Instr.loadAt 3 (Ptr p)) w' K := fun hb hK =>
                  rnp_own sl77 hatl rfl (rn_blk one3 hb rfl (by rw [ints_flat, List.getElem?_map, row_get hatl]; rfl) hK)
                refine ⟨fun x w' => w' = w7 ∧ x = decide (dv l r at_ = 0), ?_, ?_⟩
                · refine iteF (by omega) ?_
                  refine rd hb ⟨rfl, ?_⟩
                  by_cases h0 : dv l r at_ = 0
                  · simp [h0]
                  · have : ((dv l r at_ : Nat) : Int) ≠ 0 := by omega
                    simp [h0]
                rintro _ _ ⟨rfl, rfl⟩
                by_cases h0 : dv l r at_ = 0
                · refine iteT (by simp [h0]) ⟨?_, hE, hb, h20⟩
                  rw [hyes, if_neg]; rfl
                  intro hle; rw [if_pos hle] at hdv; omega
                · refine iteF (by simp [h0]) ?_
                  have hle : hd l r l[j].targets[k].Split ≤ r := by
                    by_cases hle : hd l r l[j].targets[k].Split ≤ r
                    · exact hle
                    · rw [if_neg hle] at hdv; exact absurd hdv h0
                  rw [if_pos hle] at hdv
                  rw [if_pos hle] at hyes
                  have hw : IntKind.i64.wrap (((dv l r at_ : Nat) : Int) + 1) = ((dv l r at_ + 1 : Nat) : Int) := by
                    rw [wrap_in ⟨by omega, by omega⟩]; omega
                  refine rd hb ?_
                  rw [hw]
                  by_cases cm : pv l r (l[j].targets.take k) < dv l r at_ + 1
                  · refine iteT (by omega) ?_
                    refine rd hb ⟨?_, hE, hb, h20⟩
                    rw [hw, hyes, hdv]; omega
                  · refine iteF (by omega) ⟨?_, hE, hb, h20⟩
                    rw [hyes]; omega
              · refine iteT cs ⟨?_, hE, hb, h20⟩
                unfold pv; rw [kt_no hkl cs]
            rintro _ w6 ⟨rfl, hE, hb, h20⟩
            have hwr : IntKind.i64.wrap ((k : Int) + 1) = ((k + 1 : Nat) : Int) := by
              obtain ⟨q, hq⟩ : ∃ q, ResD F w6 q l[j] := ⟨_, (h.ext hE).el j (by rw [h.len]; exact hlt) hlt⟩
              exact hq.targets.wr hkl
            rw [hwr]
            exact hK3 _ _ ⟨k + 1, rfl, hkl, rfl, hE, hb, h20⟩ (by dsimp only; omega)
          · refine iteF (by simpa using hgo) ?_
            have hfin : pv l r (l[j].targets.take k) = dv l (r + 1) j := by
              rw [← hpd]
              by_cases hkl : k < l[j].targets.length
              · have : pv l r (l[j].targets.take k) = 0 := by
                  by_cases hz : pv l r (l[j].targets.take k) = 0
                  · exact hz
                  · exact absurd ⟨hkl, by omega⟩ hgo
                rw [this, pv_zero this]
              · rw [List.take_of_length_le (by omega)]
            refine rnp_own sl77 hlt rfl ?_
            refine rnu_st1 sz3 h20 (by rw [mix_len]; exact hlt) rfl rfl fun w6 c6 h20 _ => ?_
            refine ⟨hE.then c6 (fun x hx => by omega), hb.chg c6 (by omega), ?_⟩
            rw [← mix_set hlt, ← hfin]; exact h20
        · refine iteT c2 ⟨hE, hb, ?_⟩
          rw [← mix_skip hlt]
          · exact h20
          · simp [dv, hlt, c2]
      · rintro _ w5 ⟨hE, hb, h20⟩
        rw [h.wr hlt]
        exact hK2 _ _ ⟨j + 1, rfl, hlt, hE, hb, h20⟩ (by omega)
    · rw [if_neg (by omega)]
      obtain rfl : j = l.length := by omega
      have hw : IntKind.i64.wrap ((r : Int) + 1) = ((r + 1 : Nat) : Int) := by rw [wrap_in ⟨by omega, by omega⟩]; rfl
      rw [hw]
      exact hK _ _ ⟨r + 1, b20, rfl, by omega, rfl, by omega, hE, by rw [← mix_full]; exact h20⟩ (by dsimp only; omega)
  · rw [if_neg (by omega)]
    obtain rfl : r = 8 := by omega
    refine ⟨hE, ?_⟩
    exact hb.rd rfl (fun _ _ => rfl) hbn (row_len l 8).symm (by unfold maxLen; omega)
end
end Go.Proofs.Ytdoeegfcmbcbkaa.Ct


namespace Go.Proofs.Ytdoeegfcmbcbkaa.Ct
open Go Go.Eng Tr
set_option linter.unusedVariables false
set_option maxRecDepth 100000

def Rets {α : Type} (enc : α → Value) (f : FuncId) (args : Array Value) (w : World) : Prop := Cal PP enc f args w fun x w' => Ext w w'
section
variable {w : World} {x y : ByteArray}
theorem begins13_ok (x y : ByteArray) : Rets Value.bool 128 #[.string x, .string y] w := by
  refine c128 ?_
  unfold f128
  refine Jn.dup ?_
  by_cases c : (y.size : Int) ≤ (x.size : Int)
  · rw [if_pos c]
    exact rnp_str_to Try.underlying9 rfl (by omega) (Ext.refl _)
  · rw [if_neg c]; exact Ext.refl _
theorem hasPrefix_ok (x y : ByteArray) : Rets Value.bool 116 #[.string x, .string y] w := by
  refine c116 ?_
  unfold f116
  refine Cal.mono (K := fun _ w' => Ext w w') ?_ (fun _ _ h => h)
  refine c138 ?_
  unfold f138
  refine Jn.dup ?_
  by_cases c : (y.size : Int) ≤ (x.size : Int)
  · rw [if_pos c]
    exact rnp_str_to Try.underlying9 rfl (by omega) (Ext.refl _)
  · rw [if_neg c]; exact Ext.refl _
theorem ends_ok (x y : ByteArray) (hx : x.size ≤ maxLen) : Cal PP Value.bool 143 #[.string x, .string y] w fun r w' => Ext w w' ∧ (r = true → y.size ≤ x.size) := by
  refine c143 ?_
  unfold f143
  refine Jn.dup ?_
  by_cases c : (y.size : Int) ≤ (x.size : Int)
  · rw [if_pos c]
    refine rnp_str_from (k := x.size - y.size) Try.underlying9 ?_ (by omega) ⟨Ext.refl _, fun _ => by omega⟩
    rw [wrap_sub hx (by omega)]
  · rw [if_neg c]; exact ⟨Ext.refl _, fun h => by simp at h⟩
theorem star_ok (x : ByteArray) (hx : x.size ≤ maxLen) : Cal PP (fun x : ByteArray × Bool => Value.tuple #[.string x.1, .bool x.2]) 127 #[.string x] w fun r w' => Ext w w' ∧ r.1.size ≤ x.size := by
  refine c127 ?_
  unfold f127
  refine (ends_ok x _ hx).mono ?_; rintro r w1 ⟨e1, h1⟩
  cases r with
  | true =>
    refine iteT rfl ?_
    have : 1 ≤ x.size := h1 rfl
    refine rnp_str_to (k := x.size - 1) Try.underlying9 (by have := wrap_sub hx this; simpa using this) (by omega) ⟨e1, ?_⟩
    simp only [ByteArray.size_extract]; omega
  | false => exact iteF (by simp) ⟨e1, Nat.le_refl _⟩
theorem isPath_ok (x : ByteArray) (hx : x.size ≤ maxLen) : Rets Value.bool 142 #[.string x] w := by
  refine c142 ?_
  unfold f142
  refine Lp.mk (fun (i : Int) w' => ∃ k : Nat, i = k ∧ k ≤ x.size ∧ Ext w w') (fun i => x.size - i.toNat) ⟨0, rfl, Nat.zero_le _, Ext.refl _⟩ ?_
  rintro i w1 K ⟨k, rfl, hk, hE⟩ hK
  by_cases hlt : k < x.size
  · rw [if_pos (by omega)]
    have no : K (IntKind.i64.wrap ((k : Int) + 1)) w1 := by
      rw [wrap_succ (by omega)]; exact hK _ _ ⟨k + 1, rfl, hlt, hE⟩ (by omega)
    have fin : ∀ b : Bool, if b = true then Ext w w1 else K (IntKind.i64.wrap ((k : Int) + 1)) w1 := fun b => by
      cases b
      · exact iteF (by simp) no
      · exact iteT rfl hE
    refine Jn.dup ?_
    refine rnp_byte Try.underlying9 rfl hlt ?_
    by_cases c : ((x[k].toNat : Nat) : Int) < 33
    · rw [if_pos c]; exact fin true
    · rw [if_neg c]
      exact rnp_byte Try.underlying9 rfl hlt (fin _)
  · rw [if_neg (by omega)]
    refine Jn.dup ?_
    by_cases c1 : 1 ≤ (x.size : Int)
    · rw [if_pos c1]
      by_cases c2 : (x.size : Int) ≤ 256
      · rw [if_pos c2]
        exact rnp_byte (k := 0) Try.underlying9 rfl (by omega) hE
      · rw [if_neg c2]; exact hE
    · rw [if_neg c1]; exact hE
theorem pattern13_ok (x : ByteArray) (hx : x.size ≤ maxLen) : Rets Value.bool 126 #[.string x] w := by
  refine c126 ?_
  unfold f126
  refine (star_ok x hx).mono ?_; rintro ⟨p, b⟩ w1 ⟨e1, h1⟩
  refine Jn.dup ?_
  have fin : Cal PP Value.bool 142 #[.string p] w1 fun _ w' => Ext w w' := (isPath_ok p (Nat.le_trans h1 hx)).mono fun _ _ h => e1.trans h
  cases b with
  | true =>
    refine iteT rfl ?_
    by_cases c : p = ⟨#[]⟩
    · exact iteT c e1
    · exact iteF c fin
  | false => exact iteF (by simp) fin
theorem covers13_ok (x y : ByteArray) (hx : x.size ≤ maxLen) (hy : y.size ≤ maxLen) : Rets Value.bool 103 #[.string x, .string y] w := by
  refine c103 ?_
  unfold f103
  refine ⟨fun _ w' => Ext w w', ?_, ?_⟩
  · refine (pattern13_ok x hx).mono ?_; rintro r w1 e1
    cases r with
    | true => exact iteF (by simp) ((pattern13_ok y hy).mono fun _ _ h => e1.trans h)
    | false => exact iteT rfl e1
  rintro b w1 e1
  cases b with
  | true => exact iteT rfl e1
  | false =>
    refine iteF (by simp) ?_
    refine (star_ok x hx).mono ?_; rintro ⟨p, b⟩ w2 ⟨e2, h2⟩
    refine (star_ok y hy).mono ?_; rintro ⟨q, b'⟩ w3 ⟨e3, h3⟩
    have e := e1.trans (e2.trans e3)
    refine Jn.dup ?_
    by_cases c : x = y
    · rw [if_pos c]; exact e
    · rw [if_neg c]
      cases b with
      | true => exact iteT rfl ((begins13_ok q p).mono fun _ _ h => e.trans h)
      | false => exact iteF (by simp) e
end
end Go.Proofs.Ytdoeegfcmbcbkaa.Ct


namespace Go.Proofs.Ytdoeegfcmbcbkaa.Ct
open Go Go.Eng Tr
set_option linter.unusedVariables false
set_option maxRecDepth 100000

section
variable {w : World} {F : Nat → Prop}
theorem suffix_ok (x y : ByteArray) (hx : x.size ≤ maxLen) : Cal PP Value.bool 139 #[.string x, .string y] w fun r w' => Ext w w' ∧ (r = true → y.size ≤ x.size) := by
  refine c139 ?_
  unfold f139
  refine Jn.dup ?_
  by_cases c : (y.size : Int) ≤ (x.size : Int)
  · rw [if_pos c]
    refine rnp_str_from (k := x.size - y.size) Try.underlying9 ?_ (by omega) ⟨Ext.refl _, fun _ => by omega⟩
    rw [wrap_sub hx (by omega)]
  · rw [if_neg c]; exact ⟨Ext.refl _, fun h => by simp at h⟩
theorem cut_ok (x y : ByteArray) (hx : x.size ≤ maxLen) : Cal PP (fun x : ByteArray × Bool => Value.tuple #[.string x.1, .bool x.2]) 156 #[.string x, .string y] w fun r w' => Ext w w' ∧ r.1.size ≤ x.size := by
  refine c156 ?_
  unfold f156
  refine Cal.mono (K := fun r w' => Ext w w' ∧ r.1.size ≤ x.size) ?_ (fun r w' h => h)
  refine c165 ?_
  unfold f165
  refine (suffix_ok x y hx).mono ?_; rintro r w1 ⟨e1, h1⟩
  cases r with
  | false => exact iteT rfl ⟨e1, Nat.le_refl _⟩
  | true =>
    refine iteF (by simp) ?_
    have : y.size ≤ x.size := h1 rfl
    refine rnp_str_to (k := x.size - y.size) Try.underlying9 (wrap_sub hx this) (by omega) ⟨e1, ?_⟩
    simp only [ByteArray.size_extract]; omega
theorem begins_ok (x : ByteArray) (hx : x.size ≤ maxLen) : Cal PP (fun x : ByteArray × Bool => Value.tuple #[.string x.1, .bool x.2]) 140 #[.string x] w fun r w' => Ext w w' ∧ r.1.size ≤ x.size := by
  refine c140 ?_
  unfold f140
  exact (cut_ok x _ hx).mono fun r w' h => h
theorem path_ok (x : ByteArray) (hx : x.size ≤ maxLen) : Rets Value.bool 157 #[.string x] w := by
  refine c157 ?_
  unfold f157
  refine ⟨fun b w' => Ext w w', ?_, ?_⟩
  · by_cases c1 : (x.size : Int) < 1
    · exact iteT c1 (Ext.refl _)
    · refine iteF c1 ?_
      by_cases c2 : 256 < (x.size : Int)
      · exact iteT c2 (Ext.refl _)
      · refine iteF c2 ?_
        exact rnp_byte (k := 0) Try.underlying9 rfl (by omega) (Ext.refl _)
  rintro b w1 e1
  cases b with
  | true => exact iteT rfl e1
  | false =>
    refine iteF (by simp) ?_
    refine Lp.mk (fun (i : Int) w' => ∃ k : Nat, i = k ∧ k ≤ x.size ∧ Ext w w') (fun i => x.size - i.toNat) ⟨0, rfl, Nat.zero_le _, e1⟩ ?_
    rintro i w1 K ⟨k, rfl, hk, hE⟩ hK
    by_cases hlt : k < x.size
    · rw [if_pos (by omega)]
      have no : K (IntKind.i64.wrap ((k : Int) + 1)) w1 := by
        rw [wrap_succ (by omega)]; exact hK _ _ ⟨k + 1, rfl, hlt, hE⟩ (by omega)
      have fin : ∀ b : Bool, if b = true then Ext w w1 else K (IntKind.i64.wrap ((k : Int) + 1)) w1 := fun b => by
        cases b
        · exact iteF (by simp) no
        · exact iteT rfl hE
      refine Jn.dup ?_
      refine rnp_byte Try.underlying9 rfl hlt ?_
      by_cases c : ((x[k].toNat : Nat) : Int) < 33
      · rw [if_pos c]; exact fin true
      · rw [if_neg c]
        exact rnp_byte Try.underlying9 rfl hlt (fin _)
    · rw [if_neg (by omega)]; exact hE
theorem pattern_ok (x : ByteArray) (hx : x.size ≤ maxLen) : Rets Value.bool 141 #[.string x] w := by
  refine c141 ?_
  unfold f141
  refine (begins_ok x hx).mono ?_; rintro ⟨p, b⟩ w1 ⟨e1, h1⟩
  refine Jn.dup ?_
  have fin : Cal PP Value.bool 157 #[.string p] w1 fun _ w' => Ext w w' := (path_ok p (Nat.le_trans h1 hx)).mono fun _ _ h => e1.trans h
  cases b with
  | true =>
    refine iteT rfl ?_
    by_cases c : p = ⟨#[]⟩
    · exact iteT c e1
    · exact iteF c fin
  | false => exact iteF (by simp) fin
theorem covers_ok (x y : ByteArray) (hx : x.size ≤ maxLen) (hy : y.size ≤ maxLen) : Rets Value.bool 123 #[.string x, .string y] w := by
  refine c123 ?_
  unfold f123
  refine (begins_ok x hx).mono ?_; rintro ⟨p, b⟩ w1 ⟨e1, h1⟩
  refine (begins_ok y hy).mono ?_; rintro ⟨q, b'⟩ w2 ⟨e2, h2⟩
  refine Jn.dup ?_
  refine (pattern_ok x hx).mono ?_; rintro r w3 e3
  have e := (e1.trans e2).trans e3
  cases r with
  | false => exact iteF (by simp) e
  | true =>
    refine iteT rfl ?_
    refine (pattern_ok y hy).mono ?_; rintro r w4 e4
    replace e := e.trans e4
    cases r with
    | false => exact iteF (by simp) e
    | true =>
      refine iteT rfl ?_
      by_cases c : x = y
      · rw [if_pos c]; exact e
      · rw [if_neg c]
        cases b with
        | true => exact iteT rfl ((hasPrefix_ok q p).mono fun _ _ h => e.trans h)
        | false => exact iteF (by simp) e
theorem shadow1_ok {y r : TRule} {b : Nat} (hb : Blk w b 91 (TRule.cells r)) (hy : y.Path.size ≤ maxLen) (hr : r.Path.size ≤ maxLen) : Rets Value.bool 122 #[y.v, Ptr ⟨b, 0, none⟩] w := by
  refine c122 ?_
  unfold f122
  refine New.mk fun b2 w1 e1 h1 _ _ => ?_
  replace hb := hb.ext e1
  refine Jn.dup ?_
  refine rn_blk one9 h1 rfl rfl ?_
  have fin : Cal PP Value.bool 123 #[.string y.Path, .string r.Path] w1 fun _ w' => Ext w w' := (covers_ok _ _ hy hr).mono fun _ _ h => e1.trans h
  by_cases c : y.Method = ⟨#[42]⟩
  · refine iteT c ?_
    refine rn_blk one9 h1 rfl rfl ?_
    refine rn_blk one9 hb rfl rfl ?_
    exact fin
  · refine iteF c ?_
    refine rn_blk one9 h1 rfl rfl ?_
    refine rn_blk one9 hb rfl rfl ?_
    by_cases c2 : y.Method = r.Method
    · refine iteT c2 ?_
      refine rn_blk one9 h1 rfl rfl ?_
      refine rn_blk one9 hb rfl rfl ?_
      exact fin
    · exact iteF c2 e1
theorem index121_ok {s : Sl} {l : List TRule} (h : Rd TRule.cells 4 F w s l) {r : TRule} {b : Nat} (hb : Blk w b 91 (TRule.cells r)) (hl : ∀ y ∈ l, y.Path.size ≤ maxLen) (hr : r.Path.size ≤ maxLen) :
    Rets (Value.int .i64) 121 #[s.v, .func (.func 122) #[] #[Ptr ⟨b, 0, none⟩]] w := by
  refine c121 ?_
  unfold f121
  refine Lp.mk (fun (i : Int) w' => ∃ k : Nat, i = k ∧ k ≤ l.length ∧ Ext w w') (fun i => l.length - i.toNat) ⟨0, rfl, Nat.zero_le _, Ext.refl _⟩ ?_
  rintro i w1 K ⟨k, rfl, hk, hE⟩ hK
  by_cases hlt : k < l.length
  · rw [if_pos (by rw [h.len]; omega)]
    refine rnp_idx sl46 (h.ext hE) hlt rfl fun p _ hp => ?_
    refine rn_ldN (x := l[k]) many91 hp rfl rfl ?_
    refine ⟨122, #[], #[Ptr ⟨b, 0, none⟩], rfl, fun vs w => enters Try.func122 rfl rfl vs w, ?_⟩
    refine Cal.mono (shadow1_ok (y := l[k]) (hb.ext hE) (hl _ (List.getElem_mem hlt)) hr) ?_
    rintro x w2 e2
    cases x with
    | true => exact iteT rfl (hE.trans e2)
    | false =>
      refine iteF (by simp) ?_
      rw [h.wr hlt]; exact hK _ _ ⟨k + 1, rfl, hlt, hE.trans e2⟩ (by omega)
  · rw [if_neg (by rw [h.len]; omega)]; exact hE
def tot (l : List DRes) : Nat := (l.map fun d => d.rules.length).sum
theorem tot_take {l : List DRes} {k : Nat} (h : k < l.length) : tot (l.take (k + 1)) = tot (l.take k) + l[k].rules.length := by
  unfold tot; rw [List.take_add_one, List.getElem?_eq_getElem h, List.map_append, List.sum_append]; simp
theorem tot_le (l : List DRes) : ∀ k, tot (l.take k) ≤ tot l := fun k => by
  have : tot l = tot (l.take k) + tot (l.drop k) := by
    unfold tot; rw [← List.sum_append, ← List.map_append, List.take_append_drop]
  omega
theorem oc_warn (x : TWarning) : ∀ u ∈ TWarning.cells x, u.oneCell' = true := by simp [TWarning.cells, Value.oneCell']
theorem shadows_ok {s : Sl} {rs : List TResource} {l : List DRes} (h : ConfD F w s rs l) (hp : ∀ d ∈ l, ∀ r ∈ d.rules, r.Path.size ≤ maxLen) (ht : (tot l + 1) * 24 ≤ 140737488355328) : Rets Sl.v 97 #[s.v] w := by
  refine c97 ?_
  unfold f97
  refine Lp.mk (fun (y : Sl × Int) w' => ∃ (k : Nat) (ws : List TWarning), y.2 = k ∧ k ≤ l.length ∧ Ext w w' ∧ Own TWarning.cells 3 177 w.heap.size w' y.1 ws ∧ ws.length ≤ tot (l.take k)) (fun y => l.length - y.2.toNat)
    ⟨0, [], rfl, Nat.zero_le _, Ext.refl _, Own.nil_ _ _, Nat.zero_le _⟩ ?_
  rintro ⟨y, _⟩ w1 K ⟨k, ws, rfl, hk, hE, hO, hn⟩ hK
  dsimp only at hO ⊢
  by_cases hlt : k < l.length
  · rw [if_pos (by rw [h.n]; omega)]
    have htot := tot_take hlt
    have htl := tot_le l (k + 1)
    refine ⟨fun y w' => ∃ ws, Ext w w' ∧ Own TWarning.cells 3 177 w.heap.size w' y ws ∧ ws.length ≤ tot (l.take (k + 1)), ?_, ?_⟩
    · have hlr : k < rs.length := by rw [h.len]; exact hlt
      have hr0 := h.el k hlr hlt
      refine rnp_idx sl22 (h.ext hE).rd hlr rfl fun p _ hp' => ?_
      generalize rs[k] = r at hr0 hp'
      refine rn_ldN (x := r) many48 hp' rfl rfl ?_
      have hlow : ∀ b, own? y b → b < w1.heap.size := fun b hb => (hO.ge hb).2
      refine New.var (TResource.cells r) sz48 rfl (oc_res r) rfl fun b4 w2 e2 h4 hb4 => ?_
      replace hE := hE.trans e2; replace hO := hO.ext e2
      refine ⟨fun b w' => w' = w2, ?_, ?_⟩
      · refine rn_blk one3 h4 rfl rfl ?_
        by_cases c : r.Kind ≠ 3
        · exact iteT c (rn_blk one3 h4 rfl rfl rfl)
        · exact iteF c rfl
      rintro b _ rfl
      cases b with
      | true => exact iteT rfl ⟨ws, hE, hO, by omega⟩
      | false =>
        refine iteF (by simp) ?_
        refine rn_blk one46 h4 rfl rfl ?_
        have hru := hr0.rules
        have hpr := hp _ (List.getElem_mem hlt)
        refine Lp.mk (fun (z : Sl × Int) w' => ∃ (j : Nat) (ws : List TWarning), z.2 = j ∧ j ≤ l[k].rules.length ∧ Ext w w' ∧ Blk w' b4 48 (TResource.cells r) ∧ Own TWarning.cells 3 177 w.heap.size w' z.1 ws ∧
            (∀ b, own? z.1 b → b ≠ b4) ∧ ws.length ≤ tot (l.take k) + j) (fun z => l[k].rules.length - z.2.toNat)
          ⟨0, ws, rfl, Nat.zero_le _, hE, h4, hO, fun b hb => by have := hlow b hb; omega, by omega⟩ ?_
        rintro ⟨z, _⟩ w3 K2 ⟨j, ws, rfl, hj, hE, h4, hO, hne, hn⟩ hK2
        dsimp only at hO hne ⊢
        have hru3 := hru.ext hE
        by_cases hjl : j < l[k].rules.length
        · rw [if_pos (by rw [hru.len]; omega)]
          refine ⟨fun z w' => ∃ ws, Ext w w' ∧ Blk w' b4 48 (TResource.cells r) ∧ Own TWarning.cells 3 177 w.heap.size w' z ws ∧ (∀ b, own? z b → b ≠ b4) ∧ ws.length ≤ tot (l.take k) + (j + 1), ?_, ?_⟩
          · refine rnp_idx sl46 hru3 hjl rfl fun p _ hp' => ?_
            refine rn_ldN (x := l[k].rules[j]) many91 hp' rfl rfl ?_
            refine New.var (TRule.cells l[k].rules[j]) sz91 rfl (oc_rule _) rfl fun b6 w4 e4 h6 _ => ?_
            replace hE := hE.trans e4; replace h4 := h4.ext e4; replace hO := hO.ext e4
            refine rn_blk one46 h4 rfl rfl ?_
            refine rnp_slice sl46 none (some j) rfl rfl (Nat.zero_le _) (by have := hru.cap; have := hru.len; simp; omega) ?_
            simp only [Option.getD_none, Option.getD_some, Sl.cut_zero]
            refine Cal.mono (index121_ok ((hru.ext hE).take (by omega)) h6 (fun y hy => hpr y (List.mem_of_mem_take hy)) (hpr _ (List.getElem_mem hjl))) ?_
            rintro x w5 e5
            replace hE := hE.trans e5; replace h4 := h4.ext e5; replace hO := hO.ext e5
            by_cases cx : 0 ≤ x
            · refine iteT cx ?_
              have hl4 := h4.lt
              refine New.mk fun b44 w6 e6 h44 hb44 s6 => ?_
              replace hE := hE.trans e6; replace h4 := h4.ext e6; replace hO := hO.ext e6
              have hsz := hE.size
              refine rn_app1 (x := (⟨k, j, x⟩ : TWarning)) el78 hO h44 rfl rfl (oc_warn _) (by omega) (by decide) hsz fun z' w7 hO' c7 n7 => ?_
              have hl4 := h4.lt
              exact ⟨_, hE.then c7 (fun b hb => (hO.ge hb).1), h4.chg c7 (fun hb => hne _ hb rfl), hO', fun b hb => by
                rcases n7 b hb with h | h
                · exact hne b h
                · omega, by simp; omega⟩
            · exact iteF cx ⟨ws, hE, h4, hO, hne, by omega⟩
          · rintro z w4 ⟨ws, hE, h4, hO, hne, hn⟩
            rw [hru.wr hjl]
            exact hK2 _ _ ⟨j + 1, ws, rfl, hjl, hE, h4, hO, hne, hn⟩ (by dsimp only; omega)
        · rw [if_neg (by rw [hru.len]; omega)]
          exact ⟨ws, hE, hO, by omega⟩
    · rintro y w2 ⟨ws, hE, hO, hn⟩
      rw [h.wr hlt]
      exact hK _ _ ⟨k + 1, ws, rfl, hlt, hE, hO, hn⟩ (by dsimp only; omega)
  · rw [if_neg (by rw [h.n]; omega)]; exact hE
end
end Go.Proofs.Ytdoeegfcmbcbkaa.Ct


namespace Go.Proofs.Ytdoeegfcmbcbkaa.Ct
open Go Go.Eng Tr
set_option linter.unusedVariables false

theorem kLt_irrefl (k : Int) (n : ByteArray) : kLt k n k n = false := by simp [kLt, sLt_irrefl]
theorem kLt_trans {a b c : Int} {x y z : ByteArray} (h : kLt a x b y = true) (k : kLt b y c z = true) : kLt a x c z = true := by
  simp only [kLt, Bool.or_eq_true, decide_eq_true_eq, Bool.and_eq_true] at h k ⊢
  rcases h with h | ⟨rfl, h⟩
  · rcases k with k | ⟨rfl, k⟩
    · exact .inl (by omega)
    · exact .inl h
  · rcases k with k | ⟨rfl, k⟩
    · exact .inl k
    · exact .inr ⟨rfl, sLt_trans h k⟩
section
variable {l : List DRes}
theorem out_next (h : ∀ i, i < l.length → outAt l i = false) {j : Nat} (hj : j + 1 < l.length) : kLt l[j].kind l[j].name l[j + 1].kind l[j + 1].name = true := by
  have := h (j + 1) hj
  rw [outAt_eq hj] at this
  simp only [Bool.or_eq_false_iff, Nat.add_sub_cancel, List.getElem?_eq_getElem (show j < l.length by omega)] at this
  obtain ⟨_, _, _, h4⟩ := this
  simpa using h4
theorem out_lt (h : ∀ i, i < l.length → outAt l i = false) {i : Nat} : ∀ {j : Nat} (hj : j < l.length) (hij : i < j), kLt (l[i]'(by omega)).kind (l[i]'(by omega)).name l[j].kind l[j].name = true
  | j + 1, hj, hij => by
    by_cases e : i = j
    · subst e; exact out_next h hj
    · exact kLt_trans (out_lt h (j := j) (by omega) (by omega)) (out_next h hj)
theorem out_uniq (h : ∀ i, i < l.length → outAt l i = false) {i j : Nat} (hi : i < l.length) (hj : j < l.length) (hk : l[i].kind = l[j].kind) (hn : l[i].name = l[j].name) : i = j := by
  rcases Nat.lt_trichotomy i j with c | c | c
  · have := out_lt h hj c; rw [hk, hn, kLt_irrefl] at this; cases this
  · exact c
  · have := out_lt h hi c; rw [hk, hn, kLt_irrefl] at this; cases this
theorem fst?_neg {p : Nat → Bool} {n : Nat} (h : fst? p n < 0) : ∀ i, i < n → p i = false := fun i hi => by
  rcases fst?_le (p := p) (n := n) with h' | ⟨k, h1, _⟩
  · unfold fst? at h'
    cases hf : (List.range n).find? p with
    | none =>
      have := List.find?_eq_none.1 hf i (by simpa using hi)
      simpa using this
    | some k => rw [hf] at h'; simp only at h'; omega
  · omega
theorem splitOf_self (h : ∀ i, i < l.length → outAt l i = false) : ∀ d ∈ l, d.kind = 2 → splitOf l d.name = some d := fun d hd hk => by
  obtain ⟨i, hi, rfl⟩ := List.mem_iff_getElem.1 hd
  cases hf : splitOf l l[i].name with
  | none =>
    have := List.find?_eq_none.1 hf l[i] (List.getElem_mem hi)
    simp [hk] at this
  | some d' =>
    have h1 := List.find?_some hf
    have h2 := List.mem_of_find?_eq_some hf
    obtain ⟨j, hj, rfl⟩ := List.mem_iff_getElem.1 h2
    simp only [Bool.and_eq_true, decide_eq_true_eq] at h1
    have := out_uniq h hj hi (by rw [h1.1, hk]) h1.2
    subst this; rfl
theorem has_any (kind : Int) (n : ByteArray) : has l kind n = l.any fun d => decide (d.kind = kind) && decide (d.name = n) := by
  cases ha : l.any fun d => decide (d.kind = kind) && decide (d.name = n) with
  | true =>
    obtain ⟨d, hd, h⟩ := List.any_eq_true.1 ha
    obtain ⟨i, hi, rfl⟩ := List.mem_iff_getElem.1 hd
    unfold has
    rw [decide_eq_true_eq]
    by_cases c : 0 ≤ fst? (isAt l kind n) l.length
    · exact c
    · have := fst?_neg (by omega : fst? (isAt l kind n) l.length < 0) i hi
      rw [isAt_eq hi, h] at this; cases this
  | false =>
    unfold has
    rw [decide_eq_false_iff_not]
    rcases fst?_le (p := isAt l kind n) (n := l.length) with h' | ⟨k, h1, h2, h3⟩
    · omega
    · rw [isAt_eq h2] at h3
      have := List.any_eq_false.1 ha l[k] (List.getElem_mem h2)
      exact absurd h3 this
theorem has_split {n : ByteArray} (h : has l 2 n = true) : (splitOf l n).isSome = true := by
  obtain ⟨k, _, hk, h1, h2⟩ := has_at h
  unfold splitOf
  rw [List.find?_isSome]
  exact ⟨l[k], List.getElem_mem hk, by simp [h1, h2]⟩
def dangAt (l : List DRes) (i : Nat) : Bool := match l[i]? with
  | none => false
  | some d => decide (0 ≤ dang (has l) d)
def lineAt (l : List DRes) (i : Int) : Int := match l[i.toNat]? with
  | none => 0
  | some d => dang (has l) d
def twinAt (l : List DRes) (i : Nat) : Bool := match l[i]? with
  | none => false
  | some d => decide (d.kind = 3) && (l.take i).any fun c => decide (c.kind = 3) && decide (c.host = d.host)
def heavyAt (l : List DRes) (i : Nat) : Bool := match l[i]? with
  | none => false
  | some d => decide (d.kind = 2) && heavyS d.targets
def deepAt (l : List DRes) (i : Nat) : Bool := match l[i]? with
  | none => false
  | some d => decide (d.kind = 2) && decide (8 < hd l 8 d.name)
def faultS (l : List DRes) : Int × Int × Int :=
  let n := l.length
  if 0 ≤ fst? (outAt l) n then (fst? (outAt l) n, 0, 2)
  else if 64 < n then (0, 0, 124)
  else if 0 ≤ fst? (dangAt l) n then (fst? (dangAt l) n, lineAt l (fst? (dangAt l) n), 140)
  else if 0 ≤ fst? (twinAt l) n then (fst? (twinAt l) n, 0, 141)
  else if 0 ≤ fst? (heavyAt l) n then (fst? (heavyAt l) n, 0, 142)
  else if 0 ≤ fst? (deepAt l) n then (fst? (deepAt l) n, 0, 143)
  else (0, 0, 0)
theorem dangAt_eq {i : Nat} (h : i < l.length) : dangAt l i = decide (0 ≤ dang (has l) l[i]) := by simp only [dangAt, List.getElem?_eq_getElem h]
theorem lineAt_eq {i : Nat} (h : i < l.length) : lineAt l i = dang (has l) l[i] := by simp only [lineAt, Int.toNat_natCast, List.getElem?_eq_getElem h]
theorem twinAt_eq {i : Nat} (h : i < l.length) : twinAt l i = (decide (l[i].kind = 3) && (l.take i).any fun c => decide (c.kind = 3) && decide (c.host = l[i].host)) := by simp only [twinAt, List.getElem?_eq_getElem h]
theorem heavyAt_eq {i : Nat} (h : i < l.length) : heavyAt l i = (decide (l[i].kind = 2) && heavyS l[i].targets) := by simp only [heavyAt, List.getElem?_eq_getElem h]
theorem deepAt_eq {i : Nat} (h : i < l.length) : deepAt l i = (decide (l[i].kind = 2) && decide (8 < hd l 8 l[i].name)) := by simp only [deepAt, List.getElem?_eq_getElem h]
theorem no_dang (h : ∀ i, i < l.length → dangAt l i = false) : ∀ n d t, splitOf l n = some d → t ∈ kidsOf d → has l 2 t = true := fun n d t hs ht => by
  have h1 := List.find?_some hs
  have h2 := List.mem_of_find?_eq_some hs
  simp only [Bool.and_eq_true, decide_eq_true_eq] at h1
  obtain ⟨i, hi, rfl⟩ := List.mem_iff_getElem.1 h2
  have h3 := h i hi
  rw [dangAt_eq hi, decide_eq_false_iff_not] at h3
  unfold dang at h3
  rw [if_pos h1.1] at h3
  have h4 : fst? (badT (has l) l[i].targets) l[i].targets.length < 0 := by
    by_cases c : fst? (badT (has l) l[i].targets) l[i].targets.length < 0
    · exact c
    · unfold line? at h3; rw [if_neg c] at h3; omega
  have h5 := fst?_neg h4
  unfold kidsOf at ht
  obtain ⟨tt, htt, rfl⟩ := List.mem_map.1 ht
  obtain ⟨h6, h7⟩ := List.mem_filter.1 htt
  obtain ⟨k, hk, rfl⟩ := List.mem_iff_getElem.1 h6
  have h8 := h5 k hk
  rw [badT_eq hk, if_pos (by simpa using h7)] at h8
  simpa using h8
end
end Go.Proofs.Ytdoeegfcmbcbkaa.Ct


namespace Go.Proofs.Ytdoeegfcmbcbkaa.Ct
open Go Go.Eng Tr
set_option linter.unusedVariables false
set_option maxRecDepth 100000

theorem Rd.low {α : Type} {cells : α → List Value} {sz : Nat} {F : Nat → Prop} {w : World} {s : Sl} {l : List α} (h : Rd cells sz F w s l) (h0 : ∀ x, 0 < (cells x).length) : Rd cells sz (fun b => F b ∧ b < w.heap.size) w s l :=
  ⟨h.len, h.cap, h.lim, fun k hk => let ⟨a, h1, h2, h3⟩ := h.el k hk; ⟨a, h1, ⟨h2, by
    have h4 := h3 0 (h0 _)
    have := World.block_lt_of_cell? w _ h4
    rwa [add_block, add_block] at this⟩, h3⟩⟩
theorem ConfD.low {F : Nat → Prop} {w : World} {s : Sl} {rs : List TResource} {l : List DRes} (h : ConfD F w s rs l) : ConfD (fun b => F b ∧ b < w.heap.size) w s rs l :=
  ⟨Rd.low h.rd (fun _ => by simp [TResource.cells]), h.len, fun i a b => let r := h.el i a b; ⟨r.kind, r.name, Rd.low r.ends (fun _ => by simp [bs]), Rd.low r.targets (fun _ => by simp [TTarget.cells]), r.host, Rd.low r.rules (fun _ => by simp [TRule.cells]), r.route, r.del⟩⟩
theorem oc_fault (x : TFault) : ∀ u ∈ TFault.cells x, u.oneCell' = true := by simp [TFault.cells, Value.oneCell']
theorem fault_out {w w' : World} {b : Nat} {g f : TFault} {K : TFault → World → Prop} (h3 : Blk w' b 80 (TFault.cells g)) (hE : Ext w w') (hb : w.heap.size ≤ b) (hk : ∀ w'', Ext w w'' → K f w'') :
    RnU PP (Instr.storeAt 80 (Ptr ⟨b, 0, none⟩) (TFault.v f)) w' fun w => RnR PP TFault.v (loadVar 80 ⟨b, 0, none⟩) w fun r => K r w :=
  rnu_st (b := b) (o := 0) rfl h3 (TFault.cells f) sz80 rfl (oc_fault f) (by simp [TFault.cells]) fun w2 c2 _ hb2 =>
    rnr_ldN (x := f) many80 (show Blk w2 b 80 (TFault.cells f) from hb2).whole rfl rfl (hk w2 (hE.then c2 fun x hx => by omega))
def faultM (l : List DRes) : TFault := ⟨(faultS l).1, (faultS l).2.1, (faultS l).2.2⟩
section
variable {l : List DRes} {k : Nat}
theorem fs_out (h : 0 ≤ fst? (outAt l) l.length) : faultM l = ⟨fst? (outAt l) l.length, 0, 2⟩ := by simp [faultM, faultS, h]
theorem fs_big (h : ¬ 0 ≤ fst? (outAt l) l.length) (h2 : 64 < l.length) : faultM l = ⟨0, 0, 124⟩ := by simp [faultM, faultS, h, h2]
theorem fs_dang (h : ¬ 0 ≤ fst? (outAt l) l.length) (h2 : ¬ 64 < l.length) (hk : k < l.length) (hp : dangAt l k = true) (ha : ∀ j, j < k → dangAt l j = false) : faultM l = ⟨k, dang (has l) l[k], 140⟩ := by
  have h3 := fst?_some hk hp ha
  simp [faultM, faultS, h, h2, h3, lineAt_eq hk]
theorem fs_twin (h : ¬ 0 ≤ fst? (outAt l) l.length) (h2 : ¬ 64 < l.length) (h3 : ∀ j, j < l.length → dangAt l j = false) (hk : k < l.length) (hp : twinAt l k = true) (ha : ∀ j, j < k → twinAt l j = false) : faultM l = ⟨k, 0, 141⟩ := by
  have e3 := fst?_none h3
  have h4 := fst?_some hk hp ha
  simp [faultM, faultS, h, h2, e3, h4]
theorem fs_heavy (h : ¬ 0 ≤ fst? (outAt l) l.length) (h2 : ¬ 64 < l.length) (h3 : ∀ j, j < l.length → dangAt l j = false) (h4 : ∀ j, j < l.length → twinAt l j = false) (hk : k < l.length) (hp : heavyAt l k = true) (ha : ∀ j, j < k → heavyAt l j = false) : faultM l = ⟨k, 0, 142⟩ := by
  have e3 := fst?_none h3
  have e4 := fst?_none h4
  have h5 := fst?_some hk hp ha
  simp [faultM, faultS, h, h2, e3, e4, h5]
theorem fs_deep (h : ¬ 0 ≤ fst? (outAt l) l.length) (h2 : ¬ 64 < l.length) (h3 : ∀ j, j < l.length → dangAt l j = false) (h4 : ∀ j, j < l.length → twinAt l j = false) (h5 : ∀ j, j < l.length → heavyAt l j = false) (hk : k < l.length) (hp : deepAt l k = true) (ha : ∀ j, j < k → deepAt l j = false) : faultM l = ⟨k, 0, 143⟩ := by
  have e3 := fst?_none h3
  have e4 := fst?_none h4
  have e5 := fst?_none h5
  have h6 := fst?_some hk hp ha
  simp [faultM, faultS, h, h2, e3, e4, e5, h6]
theorem fs_none (h : ¬ 0 ≤ fst? (outAt l) l.length) (h2 : ¬ 64 < l.length) (h3 : ∀ j, j < l.length → dangAt l j = false) (h4 : ∀ j, j < l.length → twinAt l j = false) (h5 : ∀ j, j < l.length → heavyAt l j = false) (h6 : ∀ j, j < l.length → deepAt l j = false) : faultM l = ⟨0, 0, 0⟩ := by
  have e3 := fst?_none h3
  have e4 := fst?_none h4
  have e5 := fst?_none h5
  have e6 := fst?_none h6
  simp [faultM, faultS, h, h2, e3, e4, e5, e6]
end
end Go.Proofs.Ytdoeegfcmbcbkaa.Ct


namespace Go.Proofs.Ytdoeegfcmbcbkaa.Ct
open Go Go.Eng Tr
set_option linter.unusedVariables false
set_option maxRecDepth 100000

structure Fit (l : List DRes) : Prop where
  paths : ∀ d ∈ l, ∀ r ∈ d.rules, r.Path.size ≤ maxLen
  tot : (tot l + 1) * 24 ≤ 140737488355328
section
variable {w : World} {F : Nat → Prop} {s : Sl} {rs : List TResource} {l : List DRes}
structure Filled (l : List DRes) (rs : List TResource) (b3 b29 b30 b31 b33 : Nat) (k : Nat) (w : World) : Prop where
  b3 : Blk w b3 80 (TFault.cells ⟨0, 0, 0⟩)
  b33 : Blk w b33 148 [.map (some b30), .map (some b31)]
  known : Mp Value.string (Value.int .i64) w b31 []
  there : ∃ m, Mp TKey.v Value.bool w b29 m ∧ ∀ kd n, (mget m ⟨kd, n⟩).getD false = (l.take k).any fun d => decide (d.kind = kd) && decide (d.name = n)
  splits : ∃ ms, Mp Value.string TResource.v w b30 ms ∧ ∀ j (h : j < l.length) (h' : j < rs.length), j < k → l[j].kind = 2 → mget ms l[j].name = some rs[j]
theorem check_ok (h : ConfD F w s rs l) (hf : Fit l) :
    Cal PP (fun x : Sl × TFault => Value.tuple #[Sl.v x.1, TFault.v x.2]) 46 #[s.v] w fun x w' => Ext w w' ∧ x.2 = faultM l := by
  have hlow := h.low
  refine c46 ?_
  unfold f46
  refine New.mk fun b3 w1 e1 h3 n3 s3 => ?_
  refine (outs_ok (h.ext e1)).mono ?_; rintro _ w2 ⟨e2, rfl⟩
  replace h3 := h3.ext e2
  replace e1 := e1.trans e2
  have hsz := e1.size
  have g2 := e2.size
  by_cases c1 : 0 ≤ fst? (outAt l) l.length
  · exact iteT c1 (fault_out h3 e1 (by omega) fun w'' e => ⟨e, (fs_out c1).symm⟩)
  refine iteF c1 ?_
  by_cases c2 : 64 < l.length
  · exact iteT (by rw [h.n]; omega) (fault_out h3 e1 (by omega) fun w'' e => ⟨e, (fs_big c1 c2).symm⟩)
  refine iteF (by rw [h.n]; omega) ?_
  have hord := fst?_neg (by omega : fst? (outAt l) l.length < 0)
  refine NewM.mk fun b29 w3 e3 h29 n29 s29 => ?_
  refine NewM.mk fun b30 w4 e4 h30 n30 s30 => ?_
  refine NewM.mk fun b31 w5 e5 h31 n31 s31 => ?_
  refine New.mk fun b33 w6 e6 h33 n33 s33 => ?_
  have m29 : Mp TKey.v Value.bool w6 b29 [] := ((Mp.new h29).ext ((e4.trans e5).trans e6))
  have m30 : Mp Value.string TResource.v w6 b30 [] := ((Mp.new h30).ext (e5.trans e6))
  have m31 : Mp Value.string (Value.int .i64) w6 b31 [] := ((Mp.new h31).ext e6)
  have E6 := ((e3.trans e4).trans e5).trans e6
  have h3' := h3.ext E6
  have hl3 := h3.lt
  have E := e1.trans E6
  refine Lp.mk (fun (i : Int) w' => ∃ k : Nat, i = k ∧ k ≤ l.length ∧ Ext w w' ∧ w6.heap.size ≤ w'.heap.size ∧ Filled l rs b3 b29 b30 b31 b33 k w') (fun i => l.length - i.toNat)
    ⟨0, rfl, Nat.zero_le _, E, Nat.le_refl _, h3', h33, m31, ⟨[], m29, fun _ _ => rfl⟩, ⟨[], m30, fun j _ _ hj => absurd hj (Nat.not_lt_zero _)⟩⟩ ?_
  rintro i w7 K ⟨k, rfl, hk, hE, hge, hF⟩ hK
  by_cases hlt : k < l.length
  · rw [if_pos (by rw [h.n]; omega)]
    refine ⟨fun _ w' => Ext w w' ∧ w6.heap.size ≤ w'.heap.size ∧ Filled l rs b3 b29 b30 b31 b33 (k + 1) w', ?_, ?_⟩
    · have hlr : k < rs.length := by rw [h.len]; exact hlt
      have hr := h.el k hlr hlt
      refine rnp_idx sl22 (h.ext hE).rd hlr rfl fun p _ hp => ?_
      refine rn_ldN (x := rs[k]) many48 hp rfl rfl ?_
      refine New.var (TResource.cells rs[k]) sz48 rfl (oc_res _) rfl fun b8 w8 e8 h8 nb8 => ?_
      refine rn_blkN (x := rs[k]) many48 h8 rfl rfl ?_
      refine (of_ok _).mono ?_; rintro _ w9 ⟨e9, rfl⟩
      have e89 := e8.trans e9
      replace h8 := h8.ext e9
      replace hE := hE.trans e89
      obtain ⟨m, hm, hmm⟩ := hF.there
      obtain ⟨ms, hms, hmss⟩ := hF.splits
      have f3 := hF.b3.ext e89; have f33 := hF.b33.ext e89; have fk := hF.known.ext e89
      replace hm := hm.ext e89; replace hms := hms.ext e89
      have gsz := e8.size
      refine rnu_put (k := (⟨rs[k].Kind, rs[k].Name⟩ : TKey)) (v := true) mapT115 hm fun w10 c10 hm10 s10 => ?_
      have E10 := hE.then c10 (fun b hb => by omega)
      replace f3 := f3.chg c10 (by omega); replace f33 := f33.chg c10 (by omega); replace fk := fk.chg c10 (by omega)
      replace hms := hms.chg c10 (by omega); replace h8 := h8.chg c10 (by omega)
      have gsz9 := e9.size
      have there : ∀ kd n, (mget (mput m ⟨rs[k].Kind, rs[k].Name⟩ true) ⟨kd, n⟩).getD false = (l.take (k + 1)).any fun d => decide (d.kind = kd) && decide (d.name = n) := fun kd n => by
        rw [any_succ hlt, mget_put, ← hmm kd n, hr.kind, hr.name]
        by_cases c : (⟨l[k].kind, l[k].name⟩ : TKey) = ⟨kd, n⟩
        · rw [if_pos c]; cases c; simp
        · rw [if_neg c]
          have : (decide (l[k].kind = kd) && decide (l[k].name = n)) = false := by
            by_cases c3 : l[k].kind = kd
            · by_cases c4 : l[k].name = n
              · exact absurd (by rw [c3, c4]) c
              · simp [c4]
            · simp [c3]
          rw [this, Bool.or_false]
      refine rn_blk one3 h8 rfl rfl ?_
      rw [hr.kind]
      by_cases c : l[k].kind = 2
      · refine iteT c ?_
        refine Dr.mk fun w11 e11 hh11 => ?_
        have E11 := E10.trans e11
        replace f3 := f3.ext e11; replace f33 := f33.ext e11; replace fk := fk.ext e11; replace hms := hms.ext e11; replace h8 := h8.ext e11; replace hm10 := hm10.ext e11
        refine rnl_blk one145 f33 rfl rfl ?_
        refine rnl_blk one9 h8 rfl rfl ?_
        refine rnl_ldN (x := rs[k]) many48 h8.whole rfl rfl ?_
        refine rnu_put (k := rs[k].Name) (v := rs[k]) mapT145 hms fun w12 c12 hms12 s12 => ?_
        have g11 := e11.size
        refine ⟨E11.then c12 (fun b hb => by omega), by omega, f3.chg c12 (by omega), f33.chg c12 (by omega), fk.chg c12 (by omega), ⟨_, hm10.chg c12 (by omega), there⟩, ⟨_, hms12, fun j hj hj' hjk hk2 => ?_⟩⟩
        rw [mget_put, hr.name]
        by_cases ce : l[k].name = l[j].name
        · rw [if_pos ce]
          have : k = j := out_uniq hord hlt hj (by rw [c, hk2]) ce
          subst this; rfl
        · rw [if_neg ce]
          exact hmss j hj hj' (by
            by_cases e : j = k
            · subst e; exact absurd rfl ce
            · omega) hk2
      · refine iteF c ⟨E10, by omega, f3, f33, fk, ⟨_, hm10, there⟩, ⟨_, hms, fun j hj hj' hjk hk2 => hmss j hj hj' (by
            by_cases e : j = k
            · subst e; exact absurd hk2 c
            · omega) hk2⟩⟩
    · rintro _ w8 ⟨hE, hge, hF⟩
      rw [h.wr hlt]
      exact hK _ _ ⟨k + 1, rfl, hlt, hE, hge, hF⟩ (by omega)
  rw [if_neg (by rw [h.n]; omega)]
  obtain rfl : k = l.length := by omega
  clear hK
  obtain ⟨m, hm, hmm⟩ := hF.there
  obtain ⟨ms, hms, hmss⟩ := hF.splits
  have hh : ∀ kd n, (mget m ⟨kd, n⟩).getD false = has l kd n := fun kd n => by rw [hmm, has_any, List.take_length]
  have f3 := hF.b3; have f33 := hF.b33; have fk := hF.known
  refine NewM.mk fun b54 w8 e8 h54 n54 s54 => ?_
  replace f3 := f3.ext e8; replace f33 := f33.ext e8; replace fk := fk.ext e8; replace hm := hm.ext e8; replace hms := hms.ext e8
  have m54 : Mp Value.string Value.bool w8 b54 [] := Mp.new h54
  replace hE := hE.trans e8
  clear hF
  -- what leads nowhere
  refine Lp.mk (fun (i : Int) w' => ∃ k : Nat, i = k ∧ k ≤ l.length ∧ Ext w8 w' ∧ ∀ j, j < k → dangAt l j = false) (fun i => l.length - i.toNat) ⟨0, rfl, Nat.zero_le _, Ext.refl _, fun j hj => absurd hj (Nat.not_lt_zero _)⟩ ?_
  rintro i w9 K ⟨k, rfl, hk, E9, hall⟩ hK
  by_cases hlt : k < l.length
  · rw [if_pos (by rw [h.n]; omega)]
    have hlr : k < rs.length := by rw [h.len]; exact hlt
    have hr := h.el k hlr hlt
    have hE9 := hE.trans E9
    refine rnp_idx sl22 (h.ext hE9).rd hlr rfl fun p _ hp => ?_
    refine rn_ldN (x := rs[k]) many48 hp rfl rfl ?_
    refine New.var (TResource.cells rs[k]) sz48 rfl (oc_res _) rfl fun b11 w10 e10 h11 nb11 => ?_
    refine rn_blkN (x := rs[k]) many48 h11 rfl rfl ?_
    have E10 := E9.trans e10
    refine (dangling_ok (hr.ext (hE.trans E10)) (hm.ext E10) hh).mono ?_; rintro _ w11 ⟨e11, rfl⟩
    have E11 := E10.trans e11
    have hd := dangAt_eq hlt
    by_cases c : 0 ≤ dang (has l) l[k]
    · exact iteT c (fault_out (f3.ext E11) (hE.trans E11) (by omega) fun w'' e => ⟨e, (fs_dang c1 c2 hlt (by rw [hd]; simpa using c) hall).symm⟩)
    · refine iteF c ?_
      rw [h.wr hlt]
      exact hK _ _ ⟨k + 1, rfl, hlt, E11, all_succ hall (by rw [hd]; simpa using c)⟩ (by omega)
  rw [if_neg (by rw [h.n]; omega)]
  obtain rfl : k = l.length := by omega
  clear hK
  have hdang := hall
  clear hall
  replace f3 := f3.ext E9; replace f33 := f33.ext E9; replace fk := fk.ext E9; replace hms := hms.ext E9; replace m54 := m54.ext E9; replace hE := hE.trans E9
  clear hm
  -- hosts
  refine Lp.mk (fun (i : Int) w' => ∃ k : Nat, i = k ∧ k ≤ l.length ∧ Ext w w' ∧ w9.heap.size ≤ w'.heap.size ∧ Blk w' b3 80 (TFault.cells ⟨0, 0, 0⟩) ∧ Blk w' b33 148 [.map (some b30), .map (some b31)] ∧ Mp Value.string (Value.int .i64) w' b31 [] ∧ Mp Value.string TResource.v w' b30 ms ∧
      (∃ m, Mp Value.string Value.bool w' b54 m ∧ ∀ n, (mget m n).getD false = (l.take k).any fun d => decide (d.kind = 3) && decide (d.host = n)) ∧ ∀ j, j < k → twinAt l j = false) (fun i => l.length - i.toNat)
    ⟨0, rfl, Nat.zero_le _, hE, Nat.le_refl _, f3, f33, fk, hms, ⟨[], m54, fun _ => rfl⟩, fun j hj => absurd hj (Nat.not_lt_zero _)⟩ ?_
  have g9 := E9.size
  clear f3 f33 fk hms m54 hE
  rintro i w10 K ⟨k, rfl, hk, hE, hg, f3, f33, fk, hms, ⟨m, hm, hmm⟩, hall⟩ hK
  by_cases hlt : k < l.length
  · rw [if_pos (by rw [h.n]; omega)]
    have hlr : k < rs.length := by rw [h.len]; exact hlt
    have hr := h.el k hlr hlt
    have ht := twinAt_eq hlt
    refine Jn.dup ?_
    refine rnp_idx sl22 (h.ext hE).rd hlr rfl fun p _ hp => ?_
    refine rn_ldN (x := rs[k]) many48 hp rfl rfl ?_
    refine New.var (TResource.cells rs[k]) sz48 rfl (oc_res _) rfl fun b14 w11 e11 h14 nb14 => ?_
    replace hE := hE.trans e11; replace f3 := f3.ext e11; replace f33 := f33.ext e11; replace fk := fk.ext e11; replace hms := hms.ext e11; replace hm := hm.ext e11
    have g11 := e11.size
    refine ⟨fun x w' => w' = w11 ∧ x = twinAt l k, ?_, ?_⟩
    · refine rn_blk one3 h14 rfl rfl ?_
      rw [hr.kind]
      by_cases c : l[k].kind = 3
      · refine iteT c ?_
        refine rn_blk one9 h14 rfl rfl ?_
        refine rn_get mapT149 hm ⟨rfl, ?_⟩
        rw [ht, hmm, hr.host]; simp [c]
      · exact iteF c ⟨rfl, by rw [ht]; simp [c]⟩
    rintro x w11 ⟨rfl, rfl⟩
    cases c : twinAt l k with
    | true => exact iteT rfl (fault_out f3 hE (by omega) fun w'' e => ⟨e, (fs_twin c1 c2 hdang hlt c hall).symm⟩)
    | false =>
      refine iteF (by simp) ?_
      refine rn_blk one9 h14 rfl rfl ?_
      refine rn_blk one9 h14 rfl rfl ?_
      refine rn_get mapT149 hm ?_
      have fin : ∀ v : Bool, v = ((mget m l[k].host).getD false || decide (l[k].kind = 3)) → RnU PP (Instr.mapUpdate 149 (.map (some b54)) (.string rs[k].Host) (.bool v)) w11 fun w => K (IntKind.i64.wrap ((k : Int) + 1)) w := fun v hv =>
        rnu_put (k := rs[k].Host) (v := v) mapT149 hm fun w12 c12 hm12 s12 => by
          rw [h.wr hlt]
          refine hK _ _ ⟨k + 1, rfl, hlt, hE.then c12 (fun b hb => by omega), by omega, f3.chg c12 (by omega), f33.chg c12 (by omega), fk.chg c12 (by omega), hms.chg c12 (by omega), ⟨_, hm12, fun n => ?_⟩, all_succ hall c⟩ (by omega)
          rw [any_succ hlt, mget_put, ← hmm n, hr.host]
          by_cases ce : l[k].host = n
          · rw [if_pos ce, hv, ce]; simp
          · rw [if_neg ce]; simp [ce]
      rw [hr.host]
      rw [hr.host] at fin
      cases cg : (mget m l[k].host).getD false with
      | true => exact iteT rfl (fin true (by rw [cg]; rfl))
      | false =>
        refine iteF (by simp) ?_
        refine rn_blk one3 h14 rfl rfl ?_
        rw [hr.kind]
        exact fin _ (by rw [cg]; rfl)
  rw [if_neg (by rw [h.n]; omega)]
  obtain rfl : k = l.length := by omega
  clear hK
  have htwin := hall
  clear hall hm hmm
  -- weights
  refine Lp.mk (fun (i : Int) w' => ∃ k : Nat, i = k ∧ k ≤ l.length ∧ Ext w10 w' ∧ ∀ j, j < k → heavyAt l j = false) (fun i => l.length - i.toNat) ⟨0, rfl, Nat.zero_le _, Ext.refl _, fun j hj => absurd hj (Nat.not_lt_zero _)⟩ ?_
  rintro i w11 K ⟨k, rfl, hk, E11, hall⟩ hK
  by_cases hlt : k < l.length
  · rw [if_pos (by rw [h.n]; omega)]
    have hlr : k < rs.length := by rw [h.len]; exact hlt
    have hr := h.el k hlr hlt
    have ht := heavyAt_eq hlt
    refine rnp_idx sl22 (h.ext (hE.trans E11)).rd hlr rfl fun p _ hp => ?_
    refine rn_ldN (x := rs[k]) many48 hp rfl rfl ?_
    refine New.var (TResource.cells rs[k]) sz48 rfl (oc_res _) rfl fun b16 w12 e12 h16 _ => ?_
    have E12 := E11.trans e12
    refine ⟨fun x w' => Ext w10 w' ∧ x = heavyAt l k, ?_, ?_⟩
    · refine rn_blk one3 h16 rfl rfl ?_
      rw [hr.kind]
      by_cases c : l[k].kind = 2
      · refine iteT c ?_
        refine rn_blkN (x := rs[k]) many48 h16 rfl rfl ?_
        refine (heavy_ok (hr.ext (hE.trans E12))).mono ?_; rintro _ w13 ⟨e13, rfl⟩
        exact ⟨E12.trans e13, by rw [ht]; simp [c]⟩
      · exact iteF c ⟨E12, by rw [ht]; simp [c]⟩
    rintro x w13 ⟨E13, rfl⟩
    cases c : heavyAt l k with
    | true => exact iteT rfl (fault_out (f3.ext E13) (hE.trans E13) (by omega) fun w'' e => ⟨e, (fs_heavy c1 c2 hdang htwin hlt c hall).symm⟩)
    | false =>
      refine iteF (by simp) ?_
      rw [h.wr hlt]
      exact hK _ _ ⟨k + 1, rfl, hlt, E13, all_succ hall c⟩ (by omega)
  rw [if_neg (by rw [h.n]; omega)]
  obtain rfl : k = l.length := by omega
  clear hK
  have hheavy := hall
  clear hall
  -- depths
  replace hE := hE.trans E11; replace f3 := f3.ext E11; replace f33 := f33.ext E11; replace fk := fk.ext E11; replace hms := hms.ext E11
  have hnd := no_dang hdang
  have hms' : ∀ n d, splitOf l n = some d → ∃ i, ∃ h : i < rs.length, l[i]? = some d ∧ mget ms n = some rs[i] := fun n d hs => by
    have h1 := List.find?_some hs
    simp only [Bool.and_eq_true, decide_eq_true_eq] at h1
    obtain ⟨i, hi, rfl⟩ := List.mem_iff_getElem.1 (List.mem_of_find?_eq_some hs)
    have hir : i < rs.length := by rw [h.len]; exact hi
    exact ⟨i, hir, List.getElem?_eq_getElem hi, by rw [← h1.2]; exact hmss i hi hir hi h1.1⟩
  have hlowE := hlow.ext hE
  have hW : DepW (fun b => F b ∧ b < w.heap.size) s rs l b30 b31 b33 ms w11 := ⟨hlowE, fun b hb => by have := hb.2; omega, f33, hms, by omega, by omega⟩
  refine Lp.mk (fun (i : Int) w' => ∃ k : Nat, i = k ∧ k ≤ l.length ∧ Ext w w' ∧ DepW (fun b => F b ∧ b < w.heap.size) s rs l b30 b31 b33 ms w' ∧ Blk w' b3 80 (TFault.cells ⟨0, 0, 0⟩) ∧
      (∃ m, Mp Value.string (Value.int .i64) w' b31 m ∧ Inv l m (fun _ => False)) ∧ ∀ j, j < k → deepAt l j = false) (fun i => l.length - i.toNat)
    ⟨0, rfl, Nat.zero_le _, hE, hW, f3, ⟨[], fk, fun n v hv => by cases hv⟩, fun j hj => absurd hj (Nat.not_lt_zero _)⟩ ?_
  clear hW f3 hE hlowE
  rintro i w12 K ⟨k, rfl, hk, hE, hW, f3, ⟨m, hm, hI⟩, hall⟩ hK
  by_cases hlt : k < l.length
  · rw [if_pos (by rw [h.n]; omega)]
    have hlr : k < rs.length := by rw [h.len]; exact hlt
    have hr := h.el k hlr hlt
    have ht := deepAt_eq hlt
    refine rnp_idx sl22 (h.ext hE).rd hlr rfl fun p _ hp => ?_
    refine rn_ldN (x := rs[k]) many48 hp rfl rfl ?_
    refine New.var (TResource.cells rs[k]) sz48 rfl (oc_res _) rfl fun b18 w13 e13 h18 nb18 => ?_
    replace hE := hE.trans e13; replace hm := hm.ext e13; replace f3 := f3.ext e13
    have hW13 := hW.chg (e13.chg _)
    refine ⟨fun x w' => Ext w w' ∧ DepW (fun b => F b ∧ b < w.heap.size) s rs l b30 b31 b33 ms w' ∧ Blk w' b3 80 (TFault.cells ⟨0, 0, 0⟩) ∧ (∃ m, Mp Value.string (Value.int .i64) w' b31 m ∧ Inv l m (fun _ => False)) ∧ x = deepAt l k, ?_, ?_⟩
    · refine rn_blk one3 h18 rfl rfl ?_
      rw [hr.kind]
      by_cases c : l[k].kind = 2
      · refine iteT c ?_
        refine rn_blk one9 h18 rfl rfl ?_
        rw [hr.name]
        have hsp := splitOf_self hord _ (List.getElem_mem hlt) c
        refine (of_dep hms' (fun n d t a b => has_split (hnd n d t a b)) _ w13 m (fun _ => False) l[k].name (Nat.le_refl _) hW13 hm hI (fun _ h => h.elim) (by rw [hsp]; rfl)).mono ?_
        rintro v w14 ⟨rfl, c14, m', hm', hI', _⟩
        refine ⟨hE.then c14 (fun b hb => by omega), hW13.chg c14, f3.chg c14 (by omega), ⟨m', hm', hI'⟩, ?_⟩
        rw [ht]; simp [c]; omega
      · exact iteF c ⟨hE, hW13, f3, ⟨m, hm, hI⟩, by rw [ht]; simp [c]⟩
    rintro x w14 ⟨hE, hW, f3, hmI, rfl⟩
    cases c : deepAt l k with
    | true => exact iteT rfl (fault_out f3 hE (by omega) fun w'' e => ⟨e, (fs_deep c1 c2 hdang htwin hheavy hlt c hall).symm⟩)
    | false =>
      refine iteF (by simp) ?_
      rw [h.wr hlt]
      exact hK _ _ ⟨k + 1, rfl, hlt, hE, hW, f3, hmI, all_succ hall c⟩ (by omega)
  rw [if_neg (by rw [h.n]; omega)]
  obtain rfl : k = l.length := by omega
  refine (shadows_ok (h.ext hE) hf.paths hf.tot).mono ?_
  rintro x w13 e13
  exact fault_out (f3.ext e13) (hE.trans e13) (by omega) fun w'' e => ⟨e, (fs_none c1 c2 hdang htwin hheavy hall).symm⟩
end
end Go.Proofs.Ytdoeegfcmbcbkaa.Ct


namespace Go.Proofs.Ytdoeegfcmbcbkaa.Ct
open Go Go.Eng Tr
set_option linter.unusedVariables false
set_option maxRecDepth 100000

def toRef (f : TFault) : TFault14 := ⟨f.Doc, f.Line, f.Err⟩
theorem oc_fault14 (x : TFault14) : ∀ u ∈ TFault14.cells x, u.oneCell' = true := by simp [TFault14.cells, Value.oneCell']
theorem fault_out14 {w w' : World} {b : Nat} {g f : TFault14} {K : TFault14 → World → Prop} (h3 : Blk w' b 101 (TFault14.cells g)) (hE : Ext w w') (hb : w.heap.size ≤ b) (hk : ∀ w'', Ext w w'' → K f w'') :
    RnU PP (Instr.storeAt 101 (Ptr ⟨b, 0, none⟩) (TFault14.v f)) w' fun w => RnR PP TFault14.v (loadVar 101 ⟨b, 0, none⟩) w fun r => K r w :=
  rnu_st (b := b) (o := 0) rfl h3 (TFault14.cells f) sz101 rfl (oc_fault14 f) (by simp [TFault14.cells]) fun w2 c2 _ hb2 =>
    rnr_ldN (x := f) many101 (show Blk w2 b 101 (TFault14.cells f) from hb2).whole rfl rfl (hk w2 (hE.then c2 fun x hx => by omega))
theorem oc_warn14 (x : TWarning14) : ∀ u ∈ TWarning14.cells x, u.oneCell' = true := by simp [TWarning14.cells, Value.oneCell']
theorem lo_run : FloatKind.f64.format.sub 4636737291354636288 4517110426252607488 = some 4636737291287527424 := by decide +kernel
theorem hi_run : FloatKind.f64.format.add 4636737291354636288 4517110426252607488 = some 4636737291421745152 := by decide +kernel
section
variable {w : World} {F : Nat → Prop} {s : Sl} {rs : List TResource} {l : List DRes}
def pairAt (l : List DRes) (i j : Nat) : Bool := match l[i]?, l[j]? with
  | some d, some c => decide (d.kind = 3) && (decide (c.kind = 3) && decide (d.host = c.host))
  | _, _ => false
theorem pairAt_eq {i j : Nat} (hi : i < l.length) (hj : j < l.length) : pairAt l i j = (decide (l[i].kind = 3) && (decide (l[j].kind = 3) && decide (l[i].host = l[j].host))) := by
  simp only [pairAt, List.getElem?_eq_getElem hi, List.getElem?_eq_getElem hj]
theorem twin_yes {i j : Nat} (hi : i < l.length) (hj : j < i) (h : pairAt l i j = true) : twinAt l i = true := by
  rw [pairAt_eq hi (by omega)] at h
  simp only [Bool.and_eq_true, decide_eq_true_eq] at h
  rw [twinAt_eq hi]
  simp only [Bool.and_eq_true, decide_eq_true_eq]
  refine ⟨h.1, List.any_eq_true.2 ⟨l[j]'(by omega), ?_, by simp [h.2.1, h.2.2]⟩⟩
  rw [List.mem_take_iff_getElem]
  exact ⟨j, by omega, rfl⟩
theorem twin_no {i : Nat} (hi : i < l.length) (h : ∀ j, j < i → pairAt l i j = false) : twinAt l i = false := by
  rw [twinAt_eq hi]
  by_cases c : l[i].kind = 3
  · simp only [c, decide_true, Bool.true_and]
    rw [List.any_eq_false]
    intro x hx
    obtain ⟨j, hj, rfl⟩ := List.mem_take_iff_getElem.1 hx
    have := h j (by omega)
    rw [pairAt_eq hi (by omega)] at this
    simp only [c, decide_true, Bool.true_and] at this
    simp only [Bool.not_eq_true]
    rw [← this, decide_eq_decide.2 (eq_comm : l[j].host = l[i].host ↔ l[i].host = l[j].host)]
  · simp [c]
end
end Go.Proofs.Ytdoeegfcmbcbkaa.Ct


namespace Go.Proofs.Ytdoeegfcmbcbkaa.Ct
open Go Go.Eng Tr
set_option linter.unusedVariables false
set_option maxRecDepth 100000

section
variable {w : World} {F : Nat → Prop} {s : Sl} {rs : List TResource} {l : List DRes}
theorem refCheck_ok (h : ConfD F w s rs l) (hf : Fit l) :
    Cal PP (fun x : Sl × TFault14 => Value.tuple #[Sl.v x.1, TFault14.v x.2]) 58 #[s.v] w fun x w' => Ext w w' ∧ x.2 = toRef (faultM l) := by
  refine c58 ?_
  unfold f58
  refine New.mk fun b3 w1 e1 h3 n3 s3 => ?_
  refine (refOut_ok (h.ext e1)).mono ?_; rintro _ w2 ⟨e2, rfl⟩
  replace h3 := h3.ext e2
  replace e1 := e1.trans e2
  by_cases c1 : 0 ≤ fst? (outAt l) l.length
  · exact iteT c1 (fault_out14 h3 e1 (by omega) fun w'' e => ⟨e, by rw [fs_out c1]; rfl⟩)
  refine iteF c1 ?_
  by_cases c2 : 64 < l.length
  · exact iteT (by rw [h.n]; omega) (fault_out14 h3 e1 (by omega) fun w'' e => ⟨e, by rw [fs_big c1 c2]; rfl⟩)
  refine iteF (by rw [h.n]; omega) ?_
  have hord := fst?_neg (by omega : fst? (outAt l) l.length < 0)
  -- what leads nowhere
  refine Lp.mk (fun (i : Int) w' => ∃ k : Nat, i = k ∧ k ≤ l.length ∧ Ext w w' ∧ Ext w2 w' ∧ ∀ j, j < k → dangAt l j = false) (fun i => l.length - i.toNat) ⟨0, rfl, Nat.zero_le _, e1, Ext.refl _, fun j hj => absurd hj (Nat.not_lt_zero _)⟩ ?_
  rintro i w9 K ⟨k, rfl, hk, hE, E9, hall⟩ hK
  by_cases hlt : k < l.length
  · rw [if_pos (by rw [h.n]; omega)]
    refine (h.ext hE).idx hlt rfl fun p r _ hp hr => ?_
    refine rn_ldN (x := r) many48 hp rfl rfl ?_
    refine (refDangling_ok (h.ext hE) hr).mono ?_; rintro _ w11 ⟨e11, rfl⟩
    have hd := dangAt_eq hlt
    by_cases c : 0 ≤ dang (has l) l[k]
    · exact iteT c (fault_out14 (h3.ext (E9.trans e11)) (hE.trans e11) (by omega) fun w'' e => ⟨e, by rw [fs_dang c1 c2 hlt (by rw [hd]; simpa using c) hall]; rfl⟩)
    · refine iteF c ?_
      rw [h.wr hlt]
      exact hK _ _ ⟨k + 1, rfl, hlt, hE.trans e11, E9.trans e11, all_succ hall (by rw [hd]; simpa using c)⟩ (by omega)
  rw [if_neg (by rw [h.n]; omega)]
  obtain rfl : k = l.length := by omega
  clear hK
  have hdang := hall
  clear hall
  replace h3 := h3.ext E9
  -- hosts
  refine Lp.mk (fun (i : Int) w' => ∃ k : Nat, i = k ∧ k ≤ l.length ∧ Ext w w' ∧ Ext w9 w' ∧ ∀ j, j < k → twinAt l j = false) (fun i => l.length - i.toNat) ⟨0, rfl, Nat.zero_le _, hE, Ext.refl _, fun j hj => absurd hj (Nat.not_lt_zero _)⟩ ?_
  clear hE E9
  rintro i w10 K ⟨k, rfl, hk, hE, E10, hall⟩ hK
  by_cases hlt : k < l.length
  · rw [if_pos (by rw [h.n]; omega)]
    refine Lp.mk (fun (i : Int) w' => ∃ q : Nat, i = q ∧ q ≤ k ∧ Ext w w' ∧ Ext w9 w' ∧ ∀ j, j < q → pairAt l k j = false) (fun i => k - i.toNat) ⟨0, rfl, Nat.zero_le _, hE, E10, fun j hj => absurd hj (Nat.not_lt_zero _)⟩ ?_
    clear hE E10
    rintro i w11 K2 ⟨q, rfl, hq, hE, E11, hall2⟩ hK2
    by_cases hqk : q < k
    · rw [if_pos (by omega)]
      have hp := pairAt_eq hlt (by omega : q < l.length)
      refine ⟨fun x w' => Ext w w' ∧ Ext w9 w' ∧ x = pairAt l k q, ?_, ?_⟩
      · refine Dr.mk fun w12 e12 _ => ?_
        replace hE := hE.trans e12; replace E11 := E11.trans e12
        refine (h.ext hE).idx hlt rfl fun p r _ hp' hr => ?_
        refine rnl_at one3 hp' rfl ?_
        rw [hr.kind]
        by_cases c : l[k].kind = 3
        · refine iteT c ?_
          refine (h.ext hE).idx (k := q) (by omega) rfl fun p r _ hp' hr => ?_
          refine rnl_at one3 hp' rfl ?_
          rw [hr.kind]
          by_cases c' : l[q].kind = 3
          · refine iteT c' ?_
            refine (h.ext hE).idx hlt rfl fun p r _ hp' hr => ?_
            refine rnl_at one9 hp' rfl ?_
            refine (h.ext hE).idx (k := q) (by omega) rfl fun p r' _ hp' hr' => ?_
            refine rnl_at one9 hp' rfl ?_
            exact ⟨hE, E11, by rw [hp, hr.host, hr'.host]; simp [c, c']⟩
          · exact iteF c' ⟨hE, E11, by rw [hp]; simp [c']⟩
        · exact iteF c ⟨hE, E11, by rw [hp]; simp [c]⟩
      rintro x w12 ⟨hE, E12, rfl⟩
      cases c : pairAt l k q with
      | true => exact iteT rfl (fault_out14 (h3.ext E12) hE (by omega) fun w'' e => ⟨e, by rw [fs_twin c1 c2 hdang hlt (twin_yes hlt hqk c) hall]; rfl⟩)
      | false =>
        refine iteF (by simp) ?_
        rw [h.wr (by omega : q < l.length)]
        exact hK2 _ _ ⟨q + 1, rfl, hqk, hE, E12, all_succ hall2 c⟩ (by omega)
    · rw [if_neg (by omega), h.wr hlt]
      exact hK _ _ ⟨k + 1, rfl, hlt, hE, E11, all_succ hall (twin_no hlt fun j hj => hall2 j (by omega))⟩ (by omega)
  rw [if_neg (by rw [h.n]; omega)]
  obtain rfl : k = l.length := by omega
  clear hK
  have htwin := hall
  clear hall
  replace h3 := h3.ext E10
  -- weights
  refine Lp.mk (fun (i : Int) w' => ∃ k : Nat, i = k ∧ k ≤ l.length ∧ Ext w w' ∧ Ext w10 w' ∧ ∀ j, j < k → heavyAt l j = false) (fun i => l.length - i.toNat) ⟨0, rfl, Nat.zero_le _, hE, Ext.refl _, fun j hj => absurd hj (Nat.not_lt_zero _)⟩ ?_
  clear hE E10
  rintro i w11 K ⟨k, rfl, hk, hE, E11, hall⟩ hK
  by_cases hlt : k < l.length
  · rw [if_pos (by rw [h.n]; omega)]
    have ht := heavyAt_eq hlt
    refine Lp.mk (fun (y : Nat × Bool × Int) w' => ∃ q : Nat, y.2.2 = q ∧ q ≤ l[k].targets.length ∧ Ext w w' ∧ Ext w10 w' ∧ Fl (fsum (l[k].targets.take q)) y.1 ∧ y.2.1 = !(l[k].targets.take q).any badW) (fun y => l[k].targets.length - y.2.2.toNat)
      ⟨0, rfl, Nat.zero_le _, hE, E11, rfl, rfl⟩ ?_
    clear hE E11
    rintro ⟨x, fine, _⟩ w12 K2 ⟨q, rfl, hq, hE, E12, hfl, rfl⟩ hK2
    dsimp only at hfl ⊢
    refine (h.ext hE).idx hlt rfl fun p r _ hp hr => ?_
    refine rn_at one45 hp rfl ?_
    by_cases hql : q < l[k].targets.length
    · refine iteT (by rw [hr.targets.len]; omega) ?_
      refine (h.ext hE).idx hlt rfl fun p r _ hp hr => ?_
      refine rn_at one45 hp rfl ?_
      refine rnp_idx sl45 hr.targets hql rfl fun p _ hp => ?_
      refine rn_at one30 hp rfl ?_
      refine ⟨fun y w' => w' = w12 ∧ y = !(l[k].targets.take (q + 1)).any badW, ?_, ?_⟩
      · rw [any_succ hql]
        cases ca : (l[k].targets.take q).any badW with
        | true => exact iteF (by simp) ⟨rfl, rfl⟩
        | false =>
          refine iteT rfl ?_
          cases cg : fGe l[k].targets[q].Weight 0 with
          | true => exact iteT rfl ⟨rfl, by simp [badW, okW, cg]⟩
          | false => exact iteF (by simp) ⟨rfl, by simp [badW, okW, cg]⟩
      rintro y w12 ⟨rfl, rfl⟩
      refine rn_add hfl fun v w13 hv e13 _ => ?_
      rw [hr.targets.wr hql]
      exact hK2 _ _ ⟨q + 1, rfl, hql, hE.trans e13, E12.trans e13, by rw [fsum_succ hql]; exact hv, rfl⟩ (by dsimp only; omega)
    · refine iteF (by rw [hr.targets.len]; omega) ?_
      obtain rfl : q = l[k].targets.length := by omega
      rw [List.take_length] at hfl
      rw [List.take_length]
      refine ⟨fun y w' => Ext w w' ∧ Ext w10 w' ∧ y = heavyAt l k, ?_, ?_⟩
      · refine (h.ext hE).idx hlt rfl fun p r _ hp hr => ?_
        refine rn_at one3 hp rfl ?_
        rw [hr.kind]
        by_cases c : l[k].kind = 2
        · refine iteT c ?_
          cases ca : l[k].targets.any badW with
          | true => exact iteF (by simp) ⟨hE, E12, by rw [ht]; simp [c, heavyS, ca]⟩
          | false =>
            refine iteT rfl ?_
            refine arith_run .sub _ rfl fun v w13 hv e13 _ => ?_
            rw [show FloatKind.f64.format.sub 4636737291354636288 4517110426252607488 = some 4636737291287527424 from lo_run] at hv
            cases hv
            rw [hfl.ge]
            cases cg : oGe (fsum l[k].targets) 4636737291287527424 with
            | false => exact iteF (by simp) ⟨hE.trans e13, E12.trans e13, by rw [ht]; simp [c, heavyS, ca, cg]⟩
            | true =>
              refine iteT rfl ?_
              refine arith_run .add _ rfl fun v w14 hv e14 _ => ?_
              rw [show FloatKind.f64.format.add 4636737291354636288 4517110426252607488 = some 4636737291421745152 from hi_run] at hv
              cases hv
              rw [hfl.le]
              exact ⟨(hE.trans e13).trans e14, (E12.trans e13).trans e14, by rw [ht]; simp [c, heavyS, ca, cg]⟩
        · exact iteF c ⟨hE, E12, by rw [ht]; simp [c]⟩
      rintro y w13 ⟨hE, E13, rfl⟩
      cases c : heavyAt l k with
      | true => exact iteT rfl (fault_out14 (h3.ext E13) hE (by omega) fun w'' e => ⟨e, by rw [fs_heavy c1 c2 hdang htwin hlt c hall]; rfl⟩)
      | false =>
        refine iteF (by simp) ?_
        rw [h.wr hlt]
        exact hK _ _ ⟨k + 1, rfl, hlt, hE, E13, all_succ hall c⟩ (by omega)
  rw [if_neg (by rw [h.n]; omega)]
  obtain rfl : k = l.length := by omega
  clear hK
  have hheavy := hall
  clear hall
  replace h3 := h3.ext E11
  -- depths
  refine (depths_ok (h.ext hE) (by omega) (splitOf_self hord) (no_dang hdang)).mono ?_
  rintro dd w12 ⟨e12, hdd⟩
  replace hE := hE.trans e12; replace h3 := h3.ext e12
  refine Lp.mk (fun (i : Int) w' => ∃ k : Nat, i = k ∧ k ≤ l.length ∧ Ext w w' ∧ Ext w12 w' ∧ ∀ j, j < k → deepAt l j = false) (fun i => l.length - i.toNat) ⟨0, rfl, Nat.zero_le _, hE, Ext.refl _, fun j hj => absurd hj (Nat.not_lt_zero _)⟩ ?_
  clear hE E11
  rintro i w13 K ⟨k, rfl, hk, hE, E13, hall⟩ hK
  by_cases hlt : k < l.length
  · rw [if_pos (by rw [h.n]; omega)]
    have ht := deepAt_eq hlt
    refine ⟨fun x w' => w' = w13 ∧ x = deepAt l k, ?_, ?_⟩
    · refine (h.ext hE).idx hlt rfl fun p r _ hp hr => ?_
      refine rn_at one3 hp rfl ?_
      rw [hr.kind]
      by_cases c : l[k].kind = 2
      · refine iteT c ?_
        refine rnp_idx sl77 (hdd.ext E13) (by rw [row_len]; exact hlt) rfl fun p _ hp => ?_
        refine rn_at0 one3 hp ⟨rfl, ?_⟩
        have hb := hd_bounds l 8 l[k].name
        have hv : (row l 8)[k]'(by rw [row_len]; exact hlt) = ((dv l 8 k : Nat) : Int) := by simp [row]
        have hdv : dv l 8 k = if hd l 8 l[k].name ≤ 8 then hd l 8 l[k].name else 0 := by simp only [dv, List.getElem?_eq_getElem hlt, if_pos c]
        rw [ht, hv, hdv]
        by_cases c8 : hd l 8 l[k].name ≤ 8
        · rw [if_pos c8]; simp [c]; omega
        · rw [if_neg c8]; simp [c]; omega
      · exact iteF c ⟨rfl, by rw [ht]; simp [c]⟩
    rintro x w13 ⟨rfl, rfl⟩
    cases c : deepAt l k with
    | true => exact iteT rfl (fault_out14 (h3.ext E13) hE (by omega) fun w'' e => ⟨e, by rw [fs_deep c1 c2 hdang htwin hheavy hlt c hall]; rfl⟩)
    | false =>
      refine iteF (by simp) ?_
      rw [h.wr hlt]
      exact hK _ _ ⟨k + 1, rfl, hlt, hE, E13, all_succ hall c⟩ (by omega)
  rw [if_neg (by rw [h.n]; omega)]
  obtain rfl : k = l.length := by omega
  clear hK
  have hdeep := hall
  clear hall
  replace h3 := h3.ext E13
  -- warnings
  have g13 := h3.lt
  have gw := hE.size
  refine Lp.mk (fun (y : Sl × Int) w' => ∃ (k : Nat) (ws : List TWarning14), y.2 = k ∧ k ≤ l.length ∧ Ext w w' ∧ Blk w' b3 101 (TFault14.cells ⟨0, 0, 0⟩) ∧ Own TWarning14.cells 3 160 w13.heap.size w' y.1 ws ∧ ws.length ≤ tot (l.take k) ∧ w13.heap.size ≤ w'.heap.size) (fun y => l.length - y.2.toNat)
    ⟨0, [], rfl, Nat.zero_le _, hE, h3, Own.nil_ _ _, Nat.zero_le _, Nat.le_refl _⟩ ?_
  clear hE h3
  rintro ⟨y, _⟩ w14 K ⟨k, ws, rfl, hk, hE, h3, hO, hn, hge⟩ hK
  dsimp only at hO ⊢
  by_cases hlt : k < l.length
  · rw [if_pos (by rw [h.n]; omega)]
    have htot := tot_take hlt
    have htl := tot_le l (k + 1)
    have htt := hf.tot
    have hpr := hf.paths _ (List.getElem_mem hlt)
    refine ⟨fun y w' => ∃ ws, Ext w w' ∧ Blk w' b3 101 (TFault14.cells ⟨0, 0, 0⟩) ∧ Own TWarning14.cells 3 160 w13.heap.size w' y ws ∧ ws.length ≤ tot (l.take (k + 1)) ∧ w13.heap.size ≤ w'.heap.size, ?_, ?_⟩
    · refine (h.ext hE).idx hlt rfl fun p r _ hp hr => ?_
      refine rn_at one3 hp rfl ?_
      by_cases c : r.Kind < 3
      · exact iteT c ⟨ws, hE, h3, hO, by omega, hge⟩
      refine iteF c ?_
      refine Lp.mk (fun (z : Sl × Int) w' => ∃ (j : Nat) (ws : List TWarning14), z.2 = j ∧ j ≤ l[k].rules.length ∧ Ext w w' ∧ Blk w' b3 101 (TFault14.cells ⟨0, 0, 0⟩) ∧ Own TWarning14.cells 3 160 w13.heap.size w' z.1 ws ∧ ws.length ≤ tot (l.take k) + j ∧ w13.heap.size ≤ w'.heap.size) (fun z => l[k].rules.length - z.2.toNat)
        ⟨0, ws, rfl, Nat.zero_le _, hE, h3, hO, by omega, hge⟩ ?_
      clear hE h3 hO hr hp hge
      rintro ⟨z, _⟩ w15 K2 ⟨j, ws, rfl, hj, hE, h3, hO, hn, hge⟩ hK2
      dsimp only at hO ⊢
      refine (h.ext hE).idx hlt rfl fun p r _ hp hr => ?_
      refine rn_at one46 hp rfl ?_
      by_cases hjl : j < l[k].rules.length
      · refine iteT (by rw [hr.rules.len]; omega) ?_
        refine ⟨fun z w' => ∃ ws, Ext w w' ∧ Blk w' b3 101 (TFault14.cells ⟨0, 0, 0⟩) ∧ Own TWarning14.cells 3 160 w13.heap.size w' z ws ∧ ws.length ≤ tot (l.take k) + (j + 1) ∧ w13.heap.size ≤ w'.heap.size, ?_, ?_⟩
        · refine (h.ext hE).idx hlt rfl fun p r _ hp hr => ?_
          refine rn_at one46 hp rfl ?_
          refine rnp_idx sl46 hr.rules hjl rfl fun p _ hp => ?_
          refine rn_ldN (x := l[k].rules[j]) many91 hp rfl rfl ?_
          refine New.var (TRule.cells l[k].rules[j]) sz91 rfl (oc_rule _) rfl fun b20 w16 e16 h20 _ => ?_
          replace hE := hE.trans e16; replace h3 := h3.ext e16; replace hO := hO.ext e16
          have g16 := e16.size
          refine Lp.mk (fun (u : Sl × Int) w' => ∃ q : Nat, u.2 = q ∧ q ≤ j ∧ u.1 = z ∧ Ext w w' ∧ Ext w16 w') (fun u => j - u.2.toNat) ⟨0, rfl, Nat.zero_le _, rfl, hE, Ext.refl _⟩ ?_
          clear hE
          rintro ⟨_, _⟩ w17 K3 ⟨q, rfl, hq, rfl, hE, E17⟩ hK3
          dsimp only at hO ⊢
          replace h3 := h3.ext E17; replace hO := hO.ext E17; replace h20 := h20.ext E17
          by_cases hqj : q < j
          · refine iteT (by omega) ?_
            refine (h.ext hE).idx hlt rfl fun p r _ hp hr => ?_
            refine rn_at one46 hp rfl ?_
            refine rnp_idx sl46 hr.rules (k := q) (by omega) rfl fun p _ hp => ?_
            refine rn_ldN (x := l[k].rules[q]) many91 hp rfl rfl ?_
            refine New.var (TRule.cells l[k].rules[q]) sz91 rfl (oc_rule _) rfl fun b22 w18 e18 h22 _ => ?_
            replace hE := hE.trans e18; replace h3 := h3.ext e18; replace hO := hO.ext e18; replace h20 := h20.ext e18
            have E18 := E17.trans e18
            refine ⟨fun x w' => Ext w w' ∧ Ext w16 w' ∧ Ext w18 w', ?_, ?_⟩
            · have fin : Cal PP Value.bool 103 #[.string l[k].rules[q].Path, .string l[k].rules[j].Path] w18 fun _ w' => Ext w w' ∧ Ext w16 w' ∧ Ext w18 w' :=
                (covers13_ok _ _ (hpr _ (List.getElem_mem _)) (hpr _ (List.getElem_mem _))).mono fun _ _ e => ⟨hE.trans e, E18.trans e, e⟩
              refine rn_blk one9 h22 rfl rfl ?_
              by_cases cm : l[k].rules[q].Method = ⟨#[42]⟩
              · refine iteT cm ?_
                refine rn_blk one9 h22 rfl rfl ?_
                refine rn_blk one9 h20 rfl rfl ?_
                exact fin
              · refine iteF cm ?_
                refine rn_blk one9 h22 rfl rfl ?_
                refine rn_blk one9 h20 rfl rfl ?_
                by_cases cn : l[k].rules[q].Method = l[k].rules[j].Method
                · refine iteT cn ?_
                  refine rn_blk one9 h22 rfl rfl ?_
                  refine rn_blk one9 h20 rfl rfl ?_
                  exact fin
                · exact iteF cn ⟨hE, E18, Ext.refl _⟩
            rintro x w19 ⟨hE, E19, e19⟩
            have g19 := E19.size
            cases x with
            | true =>
              refine iteT rfl ?_
              refine New.mk fun b239 w20 e20 h239 _ s20 => ?_
              replace hE := hE.trans e20
              have hO := hO.ext (e19.trans e20)
              have h3 := h3.ext (e19.trans e20)
              refine rn_app1 (x := (⟨k, j, q⟩ : TWarning14)) el99 hO h239 rfl rfl (oc_warn14 _) (by omega) (by decide) (by omega) fun z' w21 hO' c21 n21 => ?_
              have g21 := c21.size
              exact ⟨_, hE.then c21 (fun b hb => by have := (hO.ge hb).1; omega), h3.chg c21 (fun hb => by have := (hO.ge hb).1; omega), hO', by simp; omega, by omega⟩
            | false =>
              refine iteF (by simp) ?_
              rw [hr.rules.wr (by omega : q < l[k].rules.length)]
              exact hK3 _ _ ⟨q + 1, rfl, hqj, rfl, hE, E19⟩ (by dsimp only; omega)
          · refine iteF (by omega) ⟨ws, hE, h3, hO, by omega, by have := E17.size; omega⟩
        · rintro z w16 ⟨ws, hE, h3, hO, hn, hge⟩
          rw [hr.rules.wr hjl]
          exact hK2 _ _ ⟨j + 1, ws, rfl, hjl, hE, h3, hO, hn, hge⟩ (by dsimp only; omega)
      · refine iteF (by rw [hr.rules.len]; omega) ⟨ws, hE, h3, hO, by omega, hge⟩
    · rintro y w15 ⟨ws, hE, h3, hO, hn, hge⟩
      rw [h.wr hlt]
      exact hK _ _ ⟨k + 1, ws, rfl, hlt, hE, h3, hO, hn, hge⟩ (by dsimp only; omega)
  · rw [if_neg (by rw [h.n]; omega)]
    exact fault_out14 h3 hE (by omega) fun w'' e => ⟨e, by rw [fs_none c1 c2 hdang htwin hheavy hdeep]; rfl⟩
end
end Go.Proofs.Ytdoeegfcmbcbkaa.Ct


namespace Go.Proofs.Ytdoeegfcmbcbkaa.Ct
open Go Go.Eng Tr
set_option linter.unusedVariables false

abbrev SH := ByteArray × Option Nat
def addS : List SH → ByteArray → Option Nat → List SH
  | [], n, x => [(n, oadd2 (some 0) x)]
  | p :: l, n, x => if p.1 = n then (n, oadd2 p.2 x) :: l else p :: addS l n x
theorem addS_hit {n : ByteArray} {x : Option Nat} : ∀ {ys : List SH} {k : Nat} (hk : k < ys.length), ys[k].1 = n → (∀ j (hj : j < k), (ys[j]'(by omega)).1 ≠ n) → addS ys n x = ys.set k (n, oadd2 ys[k].2 x)
  | p :: ys, 0, _, h, _ => by
    simp only [List.getElem_cons_zero] at h ⊢
    simp [addS, h]
  | p :: ys, k + 1, hk, h, hj => by
    have h0 := hj 0 (by omega)
    simp only [List.getElem_cons_zero, List.getElem_cons_succ] at h0 h ⊢
    have := addS_hit (x := x) (by simpa using hk) h (fun j hj' => by simpa using hj (j + 1) (by omega))
    simp [addS, h0, this]
theorem addS_miss {n : ByteArray} {x : Option Nat} : ∀ {ys : List SH}, (∀ p ∈ ys, p.1 ≠ n) → addS ys n x = ys ++ [(n, oadd2 (some 0) x)]
  | [], _ => rfl
  | p :: ys, h => by
    have h0 := h p (by simp)
    have := addS_miss (x := x) (ys := ys) fun q hq => h q (List.mem_cons_of_mem _ hq)
    simp [addS, h0, this]
theorem addS_keys {n : ByteArray} {x : Option Nat} : ∀ ys : List SH, (n ∈ ys.map (·.1) ∧ (addS ys n x).map (·.1) = ys.map (·.1)) ∨ (n ∉ ys.map (·.1) ∧ (addS ys n x).map (·.1) = ys.map (·.1) ++ [n])
  | [] => .inr ⟨by simp, rfl⟩
  | p :: ys => by
    unfold addS
    by_cases h : p.1 = n
    · rw [if_pos h]; exact .inl ⟨by simp [h], by simp [h]⟩
    · rw [if_neg h]
      rcases addS_keys (n := n) (x := x) ys with ⟨h1, h2⟩ | ⟨h1, h2⟩
      · exact .inl ⟨List.mem_cons_of_mem _ h1, by rw [List.map_cons, h2]; rfl⟩
      · refine .inr ⟨fun hm => ?_, by rw [List.map_cons, h2]; rfl⟩
        rw [List.map_cons] at hm
        rcases List.mem_cons.1 hm with e | hm
        · exact h e.symm
        · exact h1 hm
def wt (t : TTarget) : Option Nat := FloatKind.f64.format.div t.Weight 4636737291354636288
def mixS (x : Option Nat) (out : List SH) (zs : List SH) : List SH := zs.foldl (fun out s => addS out s.1 (omul2 x s.2)) out
def partS (f : ByteArray → List SH) (out : List SH) (t : TTarget) : List SH :=
  if t.Service = ⟨#[]⟩ then mixS (wt t) out (f t.Split) else addS out t.Service (wt t)
def sumS (f : ByteArray → List SH) (ts : List TTarget) : List SH := ts.foldl (partS f) []
theorem sumS_succ {f : ByteArray → List SH} {ts : List TTarget} {k : Nat} (h : k < ts.length) : sumS f (ts.take (k + 1)) = partS f (sumS f (ts.take k)) ts[k] := by
  unfold sumS; rw [List.take_add_one, List.getElem?_eq_getElem h, List.foldl_append]; rfl
theorem mixS_succ {x : Option Nat} {out zs : List SH} {k : Nat} (h : k < zs.length) : mixS x out (zs.take (k + 1)) = addS (mixS x out (zs.take k)) zs[k].1 (omul2 x zs[k].2) := by
  unfold mixS; rw [List.take_add_one, List.getElem?_eq_getElem h, List.foldl_append]; rfl
theorem sumS_congr {f g : ByteArray → List SH} {ts : List TTarget} (h : ∀ t ∈ ts, t.Service = ⟨#[]⟩ → f t.Split = g t.Split) : sumS f ts = sumS g ts := by
  unfold sumS
  generalize ([] : List SH) = out
  induction ts generalizing out with
  | nil => rfl
  | cons t ts ih =>
    have e : partS f out t = partS g out t := by
      unfold partS
      by_cases c : t.Service = ⟨#[]⟩
      · rw [if_pos c, if_pos c, h t (by simp) c]
      · rw [if_neg c, if_neg c]
    rw [List.foldl_cons, List.foldl_cons, e, ih (fun t ht => h t (by simp [ht]))]
def sh (l : List DRes) : Nat → ByteArray → List SH
  | 0, _ => []
  | k + 1, n => match splitOf l n with
    | none => []
    | some d => sumS (sh l k) d.targets
def shF (l : List DRes) (n : ByteArray) : List SH := sh l 9 n
section
variable {l : List DRes}
theorem kid_mem {n : ByteArray} {d : DRes} (hd' : splitOf l n = some d) {t : TTarget} (ht : t ∈ d.targets) (hs : t.Service = ⟨#[]⟩) : t.Split ∈ kids l n := by
  unfold kids; rw [hd']
  exact List.mem_map.2 ⟨t, List.mem_filter.2 ⟨ht, by simpa using hs⟩, rfl⟩
theorem kid_hd {n c : ByteArray} (h8 : hd l 8 n ≤ 8) (hc : c ∈ kids l n) : hd l 8 c < hd l 8 n := by
  have := hd_min l n
  have h1 : hd l 8 c ≤ maxl ((kids l n).map (hd l 8)) := le_maxl (List.mem_map.2 ⟨c, hc, rfl⟩)
  omega
theorem sh_stable : ∀ (j : Nat) (n : ByteArray), hd l 8 n ≤ 8 → hd l 8 n ≤ j → sh l j n = sh l (j + 1) n
  | 0, n, _, h => by have := (hd_bounds l 8 n).1; omega
  | j + 1, n, h8, h => by
    show (match splitOf l n with | none => [] | some d => sumS (sh l j) d.targets) = (match splitOf l n with | none => [] | some d => sumS (sh l (j + 1)) d.targets)
    cases hs : splitOf l n with
    | none => rfl
    | some d =>
      refine sumS_congr fun t ht hts => ?_
      have := kid_hd h8 (kid_mem hs ht hts)
      exact sh_stable j t.Split (by omega) (by omega)
theorem shF_eq {n : ByteArray} {d : DRes} (h8 : hd l 8 n ≤ 8) (hs : splitOf l n = some d) : shF l n = sumS (shF l) d.targets := by
  have : shF l n = sumS (sh l 8) d.targets := by
    show (match splitOf l n with | none => [] | some d => sumS (sh l 8) d.targets) = _
    rw [hs]
  rw [this]
  refine sumS_congr fun t ht hts => ?_
  have := kid_hd h8 (kid_mem hs ht hts)
  exact sh_stable 8 t.Split (by omega) (by omega)
theorem shF_none {n : ByteArray} (hs : splitOf l n = none) : shF l n = [] := by
  show (match splitOf l n with | none => [] | some d => sumS (sh l 8) d.targets) = _
  rw [hs]
structure OkS (l : List DRes) (ys : List SH) : Prop where
  nodup : (ys.map (·.1)).Nodup
  has : ∀ p ∈ ys, Ct.has l 1 p.1 = true
theorem OkS.nil : OkS l [] := ⟨List.nodup_nil, fun p hp => by cases hp⟩
theorem sub_len {α : Type} [DecidableEq α] : ∀ {xs ys : List α}, xs.Nodup → (∀ x ∈ xs, x ∈ ys) → xs.length ≤ ys.length
  | [], _, _, _ => Nat.zero_le _
  | x :: xs, ys, hn, h => by
    have hx := h x (by simp)
    have h1 := List.length_erase_of_mem hx
    have h2 : 0 < ys.length := List.length_pos_of_mem hx
    simp only [List.nodup_cons] at hn
    have := sub_len (ys := ys.erase x) hn.2 fun y hy => (List.mem_erase_of_ne (fun e => hn.1 (by rw [← e]; exact hy))).2 (h y (by simp [hy]))
    simp only [List.length_cons]; omega
theorem OkS.len {ys : List SH} (h : OkS l ys) : ys.length ≤ l.length := by
  have := sub_len (ys := l.map (·.name)) h.nodup fun n hn => by
    obtain ⟨p, hp, rfl⟩ := List.mem_map.1 hn
    have h1 := h.has p hp
    rw [has_any] at h1
    obtain ⟨d, hd, h2⟩ := List.any_eq_true.1 h1
    simp only [Bool.and_eq_true, decide_eq_true_eq] at h2
    exact List.mem_map.2 ⟨d, hd, h2.2⟩
  simpa using this
theorem OkS.add {ys : List SH} (h : OkS l ys) {n : ByteArray} (hn : Ct.has l 1 n = true) (x : Option Nat) : OkS l (addS ys n x) := by
  have key : (addS ys n x).map (·.1) = ys.map (·.1) → OkS l (addS ys n x) := fun hk => ⟨by rw [hk]; exact h.nodup, fun p hp => by
    have : p.1 ∈ (addS ys n x).map (·.1) := List.mem_map.2 ⟨p, hp, rfl⟩
    rw [hk] at this
    obtain ⟨q, hq, e⟩ := List.mem_map.1 this
    rw [← e]; exact h.has q hq⟩
  rcases addS_keys (n := n) (x := x) ys with ⟨_, hk⟩ | ⟨hm, hk⟩
  · exact key hk
  · refine ⟨?_, fun p hp => ?_⟩
    · rw [hk, List.nodup_append]
      refine ⟨h.nodup, by simp, fun a ha b hb => ?_⟩
      simp only [List.mem_singleton] at hb
      subst hb
      exact fun e => hm (e ▸ ha)
    · have : p.1 ∈ (addS ys n x).map (·.1) := List.mem_map.2 ⟨p, hp, rfl⟩
      rw [hk] at this
      rcases List.mem_append.1 this with h3 | h3
      · obtain ⟨q, hq, e⟩ := List.mem_map.1 h3
        rw [← e]; exact h.has q hq
      · simp only [List.mem_singleton] at h3
        rw [h3]; exact hn
theorem OkS.mix {x : Option Nat} : ∀ {zs out : List SH}, OkS l out → (∀ p ∈ zs, Ct.has l 1 p.1 = true) → OkS l (mixS x out zs)
  | [], _, h, _ => h
  | z :: zs, out, h, hz => OkS.mix (zs := zs) (h.add (hz z (by simp)) _) fun p hp => hz p (by simp [hp])
theorem OkS.sum {f : ByteArray → List SH} {ts : List TTarget} (hs : ∀ t ∈ ts, t.Service ≠ ⟨#[]⟩ → Ct.has l 1 t.Service = true) (hf : ∀ t ∈ ts, t.Service = ⟨#[]⟩ → OkS l (f t.Split)) : OkS l (sumS f ts) := by
  unfold sumS
  have : ∀ out, OkS l out → OkS l (ts.foldl (partS f) out) := by
    induction ts with
    | nil => exact fun _ h => h
    | cons t ts ih =>
      intro out h
      rw [List.foldl_cons]
      refine ih (fun t ht => hs t (by simp [ht])) (fun t ht => hf t (by simp [ht])) _ ?_
      unfold partS
      by_cases c : t.Service = ⟨#[]⟩
      · rw [if_pos c]; exact h.mix (hf t (by simp) c).has
      · rw [if_neg c]; exact h.add (hs t (by simp) c) _
  exact this [] OkS.nil
def Stand (l : List DRes) : Prop := ∀ d ∈ l, d.kind = 2 → ∀ t ∈ d.targets, t.Service ≠ ⟨#[]⟩ → Ct.has l 1 t.Service = true
theorem splitOf_mem {n : ByteArray} {d : DRes} (h : splitOf l n = some d) : d ∈ l ∧ d.kind = 2 ∧ d.name = n := by
  have h1 := List.find?_some h
  simp only [Bool.and_eq_true, decide_eq_true_eq] at h1
  exact ⟨List.mem_of_find?_eq_some h, h1⟩
theorem sh_ok (hS : Stand l) : ∀ (k : Nat) (n : ByteArray), OkS l (sh l k n)
  | 0, _ => OkS.nil
  | k + 1, n => by
    show OkS l (match splitOf l n with | none => [] | some d => sumS (sh l k) d.targets)
    cases hs : splitOf l n with
    | none => exact OkS.nil
    | some d =>
      obtain ⟨h1, h2, h3⟩ := splitOf_mem hs
      exact OkS.sum (hS d h1 h2) fun t _ _ => sh_ok hS k t.Split
theorem sumS_ok (hS : Stand l) {d : DRes} (hd' : d ∈ l) (h2 : d.kind = 2) (k : Nat) : OkS l (sumS (shF l) (d.targets.take k)) :=
  OkS.sum (fun t ht => hS d hd' h2 t (List.mem_of_mem_take ht)) fun t _ _ => sh_ok hS 9 t.Split
theorem stand_of (h : ∀ i, i < l.length → dangAt l i = false) : Stand l := fun d hd' hk t ht hs => by
  obtain ⟨i, hi, rfl⟩ := List.mem_iff_getElem.1 hd'
  have h1 := h i hi
  rw [dangAt_eq hi] at h1
  have h2 : dang (has l) l[i] < 0 := by simpa using h1
  unfold dang at h2
  simp only [hk] at h2
  obtain ⟨j, hj, rfl⟩ := List.mem_iff_getElem.1 ht
  by_cases hb : badT (has l) l[i].targets j = true
  · exfalso
    have hne : ¬ fst? (badT (has l) l[i].targets) l[i].targets.length < 0 := fun hlt => by
      have := fst?_neg hlt j hj
      rw [this] at hb; cases hb
    simp [line?, hne] at h2
    omega
  · have hb' : badT (has l) l[i].targets j = false := by simpa using hb
    rw [badT_eq hj, if_neg hs] at hb'
    simpa using hb'
end

def one64 : Nat := 4607182418800017408
def stp (st : List SH × Option Nat) (y : SH) : List SH × Option Nat := if oGt y.2 0 = true then (st.1 ++ [(y.1, oadd2 st.2 y.2)], oadd2 st.2 y.2) else st
def rawS (ys : List SH) : List SH × Option Nat := ys.foldl stp ([], some 0)
def lastOne (ys : List SH) : List SH := ys.modify (ys.length - 1) fun y => (y.1, some one64)
def stepsS (ys : List SH) : List SH := lastOne (rawS ys).1
theorem rawS_succ {ys : List SH} {k : Nat} (h : k < ys.length) : rawS (ys.take (k + 1)) = stp (rawS (ys.take k)) ys[k] := by
  unfold rawS; rw [List.take_add_one, List.getElem?_eq_getElem h, List.foldl_append]; rfl
theorem rawS_len : ∀ (ys : List SH) (k : Nat), k ≤ ys.length → (rawS (ys.take k)).1.length ≤ k
  | ys, 0, _ => by simp [rawS]
  | ys, k + 1, h => by
    have := rawS_len ys k (by omega)
    rw [rawS_succ (by omega)]
    unfold stp
    split
    · simp; omega
    · omega
theorem lastOne_snoc (xs : List SH) (y : SH) : lastOne (xs ++ [y]) = xs ++ [(y.1, some one64)] := by
  unfold lastOne
  apply List.ext_getElem (by simp)
  intro i h1 h2
  rw [List.getElem_modify]
  simp only [List.length_append, List.length_cons, List.length_nil, Nat.add_sub_cancel] at *
  by_cases hi : i < xs.length
  · rw [if_neg (by omega), List.getElem_append_left hi, List.getElem_append_left hi]
  · have : i = xs.length := by simp at h1; omega
    subst this; simp
end Go.Proofs.Ytdoeegfcmbcbkaa.Ct


namespace Go.Proofs.Ytdoeegfcmbcbkaa.Ct
open Go Go.Eng Tr
set_option linter.unusedVariables false
set_option maxRecDepth 100000

structure ShD (xs : List TShare) (ys : List SH) : Prop where
  len : xs.length = ys.length
  el : ∀ k (h : k < xs.length) (h' : k < ys.length), xs[k].Service = ys[k].1 ∧ Fl ys[k].2 xs[k].Upto
theorem ShD.nil : ShD [] [] := ⟨rfl, fun k h => absurd h (Nat.not_lt_zero _)⟩
theorem ShD.snoc {xs : List TShare} {ys : List SH} (h : ShD xs ys) {x : TShare} {y : SH} (h1 : x.Service = y.1) (h2 : Fl y.2 x.Upto) : ShD (xs ++ [x]) (ys ++ [y]) := by
  have hl := h.len
  refine ⟨by simp [hl], fun k a b => ?_⟩
  by_cases hk : k < xs.length
  · rw [List.getElem_append_left hk, List.getElem_append_left (by omega)]; exact h.el k hk (by omega)
  · have : k = xs.length := by simp at a; omega
    subst this
    simp only [List.getElem_append_right (Nat.le_refl _), Nat.sub_self, List.getElem_cons_zero]
    simp only [hl, List.getElem_append_right (Nat.le_refl _), Nat.sub_self, List.getElem_cons_zero]
    exact ⟨h1, h2⟩
theorem ShD.set {xs : List TShare} {ys : List SH} (h : ShD xs ys) {k : Nat} {x : TShare} {y : SH} (h1 : x.Service = y.1) (h2 : Fl y.2 x.Upto) : ShD (xs.set k x) (ys.set k y) := by
  refine ⟨by simp [h.len], fun j a b => ?_⟩
  rw [List.getElem_set, List.getElem_set]
  by_cases e : k = j
  · rw [if_pos e, if_pos e]; exact ⟨h1, h2⟩
  · rw [if_neg e, if_neg e]; exact h.el j (by simpa using a) (by simpa using b)
def saysS (xs : List TShare) : List SH := xs.map fun x => (x.Service, some x.Upto)
theorem ShD.of (xs : List TShare) : ShD xs (saysS xs) := ⟨by simp [saysS], fun k a b => by simp [saysS, Fl]⟩
section
variable {w : World} {F G : Nat → Prop} {s s' : Sl} {xs xs' : List TShare} {ys : List SH}
theorem alikeF_ok {x y : Nat} {o : Option Nat} (hx : Fl o x) (hy : Fl o y) : Ans Value.bool 61 #[.float .f64 x, .float .f64 y] w true := by
  refine c61 ?_
  unfold f61
  refine Jn.dup ?_
  refine rx_bits (rx_bits ?_)
  by_cases c : (x : Int) = (y : Int)
  · rw [if_pos c]; exact ⟨Ext.refl _, rfl⟩
  · rw [if_neg c]
    cases o with
    | some v => cases hx; cases hy; exact absurd rfl c
    | none =>
      have h1 : fNe x x = true := by simp [fNe, order_nan hx]
      have h2 : fNe y y = true := by simp [fNe, order_nan hy]
      rw [if_pos h1, h2]
      exact ⟨Ext.refl _, rfl⟩
theorem sharesF_ok (h0 : Rd TShare.cells 2 F w s xs) (h1 : Rd TShare.cells 2 G w s' xs') (d0 : ShD xs ys) (d1 : ShD xs' ys) : Ans Value.bool 20 #[s.v, s'.v] w true := by
  refine c20 ?_
  unfold f20
  have hl0 := d0.len; have hl1 := d1.len
  rw [if_neg (by rw [h0.len, h1.len, hl0, hl1]; simp)]
  refine Lp.mk (fun i w' => ∃ k : Nat, i = k ∧ k ≤ xs.length ∧ Ext w w') (fun i => xs.length - i.toNat) ⟨0, rfl, Nat.zero_le _, Ext.refl _⟩ ?_
  rintro i w' K ⟨k, rfl, hk, hE⟩ hK
  by_cases hlt : k < xs.length
  · rw [if_pos (by rw [h0.len]; omega)]
    have k0 := d0.el k hlt (by omega); have k1 := d1.el k (by omega) (by omega)
    refine Jn.dup ?_
    refine Dr.mk fun w1 hD _ => ?_
    replace hE := hE.trans hD
    refine rnp_idx sl23 (h0.ext hE) hlt rfl fun p _ hp => ?_
    refine rnl_at one9 hp rfl ?_
    refine rnp_idx sl23 (h1.ext hE) (k := k) (by omega) rfl fun q _ hq => ?_
    refine rnl_at one9 hq rfl ?_
    rw [if_neg (by rw [k0.1, k1.1]; simp)]
    refine rnp_idx sl23 (h0.ext hE) hlt rfl fun p _ hp => ?_
    refine rnl_at one30 hp rfl ?_
    refine rnp_idx sl23 (h1.ext hE) (k := k) (by omega) rfl fun q _ hq => ?_
    refine rnl_at one30 hq rfl ?_
    refine (alikeF_ok k0.2 k1.2).mono ?_
    rintro _ w2 ⟨hE2, rfl⟩
    rw [if_neg (by simp), h0.wr hlt]
    exact hK _ _ ⟨k + 1, rfl, hlt, hE.trans hE2⟩ (by omega)
  · rw [if_neg (by rw [h0.len]; omega)]
    exact ⟨hE, rfl⟩

def atS (xs : List TShare) (n : ByteArray) (i : Nat) : Bool := match xs[i]? with
  | some x => decide (x.Service = n)
  | none => false
theorem atS_eq {n : ByteArray} {i : Nat} (h : i < xs.length) : atS xs n i = decide (xs[i].Service = n) := by simp [atS, h]
theorem isS_ok {x : TShare} {n : ByteArray} {b : Nat} (hb : Blk w b 9 [.string n]) : Ans Value.bool 125 #[x.v, Ptr ⟨b, 0, none⟩] w (decide (x.Service = n)) := by
  refine c125 ?_
  unfold f125
  refine New.mk fun b2 w1 e1 h2 _ _ => ?_
  refine rn_blk one9 h2 rfl rfl ?_
  refine rn_blk (x := n) one9 (hb.ext e1) rfl rfl ?_
  exact ⟨e1, rfl⟩
theorem index124_ok (h : Rd TShare.cells 2 F w s xs) {n : ByteArray} {b : Nat} (hb : Blk w b 9 [.string n]) : Ans (Value.int .i64) 124 #[s.v, .func (.func 125) #[] #[Ptr ⟨b, 0, none⟩]] w (fst? (atS xs n) xs.length) := by
  refine c124 ?_
  unfold f124
  refine Lp.mk (fun (i : Int) w' => ∃ k : Nat, i = k ∧ k ≤ xs.length ∧ Ext w w' ∧ ∀ j, j < k → atS xs n j = false) (fun i => xs.length - i.toNat) ⟨0, rfl, Nat.zero_le _, Ext.refl _, fun j hj => absurd hj (Nat.not_lt_zero _)⟩ ?_
  rintro i w1 K ⟨k, rfl, hk, hE, hall⟩ hK
  by_cases hlt : k < xs.length
  · rw [if_pos (by rw [h.len]; omega)]
    refine rnp_idx sl23 (h.ext hE) hlt rfl fun p _ hp => ?_
    refine rn_ldN (x := xs[k]) many32 hp rfl rfl ?_
    refine ⟨125, #[], #[Ptr ⟨b, 0, none⟩], rfl, fun vs w => enters Try.func125 rfl rfl vs w, ?_⟩
    refine Cal.mono (isS_ok (x := xs[k]) (hb.ext hE)) ?_
    rintro _ w2 ⟨e2, rfl⟩
    have ha := atS_eq (n := n) hlt
    by_cases c : xs[k].Service = n
    · exact iteT (by simpa using c) ⟨hE.trans e2, (fst?_some hlt (by rw [ha]; simpa using c) hall).symm⟩
    · refine iteF (by simpa using c) ?_
      rw [h.wr hlt]; exact hK _ _ ⟨k + 1, rfl, hlt, hE.trans e2, all_succ hall (by rw [ha]; simpa using c)⟩ (by omega)
  · rw [if_neg (by rw [h.len]; omega)]
    exact ⟨hE, (fst?_none fun j hj => hall j (by omega)).symm⟩
theorem atS_cases (xs : List TShare) (n : ByteArray) : (fst? (atS xs n) xs.length = -1 ∧ ∀ j, j < xs.length → atS xs n j = false) ∨ ∃ k : Nat, fst? (atS xs n) xs.length = k ∧ k < xs.length ∧ atS xs n k = true ∧ ∀ j, j < k → atS xs n j = false := by
  by_cases h : ∃ k, k < xs.length ∧ atS xs n k = true
  · right
    obtain ⟨k, ⟨hk, hp⟩, hmin⟩ := least h
    refine ⟨k, fst?_some hk hp (fun j hj => ?_), hk, hp, fun j hj => ?_⟩ <;>
    · cases c : atS xs n j with
      | false => rfl
      | true => have := hmin j ⟨by omega, c⟩; omega
  · left
    have : ∀ j, j < xs.length → atS xs n j = false := fun j hj => by
      cases c : atS xs n j with
      | false => rfl
      | true => exact absurd ⟨j, hj, c⟩ h
    exact ⟨fst?_none this, this⟩
theorem addS_at (d : ShD xs ys) {n : ByteArray} {x : Option Nat} {k : Nat} (hk : k < xs.length) (hp : atS xs n k = true) (hall : ∀ j, j < k → atS xs n j = false) (hk' : k < ys.length) : addS ys n x = ys.set k (n, oadd2 ys[k].2 x) ∧ ys[k].1 = n := by
  have hl := d.len
  have e : ∀ j (hj : j < xs.length), ys[j].1 = xs[j].Service := fun j hj => (d.el j hj (by omega)).1.symm
  have h0 : ys[k].1 = n := by rw [e k hk]; rw [atS_eq hk] at hp; simpa using hp
  refine ⟨addS_hit hk' h0 fun j hj => ?_, h0⟩
  rw [e j (by omega)]
  have := hall j hj
  rw [atS_eq (by omega)] at this; simpa using this
theorem addS_no (d : ShD xs ys) {n : ByteArray} {x : Option Nat} (hall : ∀ j, j < xs.length → atS xs n j = false) : addS ys n x = ys ++ [(n, oadd2 (some 0) x)] := addS_miss fun p hp => by
  obtain ⟨j, hj, rfl⟩ := List.mem_iff_getElem.1 hp
  have hl := d.len
  have := hall j (by omega)
  rw [atS_eq (by omega), (d.el j (by omega) hj).1] at this; simpa using this
variable {B : Nat} {n : ByteArray} {x : Nat} {p : Option Nat}
def Adds (B : Nat) (w : World) (s : Sl) (ys : List SH) (s' : Sl) (w' : World) : Prop :=
  Chg (own? s) w w' ∧ (∀ b, own? s' b → own? s b ∨ w.heap.size ≤ b) ∧ ∃ xs', Own TShare.cells 2 32 B w' s' xs' ∧ ShD xs' ys
theorem add_ok (hO : Own TShare.cells 2 32 B w s xs) (d : ShD xs ys) (hB : B ≤ w.heap.size) (hp : Fl p x) (hbytes : (ys.length + 1) * 24 ≤ 140737488355328) :
    Cal PP Sl.v 100 #[s.v, .string n, .float .f64 x] w (Adds B w s (addS ys n p)) := by
  refine c100 ?_
  unfold f100
  have hl := d.len
  refine New.mk fun b4 w1 e1 h4 n4 s4 => ?_
  refine (index124_ok ((hO.ext e1).rd (F := fun _ => True) (fun _ _ => trivial)) h4).mono ?_
  rintro _ w2 ⟨e2, rfl⟩
  replace h4 := h4.ext e2
  have E := e1.trans e2
  have hO2 := hO.ext E
  have g2 := E.size
  refine ⟨fun (y : Sl × Int) w' => ∃ (k : Nat) (xs' : List TShare) (ys' : List SH) (hk : k < ys'.length), y.2 = k ∧ Chg (own? s) w w' ∧ (∀ b, own? y.1 b → own? s b ∨ w.heap.size ≤ b) ∧ Own TShare.cells 2 32 B w' y.1 xs' ∧ ShD xs' ys' ∧
      addS ys n p = ys'.set k (n, oadd2 ys'[k].2 p) ∧ ys'[k].1 = n, ?_, ?_⟩
  · rcases atS_cases xs n with ⟨h0, hall⟩ | ⟨k, h0, hk, hpk, hall⟩
    · refine iteT (by rw [h0]; decide) ?_
      refine rn_blk (x := n) one9 h4 rfl rfl ?_
      refine New.mk fun b18 w3 e3 h18 n18 s18 => ?_
      refine rn_app1 (x := (⟨n, 0⟩ : TShare)) el23 (hO2.ext e3) h18 rfl rfl (oc_share _) (by rw [hl]; exact hbytes) (by decide) (by have := e3.size; omega) fun s' w4 O4 c4 n4' => ?_
      refine ⟨ys.length, xs ++ [⟨n, 0⟩], ys ++ [(n, some 0)], by simp, by simp only [hO.len, hl], ((E.trans e3).chg _).trans c4, fun b hb => ?_, O4, d.snoc (x := ⟨n, 0⟩) (y := (n, some 0)) rfl rfl, ?_, by simp⟩
      · rcases n4' b hb with h | h
        · exact .inl h
        · right; have := e3.size; omega
      · rw [addS_no d hall]; simp
    · refine iteF (by rw [h0]; omega) ?_
      obtain ⟨h5, h6⟩ := addS_at d (x := p) hk hpk hall (by omega)
      exact ⟨k, xs, ys, by omega, h0, E.chg _, fun b hb => .inl hb, hO2, d, h5, h6⟩
  rintro ⟨s', _⟩ w5 ⟨k, xs', ys', hk, rfl, c5, n5, O5, d5, h5, h6⟩
  dsimp only at n5 O5 ⊢
  have hl5 := d5.len
  refine rnp_idx sl23 (O5.rd (F := fun _ => True) (fun _ _ => trivial)) (k := k) (by omega) rfl fun q _ hq => ?_
  refine rn_at one30 hq rfl ?_
  refine rn_add2 (d5.el k (by omega) hk).2 hp fun v w6 hv e6 _ => ?_
  refine own_setN (f := 1) (vs := [.float .f64 v]) (x' := (⟨n, v⟩ : TShare)) sl23 (O5.ext e6) (k := k) (by omega) rfl (by simp) sz30 rfl (by simp [Value.oneCell']) ?_ fun w7 c7 O7 s7 => ?_
  · rw [show n = xs'[k].Service by rw [(d5.el k (by omega) hk).1, h6]]; rfl
  · refine ⟨(c5.thenE e6).then c7 fun b hb ho => ?_, n5, _, O7, ?_⟩
    · rcases n5 b ho with h | h
      · exact h
      · omega
    · rw [h5]; exact d5.set rfl hv
theorem refAdd_ok (hO : Own TShare.cells 2 32 B w s xs) (d : ShD xs ys) (hB : B ≤ w.heap.size) (hp : Fl p x) (hbytes : (ys.length + 1) * 24 ≤ 140737488355328) :
    Cal PP Sl.v 129 #[s.v, .string n, .float .f64 x] w (Adds B w s (addS ys n p)) := by
  refine c129 ?_
  unfold f129
  have hl := d.len
  have hR : ∀ {w'}, Ext w w' → Rd TShare.cells 2 (fun _ => True) w' s xs := fun e => (hO.ext e).rd (fun _ _ => trivial)
  refine Lp.mk (fun (i : Int) w' => ∃ k : Nat, i = k ∧ k ≤ xs.length ∧ w' = w ∧ ∀ j, j < k → atS xs n j = false) (fun i => xs.length - i.toNat) ⟨0, rfl, Nat.zero_le _, rfl, fun j hj => absurd hj (Nat.not_lt_zero _)⟩ ?_
  rintro i _ K ⟨k, rfl, hk, rfl, hall⟩ hK
  by_cases hlt : k < xs.length
  · refine iteT (by rw [hO.len]; omega) ?_
    refine rnp_idx sl23 (hR (Ext.refl _)) hlt rfl fun q _ hq => ?_
    refine rn_at one9 hq rfl ?_
    have ha := atS_eq (n := n) hlt
    by_cases c : xs[k].Service = n
    · refine iteT c ?_
      obtain ⟨h5, h6⟩ := addS_at d (x := p) hlt (by rw [ha]; simpa using c) hall (by omega)
      refine rnp_idx sl23 (hR (Ext.refl _)) hlt rfl fun q _ hq => ?_
      refine rn_at one30 hq rfl ?_
      refine rn_add2 (d.el k hlt (by omega)).2 hp fun v w6 hv e6 _ => ?_
      refine own_setN (f := 1) (vs := [.float .f64 v]) (x' := (⟨n, v⟩ : TShare)) sl23 (hO.ext e6) hlt rfl (by simp) sz30 rfl (by simp [Value.oneCell']) ?_ fun w7 c7 O7 s7 => ?_
      · rw [← c]; rfl
      · exact ⟨(e6.chg _).trans c7, fun b hb => .inl hb, _, O7, by rw [h5]; exact d.set rfl hv⟩
    · refine iteF c ?_
      rw [(hR (Ext.refl _)).wr hlt]
      exact hK _ _ ⟨k + 1, rfl, hlt, rfl, all_succ hall (by rw [ha]; simpa using c)⟩ (by omega)
  · refine iteF (by rw [hO.len]; omega) ?_
    refine rn_add2 (o := some 0) rfl hp fun v w2 hv e2 _ => ?_
    refine New.mk fun b18 w3 e3 h18 n18 s18 => ?_
    have E := e2.trans e3
    refine rn_app1 (x := (⟨n, v⟩ : TShare)) el23 (hO.ext E) h18 rfl rfl (oc_share _) (by rw [hl]; exact hbytes) (by decide) (by have := E.size; omega) fun s' w4 O4 c4 n4' => ?_
    refine ⟨(E.chg _).trans c4, fun b hb => ?_, _, O4, ?_⟩
    · rcases n4' b hb with h | h
      · exact .inl h
      · right; have := E.size; omega
    · rw [addS_no d fun j hj => hall j (by omega)]; exact d.snoc rfl hv
end
end Go.Proofs.Ytdoeegfcmbcbkaa.Ct


namespace Go.Proofs.Ytdoeegfcmbcbkaa.Ct
open Go Go.Eng Tr
set_option linter.unusedVariables false
set_option maxRecDepth 100000

section
variable {w : World} {F : Nat → Prop} {s : Sl} {xs : List TShare} {ys : List SH}
theorem lastOne_len (ys : List SH) : (lastOne ys).length = ys.length := by simp [lastOne]
theorem ShD.last {xs : List TShare} {ys : List SH} (h : ShD xs ys) (h0 : 0 < xs.length) : ShD (xs.set (xs.length - 1) ⟨(xs[xs.length - 1]'(by omega)).Service, one64⟩) (lastOne ys) := by
  have hl := h.len
  have e : lastOne ys = ys.set (xs.length - 1) ((ys[xs.length - 1]'(by omega)).1, some one64) := by
    unfold lastOne
    apply List.ext_getElem (by simp)
    intro i h1 h2
    rw [List.getElem_modify, List.getElem_set]
    by_cases hi : xs.length - 1 = i
    · subst hi; rw [if_pos (by omega), if_pos rfl]
    · rw [if_neg (by omega), if_neg hi]
  rw [e]
  exact h.set (h.el _ (by omega) (by omega)).1 rfl
theorem stp_yes {st : List SH × Option Nat} {y : SH} (h : oGt y.2 0 = true) : stp st y = (st.1 ++ [(y.1, oadd2 st.2 y.2)], oadd2 st.2 y.2) := by unfold stp; rw [if_pos h]
theorem stp_no {st : List SH × Option Nat} {y : SH} (h : ¬ oGt y.2 0 = true) : stp st y = st := by unfold stp; rw [if_neg h]
theorem steps_ok (h : Rd TShare.cells 2 F w s xs) (d : ShD xs ys) (hbytes : (ys.length + 1) * 24 ≤ 140737488355328) :
    Cal PP Sl.v 19 #[s.v] w fun s' w' => Ext w w' ∧ ∃ xs', Own TShare.cells 2 32 w.heap.size w' s' xs' ∧ ShD xs' (stepsS ys) := by
  refine c19 ?_
  unfold f19
  have hl := d.len
  refine Lp.mk (fun (y : Sl × Nat × Int) w' => ∃ (k : Nat) (xs' : List TShare), y.2.2 = k ∧ k ≤ xs.length ∧ Ext w w' ∧ Own TShare.cells 2 32 w.heap.size w' y.1 xs' ∧ ShD xs' (rawS (ys.take k)).1 ∧ Fl (rawS (ys.take k)).2 y.2.1) (fun y => xs.length - y.2.2.toNat)
    ⟨0, [], rfl, Nat.zero_le _, Ext.refl _, Own.nil_ _ _, ShD.nil, rfl⟩ ?_
  rintro ⟨z, u, _⟩ w1 K ⟨k, xs', rfl, hk, hE, hO, hd, hu⟩ hK
  dsimp only at hO hd hu ⊢
  by_cases hlt : k < xs.length
  · rw [if_pos (by rw [h.len]; omega)]
    have hky : k < ys.length := by omega
    have hel := d.el k hlt hky
    refine ⟨fun (y : Sl × Nat) w' => ∃ xs', Ext w w' ∧ Own TShare.cells 2 32 w.heap.size w' y.1 xs' ∧ ShD xs' (rawS (ys.take (k + 1))).1 ∧ Fl (rawS (ys.take (k + 1))).2 y.2, ?_, ?_⟩
    · rw [rawS_succ hky]
      refine rnp_idx sl23 (h.ext hE) hlt rfl fun p _ hp => ?_
      refine rn_ldN (x := xs[k]) many32 hp rfl rfl ?_
      refine New.var (TShare.cells xs[k]) sz32 rfl (oc_share _) rfl fun b6 w2 e2 h6 _ => ?_
      replace hE := hE.trans e2; replace hO := hO.ext e2
      refine rn_blk (x := xs[k].Upto) one30 h6 rfl rfl ?_
      rw [hel.2.gt]
      by_cases c : oGt ys[k].2 0 = true
      · refine iteT c ?_
        rw [stp_yes c]
        refine rn_blk (x := xs[k].Upto) one30 h6 rfl rfl ?_
        refine rn_add2 hu hel.2 fun v w3 hv e3 _ => ?_
        replace hE := hE.trans e3; replace hO := hO.ext e3; replace h6 := h6.ext e3
        refine rn_blk (x := xs[k].Service) one9 h6 rfl rfl ?_
        refine New.mk fun b25 w4 e4 h25 _ _ => ?_
        replace hE := hE.trans e4; replace hO := hO.ext e4
        have hlen : xs'.length ≤ k := by rw [hd.len]; exact rawS_len ys k (by omega)
        refine rn_app1 (x := (⟨xs[k].Service, v⟩ : TShare)) el23 hO h25 rfl rfl (oc_share _) (by omega) (by decide) hE.size fun s' w5 O5 c5 n5 => ?_
        exact ⟨_, hE.then c5 (fun b hb => (hO.ge hb).1), O5, hd.snoc hel.1 hv, hv⟩
      · refine iteF c ?_
        rw [stp_no c]
        exact ⟨xs', hE, hO, hd, hu⟩
    · rintro ⟨z, u⟩ w2 ⟨xs', hE, hO, hd, hu⟩
      dsimp only at hO hu ⊢
      rw [h.wr hlt]
      exact hK _ _ ⟨k + 1, xs', rfl, hlt, hE, hO, hd, hu⟩ (by dsimp only; omega)
  · rw [if_neg (by rw [h.len]; omega)]
    obtain rfl : k = xs.length := by omega
    rw [hl, List.take_length] at hd
    refine ⟨fun _ w' => Ext w w' ∧ ∃ xs', Own TShare.cells 2 32 w.heap.size w' z xs' ∧ ShD xs' (stepsS ys), ?_, fun _ w' h => h⟩
    by_cases c : 0 < xs'.length
    · refine iteT (by rw [hO.len]; omega) ?_
      have hlim := (hO.rd (F := fun _ => True) (fun _ _ => trivial)).lim
      have hcap := (hO.rd (F := fun _ => True) (fun _ _ => trivial)).cap
      have hn := hO.len
      have ei : IntKind.i64.wrap ((z.n : Int) - 1) = ((xs'.length - 1 : Nat) : Int) := by
        unfold maxLen at hlim
        rw [hn, wrap_in ⟨by omega, by omega⟩]; omega
      rw [ei]
      refine own_setN (f := 1) (vs := [.float .f64 one64]) (x' := (⟨(xs'[xs'.length - 1]'(by omega)).Service, one64⟩ : TShare)) sl23 hO (k := xs'.length - 1) (by omega) rfl (by simp) sz30 rfl (by simp [Value.oneCell']) rfl fun w2 c2 O2 s2 => ?_
      exact ⟨hE.then c2 (fun b hb => (hO.ge hb).1), _, O2, hd.last c⟩
    · refine iteF (by rw [hO.len]; omega) ?_
      have h0 : xs' = [] := List.eq_nil_of_length_eq_zero (by omega)
      have h1 : (rawS ys).1 = [] := List.eq_nil_of_length_eq_zero (by rw [← hd.len]; omega)
      exact ⟨hE, xs', hO, by unfold stepsS; rw [h1, h0]; exact ShD.nil⟩

def posAt (ys : List SH) (k : Nat) : Bool := match ys[k]? with
  | some y => oGt y.2 0
  | none => false
theorem posAt_eq {k : Nat} (h : k < ys.length) : posAt ys k = oGt ys[k].2 0 := by simp [posAt, h]
def lst (ys : List SH) : Nat → Int
  | 0 => -1
  | k + 1 => if posAt ys k = true then (k : Int) else lst ys k
theorem lst_lt : ∀ k, lst ys k < k
  | 0 => by simp [lst]
  | k + 1 => by
    have := lst_lt k
    unfold lst; split <;> omega
theorem lst_ge {j : Nat} (hp : posAt ys j = true) : ∀ k, j < k → (j : Int) ≤ lst ys k
  | 0, h => absurd h (Nat.not_lt_zero _)
  | k + 1, h => by
    unfold lst
    by_cases c : posAt ys k = true
    · rw [if_pos c]; omega
    · rw [if_neg c]
      have : j ≠ k := fun e => c (e ▸ hp)
      exact lst_ge hp k (by omega)
theorem lst_pos {j : Nat} : ∀ k, lst ys k = j → posAt ys j = true
  | 0, h => by simp [lst] at h
  | k + 1, h => by
    unfold lst at h
    by_cases c : posAt ys k = true
    · rw [if_pos c] at h
      have : k = j := by omega
      exact this ▸ c
    · rw [if_neg c] at h; exact lst_pos k h
def cutS (m : Int) (k : Nat) (ys : List SH) : List SH := if m < (k : Int) then lastOne ys else ys
theorem refSteps_ok (h : Rd TShare.cells 2 F w s xs) (d : ShD xs ys) (hbytes : (ys.length + 1) * 24 ≤ 140737488355328) :
    Cal PP Sl.v 22 #[s.v] w fun s' w' => Ext w w' ∧ ∃ xs', Own TShare.cells 2 32 w.heap.size w' s' xs' ∧ ShD xs' (stepsS ys) := by
  refine c22 ?_
  unfold f22
  have hl := d.len
  refine Lp.mk (fun (y : Int × Int) w' => ∃ k : Nat, y.2 = k ∧ k ≤ xs.length ∧ w' = w ∧ y.1 = lst ys k) (fun y => xs.length - y.2.toNat) ⟨0, rfl, Nat.zero_le _, rfl, rfl⟩ ?_
  rintro ⟨_, _⟩ w0 K ⟨k, rfl, hk, hw0, rfl⟩ hK
  dsimp only at *
  subst hw0
  by_cases hlt : k < xs.length
  · rw [if_pos (by rw [h.len]; omega)]
    have hky : k < ys.length := by omega
    have hel := d.el k hlt hky
    refine ⟨fun y w' => w' = w0 ∧ y = lst ys (k + 1), ?_, ?_⟩
    · refine rnp_idx sl23 h hlt rfl fun p _ hp => ?_
      refine rn_at one30 hp rfl ?_
      rw [hel.2.gt]
      have hp := posAt_eq hky
      by_cases c : oGt ys[k].2 0 = true
      · exact iteT c ⟨rfl, by unfold lst; rw [hp, if_pos c]⟩
      · exact iteF c ⟨rfl, by conv => rhs; unfold lst
                              rw [hp, if_neg c]⟩
    rintro y w1 ⟨rfl, rfl⟩
    rw [h.wr hlt]
    exact hK _ _ ⟨k + 1, rfl, hlt, rfl, rfl⟩ (by dsimp only; omega)
  rw [if_neg (by rw [h.len]; omega)]
  obtain rfl : k = xs.length := by omega
  clear hK
  have hm1 := lst_lt (ys := ys) xs.length
  have hm2 : ∀ j, j < xs.length → posAt ys j = true → (j : Int) ≤ lst ys xs.length := fun j hj hp => lst_ge hp _ hj
  have hm3 : ∀ j : Nat, j < xs.length → lst ys xs.length = j → posAt ys j = true := fun j _ e => lst_pos _ e
  generalize lst ys xs.length = m at hm1 hm2 hm3
  refine Lp.mk (fun (y : Sl × Nat × Int) w' => ∃ (k : Nat) (xs' : List TShare), y.2.2 = k ∧ k ≤ xs.length ∧ Ext w0 w' ∧ Own TShare.cells 2 32 w0.heap.size w' y.1 xs' ∧ ShD xs' (cutS m k (rawS (ys.take k)).1) ∧ Fl (rawS (ys.take k)).2 y.2.1) (fun y => xs.length - y.2.2.toNat)
    ⟨0, [], rfl, Nat.zero_le _, Ext.refl _, Own.nil_ _ _, by
      have : cutS m 0 (rawS (ys.take 0)).1 = [] := by
        have h0 : (rawS (ys.take 0)).1 = [] := by simp [rawS]
        rw [h0]; unfold cutS; split <;> rfl
      rw [this]; exact ShD.nil, rfl⟩ ?_
  rintro ⟨z, u, _⟩ w1 K ⟨k, xs', rfl, hk, hE, hO, hd, hu⟩ hK
  dsimp only at hO hd hu ⊢
  by_cases hlt : k < xs.length
  · rw [if_pos (by rw [h.len]; omega)]
    have hky : k < ys.length := by omega
    have hel := d.el k hlt hky
    have hpk := posAt_eq hky
    refine ⟨fun (y : Sl × Nat) w' => ∃ xs', Ext w0 w' ∧ Own TShare.cells 2 32 w0.heap.size w' y.1 xs' ∧ ShD xs' (cutS m (k + 1) (rawS (ys.take (k + 1))).1) ∧ Fl (rawS (ys.take (k + 1))).2 y.2, ?_, ?_⟩
    · rw [rawS_succ hky]
      refine rnp_idx sl23 (h.ext hE) hlt rfl fun p _ hp => ?_
      refine rn_at one30 hp rfl ?_
      rw [hel.2.gt]
      by_cases c : oGt ys[k].2 0 = true
      · refine iteF (by simp [c]) ?_
        rw [stp_yes c]
        have hkm := hm2 k hlt (by rw [hpk]; exact c)
        refine rnp_idx sl23 (h.ext hE) hlt rfl fun p _ hp => ?_
        refine rn_at one30 hp rfl ?_
        refine rn_add2 hu hel.2 fun v w3 hv e3 _ => ?_
        replace hE := hE.trans e3; replace hO := hO.ext e3
        refine rnp_idx sl23 (h.ext hE) hlt rfl fun p _ hp => ?_
        refine rn_at one9 hp rfl ?_
        have hO3 := hO; have gE3 := hE.size
        refine New.var (TShare.cells ⟨xs[k].Service, v⟩) sz32 rfl (oc_share _) rfl fun b8 w4 e4 h8 nb8 => ?_
        replace hE := hE.trans e4; replace hO := hO.ext e4
        have hlen : xs'.length ≤ k := by
          rw [hd.len]
          have := rawS_len ys k (by omega)
          unfold cutS; split
          · rw [lastOne_len]; exact this
          · exact this
        have hcut : cutS m k (rawS (ys.take k)).1 = (rawS (ys.take k)).1 := by unfold cutS; rw [if_neg (by omega)]
        rw [hcut] at hd
        refine ⟨fun _ w' => ∃ v', Ext w0 w' ∧ Own TShare.cells 2 32 w0.heap.size w' z xs' ∧ Blk w' b8 32 (TShare.cells ⟨xs[k].Service, v'⟩) ∧ ShD (xs' ++ [⟨xs[k].Service, v'⟩]) (cutS m (k + 1) ((rawS (ys.take k)).1 ++ [(ys[k].1, oadd2 (rawS (ys.take k)).2 ys[k].2)])), ?_, ?_⟩
        · have gO : ∀ b, own? z b → b < w3.heap.size := fun b hb => (hO3.ge hb).2
          by_cases cm : (k : Int) = m
          · refine iteT cm ?_
            refine rnu_st (b := b8) (o := 1) rfl h8 [.float .f64 one64] sz30 rfl (by simp [Value.oneCell']) (by simp [TShare.cells]) fun w5 c5 s5 h8' => ?_
            refine ⟨one64, hE.then c5 (fun b hb => by omega), hO.chg c5 (fun b hb he => by have := gO b hb; omega), h8', ?_⟩
            unfold cutS; rw [if_pos (by omega), lastOne_snoc]
            exact hd.snoc hel.1 rfl
          · refine iteF cm ⟨v, hE, hO, h8, ?_⟩
            unfold cutS; rw [if_neg (by omega)]
            exact hd.snoc hel.1 hv
        rintro _ w5 ⟨v', hE, hO, h8, hd⟩
        refine rn_blkN (x := (⟨xs[k].Service, v'⟩ : TShare)) many32 h8 rfl rfl ?_
        refine New.mk fun b55 w6 e6 h55 _ _ => ?_
        replace hE := hE.trans e6; replace hO := hO.ext e6
        refine rn_app1 (x := (⟨xs[k].Service, v'⟩ : TShare)) el23 hO h55 rfl rfl (oc_share _) (by omega) (by decide) hE.size fun s' w7 O7 c7 n7 => ?_
        exact ⟨_, hE.then c7 (fun b hb => (hO.ge hb).1), O7, hd, hv⟩
      · refine iteT (by simp [c]) ?_
        rw [stp_no c]
        refine ⟨xs', hE, hO, ?_, hu⟩
        have hne : ¬ m = (k : Int) := fun e => c (by rw [← hpk]; exact hm3 k hlt e)
        have : cutS m (k + 1) (rawS (ys.take k)).1 = cutS m k (rawS (ys.take k)).1 := by
          unfold cutS
          by_cases c1 : m < (k : Int)
          · rw [if_pos c1, if_pos (by omega)]
          · rw [if_neg c1, if_neg (by omega)]
        rw [this]; exact hd
    · rintro ⟨z, u⟩ w2 ⟨xs', hE, hO, hd, hu⟩
      dsimp only at hO hu ⊢
      rw [h.wr hlt]
      exact hK _ _ ⟨k + 1, xs', rfl, hlt, hE, hO, hd, hu⟩ (by dsimp only; omega)
  · rw [if_neg (by rw [h.len]; omega)]
    obtain rfl : k = xs.length := by omega
    rw [hl, List.take_length] at hd
    refine ⟨hE, xs', hO, ?_⟩
    have : cutS m ys.length (rawS ys).1 = stepsS ys := by unfold cutS stepsS; rw [if_pos (by omega)]
    rw [← this]; exact hd
end
end Go.Proofs.Ytdoeegfcmbcbkaa.Ct


namespace Go.Proofs.Ytdoeegfcmbcbkaa.Ct
open Go Go.Eng Tr
set_option linter.unusedVariables false
set_option maxRecDepth 100000

section
variable {w : World} {F : Nat → Prop} {s : Sl} {rs : List TResource}
def ofKind (kind : Int) (rs : List TResource) : List TResource := rs.filter fun r => decide (r.Kind = kind)
theorem ofKind_succ {kind : Int} {k : Nat} (h : k < rs.length) : ofKind kind (rs.take (k + 1)) = ofKind kind (rs.take k) ++ if rs[k].Kind = kind then [rs[k]] else [] := by
  unfold ofKind
  rw [List.take_add_one, List.getElem?_eq_getElem h, List.filter_append]
  by_cases c : rs[k].Kind = kind <;> simp [c]
theorem ofKind_len (kind : Int) (rs : List TResource) : (ofKind kind rs).length ≤ rs.length := List.length_filter_le _ _
theorem named_ok (h : Rd TResource.cells 8 F w s rs) (kind : Int) (hb : (rs.length + 1) * 136 ≤ 140737488355328) :
    Cal PP Sl.v 54 #[s.v, .int .i64 kind] w fun s' w' => Ext w w' ∧ Own TResource.cells 8 48 w.heap.size w' s' (ofKind kind rs) := by
  refine c54 ?_
  unfold f54
  refine Lp.mk (fun (y : Sl × Int) w' => ∃ k : Nat, y.2 = k ∧ k ≤ rs.length ∧ Ext w w' ∧ Own TResource.cells 8 48 w.heap.size w' y.1 (ofKind kind (rs.take k))) (fun y => rs.length - y.2.toNat) ⟨0, rfl, Nat.zero_le _, Ext.refl _, Own.nil_ _ _⟩ ?_
  rintro ⟨z, _⟩ w1 K ⟨k, rfl, hk, hE, hO⟩ hK
  dsimp only at hO ⊢
  by_cases hlt : k < rs.length
  · rw [if_pos (by rw [h.len]; omega)]
    refine ⟨fun y w' => Ext w w' ∧ Own TResource.cells 8 48 w.heap.size w' y (ofKind kind (rs.take (k + 1))), ?_, ?_⟩
    · rw [ofKind_succ hlt]
      refine rnp_idx sl22 (h.ext hE) hlt rfl fun p _ hp => ?_
      refine rn_ldN (x := rs[k]) many48 hp rfl rfl ?_
      refine New.var (TResource.cells rs[k]) sz48 rfl (oc_res _) rfl fun b7 w2 e2 h7 _ => ?_
      replace hE := hE.trans e2; replace hO := hO.ext e2
      refine rn_blk (x := rs[k].Kind) one3 h7 rfl rfl ?_
      by_cases c : rs[k].Kind = kind
      · refine iteT c ?_
        rw [if_pos c]
        refine rn_blkN (x := rs[k]) many48 h7 rfl rfl ?_
        refine New.mk fun b20 w3 e3 h20 _ _ => ?_
        have hlen := ofKind_len kind (rs.take k)
        rw [List.length_take] at hlen
        refine rn_app1 (x := rs[k]) el22 (hO.ext e3) h20 rfl rfl (oc_res _) (by omega) (by decide) (by have := (hE.trans e3).size; omega) fun s' w4 O4 c4 n4 => ?_
        exact ⟨(hE.trans e3).then c4 (fun b hb => (hO.ge hb).1), O4⟩
      · refine iteF c ⟨hE, ?_⟩
        rw [if_neg c, List.append_nil]; exact hO
    · rintro y w2 ⟨hE, hO⟩
      rw [h.wr hlt]
      exact hK _ _ ⟨k + 1, rfl, hlt, hE, hO⟩ (by dsimp only; omega)
  · rw [if_neg (by rw [h.len]; omega)]
    obtain rfl : k = rs.length := by omega
    rw [List.take_length] at hO
    exact ⟨hE, hO⟩
def atR (rs : List TResource) (n : ByteArray) (i : Nat) : Bool := match rs[i]? with
  | some r => decide (r.Name = n)
  | none => false
def hasR (rs : List TResource) (n : ByteArray) : Bool := decide (0 ≤ fst? (atR rs n) rs.length)
end

theorem mapT97 : MapT PP 97 9 23 Value.string Sl.v Sl.nil := ⟨Try.underlying97, keyT_string Try.underlying9, by kernel_rfl⟩
theorem mapT153 : MapT PP 153 9 45 Value.string Sl.v Sl.nil := ⟨Try.underlying153, keyT_string Try.underlying9, by kernel_rfl⟩
def ofV (b6 b3 b7 : Nat) : Value := .func (.func 99) #[] #[Ptr ⟨b6, 0, none⟩, Ptr ⟨b3, 0, none⟩, Ptr ⟨b7, 0, none⟩]
structure AllW (F : Nat → Prop) (l : List DRes) (b3 b6 b7 b9 b23 : Nat) (ms : List (ByteArray × Sl)) (w : World) : Prop where
  hb3 : Blk w b3 153 [.map (some b9)]
  hb6 : Blk w b6 97 [.map (some b23)]
  hb7 : Blk w b7 154 [ofV b6 b3 b7]
  hms : Mp Value.string Sl.v w b9 ms
  tg : ∀ n d, splitOf l n = some d → ∃ t, mget ms n = some t ∧ Rd TTarget.cells 3 F w t d.targets
  no : ∀ n, splitOf l n = none → mget ms n = none
  ne : b3 ≠ b23 ∧ b6 ≠ b23 ∧ b7 ≠ b23 ∧ b9 ≠ b23
  nF : ∀ b, F b → b ≠ b23
section
variable {F Q Q' S : Nat → Prop} {l : List DRes} {b3 b6 b7 b9 b23 : Nat} {ms : List (ByteArray × Sl)} {m : List (ByteArray × Sl)} {w w' : World}
theorem AllW.chg (h : AllW F l b3 b6 b7 b9 b23 ms w) (k : Chg (fun b => b = b23) w w') : AllW F l b3 b6 b7 b9 b23 ms w' :=
  ⟨h.hb3.chg k h.ne.1, h.hb6.chg k h.ne.2.1, h.hb7.chg k h.ne.2.2.1, h.hms.chg k h.ne.2.2.2, fun n d hs => let ⟨t, h1, h2⟩ := h.tg n d hs; ⟨t, h1, h2.chg k (fun b hb _ => h.nF b hb)⟩, h.no, h.ne, h.nF⟩
theorem AllW.chgR {r : Nat} (h : AllW F l b3 b6 b7 b9 b23 ms w) (k : Chg (fun b => b = r) w w') (h3 : b3 ≠ r) (h6 : b6 ≠ r) (h7 : b7 ≠ r) (h9 : b9 ≠ r) (hF : ∀ b, F b → b ≠ r) : AllW F l b3 b6 b7 b9 b23 ms w' :=
  ⟨h.hb3.chg k h3, h.hb6.chg k h6, h.hb7.chg k h7, h.hms.chg k h9, fun n d hs => let ⟨t, h1, h2⟩ := h.tg n d hs; ⟨t, h1, h2.chg k (fun b hb _ => hF b hb)⟩, h.no, h.ne, h.nF⟩
structure DoneI (Q : Nat → Prop) (l : List DRes) (b23 : Nat) (w : World) (m : List (ByteArray × Sl)) : Prop where
  mp : Mp Value.string Sl.v w b23 m
  el : ∀ n v, mget m n = some v → ∃ xs, Rd TShare.cells 2 (fun b => (b ≠ b23 ∧ ¬ Q b) ∧ b < w.heap.size) w v xs ∧ ShD xs (shF l n)
theorem DoneI.chg (h : DoneI Q l b23 w m) (k : Chg S w w') (h1 : ¬ S b23) (h2 : ∀ b, b < w.heap.size → S b → Q b) (h3 : ∀ b, b < w.heap.size → Q' b → Q b) : DoneI Q' l b23 w' m :=
  ⟨h.mp.chg k h1, fun n v hv => let ⟨xs, r, d⟩ := h.el n v hv; ⟨xs, (r.chg k (fun b hb _ hS => hb.1.2 (h2 b hb.2 hS))).mono fun b hb => ⟨⟨hb.1.1, fun hq => hb.1.2 (h3 b hb.2 hq)⟩, by have := k.size; omega⟩, d⟩⟩
theorem DoneI.ext (h : DoneI Q l b23 w m) (k : Ext w w') : DoneI Q l b23 w' m := h.chg (k.chg (fun _ => False)) (fun h => h) (fun _ _ h => h.elim) (fun _ _ h => h)
theorem DoneI.weaken (h : DoneI Q l b23 w m) (h3 : ∀ b, b < w.heap.size → Q' b → Q b) : DoneI Q' l b23 w m := h.chg (Chg.refl (fun _ => False) _) (fun h => h) (fun _ _ h => h.elim) h3
def Knows (Q : Nat → Prop) (l : List DRes) (b23 : Nat) (n : ByteArray) (v : Sl) (w : World) : Prop := ∃ xs, Rd TShare.cells 2 (fun b => (b ≠ b23 ∧ ¬ Q b) ∧ b < w.heap.size) w v xs ∧ ShD xs (shF l n)
theorem of_shares (hS : Stand l) (hlen : l.length ≤ 64) : ∀ (j : Nat) (w : World) (Q : Nat → Prop) (m : List (ByteArray × Sl)) (n : ByteArray), hd l 8 n ≤ 8 → hd l 8 n ≤ j →
    AllW F l b3 b6 b7 b9 b23 ms w → DoneI Q l b23 w m → (∀ b, Q b → b < w.heap.size) →
    Cal PP Sl.v 99 #[.string n, Ptr ⟨b6, 0, none⟩, Ptr ⟨b3, 0, none⟩, Ptr ⟨b7, 0, none⟩] w fun v w' => Chg (fun b => b = b23) w w' ∧ Knows Q l b23 n v w' ∧ ∃ m', DoneI Q l b23 w' m' ∧ n ∈ mkeys m' ∧ ∀ k, k ∈ mkeys m → k ∈ mkeys m' := by
  intro j
  induction j with
  | zero => intro w Q m n _ h; have := (hd_bounds l 8 n).1; omega
  | succ j ih =>
  intro w Q m n h8 hj hW hD hQ
  refine c99 ?_
  unfold f99
  have h23 : b23 < w.heap.size := hD.mp.lt
  refine rn_blk (x := some b23) one97 hW.hb6 rfl rfl ?_
  refine rn_get2 (k := n) (fun _ => rfl) mapT97 hD.mp ?_
  cases hg : mget m n with
  | some v =>
    refine iteT rfl ⟨Chg.refl _ _, hD.el n v hg, m, hD, ?_, fun _ h => h⟩
    exact Classical.byContradiction fun h => by rw [mget_none.2 h] at hg; cases hg
  | none =>
  refine iteF (by simp) ?_
  refine rn_blk (x := some b9) one153 hW.hb3 rfl rfl ?_
  refine rn_get (k := n) mapT153 hW.hms ?_
  -- what its targets are
  have htg : ∃ ts : List TTarget, (∀ w', Chg (fun b => b = b23) w w' → Rd TTarget.cells 3 (fun b => F b ∨ False) w' ((mget ms n).getD Sl.nil) ts) ∧ sumS (shF l) ts = shF l n ∧ (∀ k, OkS l (sumS (shF l) (ts.take k))) ∧
      (∀ t ∈ ts, t.Service = ⟨#[]⟩ → hd l 8 t.Split < hd l 8 n) := by
    cases hs : splitOf l n with
    | none =>
      refine ⟨[], fun w' _ => ?_, by rw [shF_none hs]; rfl, fun k => by rw [List.take_nil]; exact OkS.nil, fun t ht => by cases ht⟩
      rw [hW.no n hs]; exact Rd.nil_ _ _
    | some d =>
      obtain ⟨t, h1, h2⟩ := hW.tg n d hs
      obtain ⟨q1, q2, q3⟩ := splitOf_mem hs
      refine ⟨d.targets, fun w' k => ?_, (shF_eq h8 hs).symm, fun k => sumS_ok hS q1 q2 k, fun t ht hts => kid_hd h8 (kid_mem hs ht hts)⟩
      rw [h1]; exact (h2.chg k (fun b hb _ => hW.nF b hb)).mono fun b hb => .inl hb
  obtain ⟨ts, hrd, hsum, hok, hkid⟩ := htg
  generalize (mget ms n).getD Sl.nil = st at hrd
  refine Lp.mk (fun (y : Sl × Int) w' => ∃ (k : Nat) (m' : List (ByteArray × Sl)) (xs : List TShare), y.2 = k ∧ k ≤ ts.length ∧ Chg (fun b => b = b23) w w' ∧ Own TShare.cells 2 32 w.heap.size w' y.1 xs ∧ ShD xs (sumS (shF l) (ts.take k)) ∧
      DoneI (fun b => Q b ∨ own? y.1 b) l b23 w' m' ∧ ∀ k, k ∈ mkeys m → k ∈ mkeys m') (fun y => ts.length - y.2.toNat)
    ⟨0, m, [], rfl, Nat.zero_le _, Chg.refl _ _, Own.nil_ _ _, ShD.nil, hD.weaken fun b _ hb => hb.elim id (fun ⟨a, ha, _⟩ => by cases ha), fun _ h => h⟩ ?_
  rintro ⟨z, _⟩ w1 K ⟨k, m1, xs, rfl, hk, hC, hO, hd1, hD1, hg1⟩ hK
  dsimp only at hO hD1 ⊢
  have hrd1 := hrd w1 hC
  by_cases hlt : k < ts.length
  · rw [if_pos (by rw [hrd1.len]; omega)]
    refine ⟨fun z w' => ∃ (m' : List (ByteArray × Sl)) (xs : List TShare), Chg (fun b => b = b23) w w' ∧ Own TShare.cells 2 32 w.heap.size w' z xs ∧ ShD xs (sumS (shF l) (ts.take (k + 1))) ∧
      DoneI (fun b => Q b ∨ own? z b) l b23 w' m' ∧ ∀ k, k ∈ mkeys m → k ∈ mkeys m', ?_, ?_⟩
    · have hok1 := hok (k + 1)
      rw [sumS_succ hlt] at hok1 ⊢
      refine rnp_idx sl45 hrd1 hlt rfl fun p _ hp => ?_
      refine rn_ldN (x := ts[k]) many84 hp rfl rfl ?_
      refine New.var (TTarget.cells ts[k]) sz84 rfl (oc_target _) rfl fun b10 w2 e2 h10 _ => ?_
      replace hC := hC.thenE e2; replace hO := hO.ext e2; replace hD1 := hD1.ext e2
      refine rn_blk (x := ts[k].Weight) one30 h10 rfl rfl ?_
      refine arith_run .quo _ rfl fun wv w3 hwv e3 _ => ?_
      replace hwv : Fl (wt ts[k]) wv := hwv
      replace hC := hC.thenE e3; replace hO := hO.ext e3; replace hD1 := hD1.ext e3; replace h10 := h10.ext e3
      refine rn_blk (x := ts[k].Service) one9 h10 rfl rfl ?_
      unfold partS at hok1 ⊢
      by_cases c : ts[k].Service = ⟨#[]⟩
      · rw [if_pos c] at hok1 ⊢
        refine iteF (by simpa using c) ?_
        have hW3 := hW.chg hC
        refine rn_blk (x := ofV b6 b3 b7) one154 hW3.hb7 rfl rfl ?_
        refine rn_blk (x := ts[k].Split) one9 h10 rfl rfl ?_
        refine ⟨99, #[], #[Ptr ⟨b6, 0, none⟩, Ptr ⟨b3, 0, none⟩, Ptr ⟨b7, 0, none⟩], rfl, fun vs w => enters Try.func99 rfl rfl vs w, ?_⟩
        have hkd := hkid _ (List.getElem_mem hlt) c
        refine Cal.mono (ih w3 (fun b => Q b ∨ own? z b) m1 ts[k].Split (by omega) (by omega) hW3 hD1 (fun b hb => ?_)) ?_
        · rcases hb with hb | hb
          · have := hQ b hb; have := hC.size; omega
          · exact (hO.ge hb).2
        rintro v w4 ⟨c4, ⟨vs, hv, hvd⟩, m4, hD4, _, hg4⟩
        have hO4 := hO.chg c4 (fun b hb => by have := (hO.ge hb).1; omega)
        have hC4 := hC.trans c4
        clear hD1 hO h10 hC
        have hvl := hvd.len
        refine Lp.mk (fun (y : Sl × Int) w' => ∃ (q : Nat) (xs : List TShare), y.2 = q ∧ q ≤ vs.length ∧ Chg (fun b => b = b23) w w' ∧ Own TShare.cells 2 32 w.heap.size w' y.1 xs ∧ ShD xs (mixS (wt ts[k]) (sumS (shF l) (ts.take k)) ((shF l ts[k].Split).take q)) ∧
            DoneI (fun b => Q b ∨ own? y.1 b) l b23 w' m4 ∧ Rd TShare.cells 2 (fun b => (b ≠ b23 ∧ ¬ (Q b ∨ own? y.1 b)) ∧ b < w'.heap.size) w' v vs) (fun y => vs.length - y.2.toNat)
          ⟨0, xs, rfl, Nat.zero_le _, hC4, hO4, hd1, hD4, hv⟩ ?_
        rintro ⟨y, _⟩ w5 K2 ⟨q, xs5, rfl, hq, hC5, hO5, hd5, hD5, hv5⟩ hK2
        dsimp only at hO5 hD5 hv5 ⊢
        by_cases hqv : q < vs.length
        · rw [if_pos (by rw [hv5.len]; omega)]
          have hqs : q < (shF l ts[k].Split).length := by omega
          have hel := hvd.el q hqv hqs
          refine rnp_idx sl23 hv5 hqv rfl fun p _ hp => ?_
          refine rn_ldN (x := vs[q]) many32 hp rfl rfl ?_
          refine New.var (TShare.cells vs[q]) sz32 rfl (oc_share _) rfl fun b13 w6 e6 h13 _ => ?_
          refine rn_blk (x := vs[q].Service) one9 h13 rfl rfl ?_
          refine rn_blk (x := vs[q].Upto) one30 h13 rfl rfl ?_
          refine rn_mul2 hwv hel.2 fun pv w7 hpv e7 _ => ?_
          have e := e6.trans e7
          have hb := OkS.len (OkS.mix (x := wt ts[k]) (zs := (shF l ts[k].Split).take q) (hok k) fun p hp => (sh_ok hS 9 ts[k].Split).has p (List.mem_of_mem_take hp))
          have gsz := hC5.size
          have gs := e.size
          refine Cal.mono (add_ok (n := vs[q].Service) (hO5.ext e) hd5 (by omega) hpv (by omega)) ?_
          rintro z' w8 ⟨c8, n8, xs8, hO8, hd8⟩
          rw [hv5.wr hqv]
          have own5 : ∀ b, own? y b → w.heap.size ≤ b ∧ b < w5.heap.size := fun b hb => hO5.ge hb
          have own8 : ∀ b, b < w7.heap.size → own? z' b → own? y b := fun b hb ho => by
            rcases n8 b ho with h | h
            · exact h
            · omega
          refine hK2 _ _ ⟨q + 1, xs8, rfl, hqv, (hC5.thenE e).then c8 (fun b hb ho => by have := (own5 b ho).1; omega), hO8, ?_, ?_, ?_⟩ (by dsimp only; omega)
          · rw [mixS_succ hqs]; rw [hel.1] at hd8; exact hd8
          · exact (hD5.ext e).chg c8 (fun ho => by have := (own5 _ ho).1; omega) (fun b _ ho => .inr ho) (fun b hb h => h.imp id (own8 b hb))
          · have c8s := c8.size
            exact ((hv5.ext e).chg c8 (fun b hb _ ho => hb.1.2 (.inr ho))).mono fun b hb => ⟨⟨hb.1.1, fun h => hb.1.2 (h.imp id (own8 b (by omega)))⟩, by omega⟩
        · rw [if_neg (by rw [hv5.len]; omega)]
          obtain rfl : q = vs.length := by omega
          rw [hvl, List.take_length] at hd5
          exact ⟨m4, xs5, hC5, hO5, hd5, hD5, fun k hk => hg4 k (hg1 k hk)⟩
      · rw [if_neg c] at hok1 ⊢
        refine iteT (by simpa using c) ?_
        refine rn_blk (x := ts[k].Service) one9 h10 rfl rfl ?_
        have hb := (hok k).len
        have gsz := hC.size
        refine Cal.mono (add_ok (n := ts[k].Service) hO hd1 (by omega) hwv (by omega)) ?_
        rintro z' w8 ⟨c8, n8, xs8, hO8, hd8⟩
        have own3 : ∀ b, own? z b → w.heap.size ≤ b ∧ b < w3.heap.size := fun b hb => hO.ge hb
        have own8 : ∀ b, b < w3.heap.size → own? z' b → own? z b := fun b hb ho => by
          rcases n8 b ho with h | h
          · exact h
          · omega
        exact ⟨m1, xs8, hC.then c8 (fun b hb ho => by have := (own3 b ho).1; omega), hO8, hd8, hD1.chg c8 (fun ho => by have := (own3 _ ho).1; omega) (fun b _ ho => .inr ho) (fun b hb h => h.imp id (own8 b hb)), hg1⟩
    · rintro z' w2 ⟨m2, xs2, hC2, hO2, hd2, hD2, hg2⟩
      rw [hrd1.wr hlt]
      exact hK _ _ ⟨k + 1, m2, xs2, rfl, hlt, hC2, hO2, hd2, hD2, hg2⟩ (by dsimp only; omega)
  · rw [if_neg (by rw [hrd1.len]; omega)]
    obtain rfl : k = ts.length := by omega
    rw [List.take_length, hsum] at hd1
    have hW1 := hW.chg hC
    refine rn_blk (x := some b23) one97 hW1.hb6 rfl rfl ?_
    refine rnu_put (k := n) (v := z) mapT97 hD1.mp fun w2 c2 hm2 s2 => ?_
    have hz : Rd TShare.cells 2 (fun b => (b ≠ b23 ∧ ¬ Q b) ∧ b < w2.heap.size) w2 z xs := ((hO.rd (F := fun b => own? z b) (fun b hb => hb)).chg c2 (fun b hb _ => by have := (hO.ge hb).1; omega)).mono fun b hb => by
      have h1 := hO.ge hb
      exact ⟨⟨by omega, fun hq => by have := hQ b hq; omega⟩, by omega⟩
    refine ⟨hC.trans c2, ⟨xs, hz, hd1⟩, mput m1 n z, ⟨hm2, fun n' v hv => ?_⟩, mem_mkeys_put.2 (.inl rfl), fun k hk => mem_mkeys_put.2 (.inr (hg1 k hk))⟩
    rw [mget_put] at hv
    by_cases e : n = n'
    · rw [if_pos e] at hv; cases hv; subst e; exact ⟨xs, hz, hd1⟩
    · rw [if_neg e] at hv
      obtain ⟨ys, r, d⟩ := hD1.el n' v hv
      exact ⟨ys, (r.chg c2 (fun b hb _ => hb.1.1)).mono fun b hb => ⟨⟨hb.1.1, fun hq => hb.1.2 (.inl hq)⟩, by omega⟩, d⟩
end
end Go.Proofs.Ytdoeegfcmbcbkaa.Ct


namespace Go.Proofs.Ytdoeegfcmbcbkaa.Ct
open Go Go.Eng Tr
set_option linter.unusedVariables false
set_option maxRecDepth 100000

section
variable {w : World} {F : Nat → Prop} {s : Sl} {rs : List TResource} {l : List DRes}
structure Fine (l : List DRes) : Prop where
  ord : ∀ i, i < l.length → outAt l i = false
  few : l.length ≤ 64
  stand : Stand l
  kids : ∀ n d t, splitOf l n = some d → t ∈ kidsOf d → (splitOf l t).isSome = true
  deep : ∀ n d, splitOf l n = some d → hd l 8 n ≤ 8
theorem fault_err (h : (faultM l).Err = 0) : Fine l := by
  by_cases c1 : 0 ≤ fst? (outAt l) l.length
  · rw [fs_out c1] at h; cases h
  by_cases c2 : 64 < l.length
  · rw [fs_big c1 c2] at h; cases h
  have key : ∀ p : Nat → Bool, (∀ k, k < l.length → p k = true → (∀ j, j < k → p j = false) → False) → ∀ j, j < l.length → p j = false := fun p hp => by
    intro j
    induction j using Nat.strongRecOn with
    | ind j ih =>
      intro hj
      cases c : p j with
      | false => rfl
      | true => exact (hp j hj c fun i hi => ih i hi (by omega)).elim
  have hd1 := key (dangAt l) fun k hk hp ha => by rw [fs_dang c1 c2 hk hp ha] at h; cases h
  have hd2 := key (twinAt l) fun k hk hp ha => by rw [fs_twin c1 c2 hd1 hk hp ha] at h; cases h
  have hd3 := key (heavyAt l) fun k hk hp ha => by rw [fs_heavy c1 c2 hd1 hd2 hk hp ha] at h; cases h
  have hd4 := key (deepAt l) fun k hk hp ha => by rw [fs_deep c1 c2 hd1 hd2 hd3 hk hp ha] at h; cases h
  refine ⟨fst?_neg (by omega), by omega, stand_of hd1, fun n d t hs ht => has_split (no_dang hd1 n d t hs ht), fun n d hs => ?_⟩
  obtain ⟨h1, h2, h3⟩ := splitOf_mem hs
  obtain ⟨i, hi, rfl⟩ := List.mem_iff_getElem.1 h1
  have := hd4 i hi
  rw [deepAt_eq hi] at this
  simp only [h2, decide_true, Bool.true_and, decide_eq_false_iff_not] at this
  rw [h3] at this; omega
theorem split_at (h : ConfD F w s rs l) (hf : ∀ i, i < l.length → outAt l i = false) {n : ByteArray} {d : DRes} (hs : splitOf l n = some d) : ∃ (i : Nat) (hi : i < rs.length) (hi' : i < l.length), l[i] = d ∧ rs[i].Kind = 2 ∧ rs[i].Name = n := by
  obtain ⟨h1, h2, h3⟩ := splitOf_mem hs
  obtain ⟨i, hi, rfl⟩ := List.mem_iff_getElem.1 h1
  have hi' : i < rs.length := by rw [h.len]; exact hi
  have hr := h.el i hi' hi
  exact ⟨i, hi', hi, rfl, by rw [hr.kind, h2], by rw [hr.name, h3]⟩
theorem split_of (h : ConfD F w s rs l) (hf : ∀ i, i < l.length → outAt l i = false) {i : Nat} (hi : i < rs.length) (hk : rs[i].Kind = 2) : ∃ hi' : i < l.length, splitOf l rs[i].Name = some l[i] := by
  have hi' : i < l.length := by rw [← h.len]; exact hi
  have hr := h.el i hi hi'
  exact ⟨hi', by rw [hr.name]; exact splitOf_self hf _ (List.getElem_mem hi') (by rw [← hr.kind]; exact hk)⟩
def errS (l : List DRes) (n : ByteArray) : Int := if (faultM l).Err ≠ 0 then (faultM l).Err else if (splitOf l n).isSome = true then 0 else 2
def ansS (l : List DRes) (n : ByteArray) : List SH := if (faultM l).Err = 0 ∧ (splitOf l n).isSome = true then shF l n else []
theorem allMap_ok (h : ConfD F w s rs l) (hf : Fine l) : Cal PP Value.map 57 #[s.v] w fun v w' => Ext w w' ∧ ∃ b m, v = some b ∧ w.heap.size ≤ b ∧ DoneI (fun b => b < w.heap.size) l b w' m ∧ ∀ n, (splitOf l n).isSome = true → n ∈ mkeys m := by
  refine c57 ?_
  unfold f57
  have hrl : rs.length ≤ 64 := by rw [h.len]; exact hf.few
  refine NewM.mk fun b9 w1 e1 h9 n9 s9 => ?_
  replace h9 : Mp Value.string Sl.v w1 b9 ([] : List (ByteArray × Sl)) := Mp.new h9
  refine New.var [.map (some b9)] sz153 rfl (by simp [Value.oneCell']) rfl fun b3 w2 e2 h3 nb3 => ?_
  replace h9 := h9.ext e2
  have E2 := e1.trans e2
  refine (named_ok (h.rd.ext E2) 2 (by omega)).mono ?_
  rintro t11 w3 ⟨e3, hO3⟩
  have hT := hO3.rd (F := fun b => w2.heap.size ≤ b ∧ b < w3.heap.size) (fun b hb => hO3.ge hb)
  have hTl : (ofKind 2 rs).length ≤ rs.length := ofKind_len 2 rs
  have hmem : ∀ r ∈ ofKind 2 rs, ∃ (i : Nat) (hi : i < rs.length), rs[i] = r ∧ rs[i].Kind = 2 := fun r hr => by
    obtain ⟨hr, hk⟩ := List.mem_filter.1 hr
    obtain ⟨i, hi, rfl⟩ := List.mem_iff_getElem.1 hr
    exact ⟨i, hi, rfl, by simpa using hk⟩
  generalize hts : ofKind 2 rs = ts at hT hTl hmem
  clear hO3
  have E3 := E2.trans e3
  have g3 := e3.size; have g2 := e2.size
  refine Lp.mk (fun (i : Int) w' => ∃ (k : Nat) (ms : List (ByteArray × Sl)), i = k ∧ k ≤ ts.length ∧ Ext w w' ∧ Ext w1 w1 ∧ w3.heap.size ≤ w'.heap.size ∧ Rd TResource.cells 8 (fun b => w2.heap.size ≤ b ∧ b < w3.heap.size) w' t11 ts ∧ Blk w' b3 153 [.map (some b9)] ∧ Mp Value.string Sl.v w' b9 ms ∧
      (∀ n t, mget ms n = some t → ∃ r ∈ ts, r.Name = n ∧ r.Targets = t) ∧ ∀ r ∈ ts.take k, r.Name ∈ mkeys ms) (fun i => ts.length - i.toNat)
    ⟨0, [], rfl, Nat.zero_le _, E3, Ext.refl _, Nat.le_refl _, hT, h3.ext e3, h9.ext e3, (fun n t ht => by cases ht), (fun r hr => by simp at hr)⟩ ?_
  clear hT h3 h9 E3 E2
  rintro i w4 K ⟨k, ms, rfl, hk, hE, _, g4, hT, h3, h9, hA, hB⟩ hK
  by_cases hlt : k < ts.length
  · rw [if_pos (by rw [hT.len]; omega)]
    refine rnp_idx sl22 hT hlt rfl fun p _ hp => ?_
    refine rn_ldN (x := ts[k]) many48 hp rfl rfl ?_
    refine New.var (TResource.cells ts[k]) sz48 rfl (oc_res _) rfl fun b5 w5 e5 h5 _ => ?_
    refine rn_blk (x := some b9) one153 (h3.ext e5) rfl rfl ?_
    refine rn_blk (x := ts[k].Name) one9 h5 rfl rfl ?_
    refine rn_blk (x := ts[k].Targets) one45 h5 rfl rfl ?_
    refine rnu_put (k := ts[k].Name) (v := ts[k].Targets) mapT153 (h9.ext e5) fun w6 c6 h9' s6 => ?_
    rw [hT.wr hlt]
    have g5 := e5.size
    have h9lt := h9.lt
    refine hK _ _ ⟨k + 1, _, rfl, hlt, (hE.trans e5).then c6 (fun b hb => by omega), Ext.refl _, by omega, (hT.ext e5).chg c6 (fun b hb _ => by omega), (h3.ext e5).chg c6 (by omega), h9', fun n t ht => ?_, fun r hr => ?_⟩ (by omega)
    · rw [mget_put] at ht
      by_cases e : ts[k].Name = n
      · rw [if_pos e] at ht; cases ht; exact ⟨ts[k], List.getElem_mem hlt, e, rfl⟩
      · rw [if_neg e] at ht; exact hA n t ht
    · rw [List.take_add_one, List.getElem?_eq_getElem hlt] at hr
      rcases List.mem_append.1 hr with hr | hr
      · exact mem_mkeys_put.2 (.inr (hB r hr))
      · simp at hr; subst hr; exact mem_mkeys_put.2 (.inl rfl)
  rw [if_neg (by rw [hT.len]; omega)]
  obtain rfl : k = ts.length := by omega
  rw [List.take_length] at hB
  clear hK
  refine NewM.mk fun b23 w5 e5 h23 n23 s23 => ?_
  replace h23 : Mp Value.string Sl.v w5 b23 ([] : List (ByteArray × Sl)) := Mp.new h23
  refine New.var [.map (some b23)] sz97 rfl (by simp [Value.oneCell']) rfl fun b6 w6 e6 h6 nb6 => ?_
  refine New.mk fun b7 w7 e7 h7 n7 s7 => ?_
  refine rnu_st (b := b7) (o := 0) rfl h7 [ofV b6 b3 b7] sz154 rfl (by simp [Value.oneCell', ofV]) (by simp) fun w8 c8 s8 h7 => ?_
  replace h7 : Blk w8 b7 154 [ofV b6 b3 b7] := h7
  have E5 : Ext w4 w6 := e5.trans e6
  have g6 := e6.size; have g7 := e7.size; have g5 := e5.size
  have E8 : Ext w4 w8 := (E5.trans e7).then c8 (fun b hb => by omega)
  have E8' : Ext w6 w8 := e7.then c8 (fun b hb => by omega)
  have h3lt := h3.lt; have h9lt := h9.lt; have h6lt := h6.lt; have h7lt := h7.lt
  have hdet : ∀ n t, mget ms n = some t → ∃ (i : Nat) (hi : i < rs.length) (hi' : i < l.length), rs[i].Targets = t ∧ splitOf l n = some l[i] := fun n t ht => by
    obtain ⟨r, hr, h1, h2⟩ := hA n t ht
    obtain ⟨i, hi, rfl, hk⟩ := hmem r hr
    obtain ⟨hi', hs⟩ := split_of h hf.ord hi hk
    exact ⟨i, hi, hi', h2, by rw [← h1]; exact hs⟩
  have hkeys : ∀ n d, splitOf l n = some d → n ∈ mkeys ms := fun n d hs => by
    obtain ⟨i, hi, _, _, hk, hn⟩ := split_at h hf.ord hs
    rw [← hn]
    exact hB _ (by rw [← hts]; exact List.mem_filter.2 ⟨List.getElem_mem hi, by simpa using hk⟩)
  have hW : AllW (fun b => F b ∧ b < w.heap.size) l b3 b6 b7 b9 b23 ms w8 := by
    have glow := hE.size
    refine ⟨h3.ext E8, h6.ext E8', h7, h9.ext E8, fun n d hs => ?_, fun n hs => ?_, ⟨by omega, by omega, by omega, by omega⟩, fun b hb => by have := hb.2; omega⟩
    · cases hg : mget ms n with
      | none => exact absurd (hkeys n d hs) (mget_none.1 hg)
      | some t =>
        obtain ⟨i, hi, hi', ht, hs'⟩ := hdet n t hg
        rw [hs] at hs'; cases hs'
        refine ⟨t, rfl, ?_⟩
        rw [← ht]
        exact ((h.low).el i hi hi').targets.ext (hE.trans E8)
    · cases hg : mget ms n with
      | none => rfl
      | some t => obtain ⟨i, hi, hi', ht, hs'⟩ := hdet n t hg; rw [hs] at hs'; cases hs'
  have hD : DoneI (fun _ => False) l b23 w8 [] := ⟨(h23.ext e6).ext E8', fun n v hv => by cases hv⟩
  refine rn_blk (x := some b9) one153 hW.hb3 rfl rfl ?_
  refine rn_range mapT153 hW.hms fun r w9 e9 hr9 hR => ?_
  have hb23 := hD.mp.lt
  have hW9 := hW.chg (e9.chg _)
  have glow := hE.size
  have g8 := E8.size
  have hE9 : Ext w w9 := (hE.trans E8).trans e9
  have hr23 : r ≠ b23 := by omega
  have hD9 : DoneI (fun b => b = r ∨ b < w.heap.size) l b23 w9 [] := ⟨(hD.ext e9).mp, fun n v hv => by cases hv⟩
  refine ⟨fun (_ : Unit) w' => ∃ (left : List (ByteArray × Sl)) (m : List (ByteArray × Sl)), Ext w w' ∧ r < w'.heap.size ∧ Rg Value.string Sl.v w' r b9 left ∧ AllW (fun b => F b ∧ b < w.heap.size) l b3 b6 b7 b9 b23 ms w' ∧ DoneI (fun b => b = r ∨ b < w.heap.size) l b23 w' m ∧
      (∀ x ∈ left, x ∈ ms) ∧ (∀ n ∈ mkeys ms, n ∈ mkeys left ∨ n ∈ mkeys m), fun _ w' => rgLeft w' r b9,
    ⟨ms, [], hE9, by have := hR.lt; omega, hR, hW9, hD9, fun x hx => hx, fun n hn => .inl hn⟩, ?_⟩
  rintro _ w10 ⟨left, m, hE10, hrl, hR10, hW10, hD10, hin, hall⟩
  have hlow : w.heap.size ≤ r := by omega
  refine rn_next hR10 (fun h0 => ?_) fun j n t w11 hj c11 s11 hR11 hent => ?_
  · refine rnp_extract (x := false) rfl ?_
    refine iteF (by simp) ?_
    refine rn_blk (x := some b23) one97 hW10.hb6 rfl rfl ?_
    refine ⟨hE10, b23, m, rfl, by omega, hD10.weaken (fun _ _ h => .inr h), fun n hn => ?_⟩
    obtain ⟨d, hs⟩ := Option.isSome_iff_exists.1 hn
    rcases hall n (hkeys n d hs) with h | h
    · rw [h0] at h; cases h
    · exact h
  · refine rnp_extract (x := true) rfl ?_
    refine iteT rfl ?_
    refine ⟨_, w11, hent, ?_⟩
    refine rnp_extract (x := n) rfl ?_
    have hW11 := hW10.chgR c11 (by omega) (by omega) (by omega) (by omega) (fun b hb he => by have := hb.2; omega)
    refine rn_blk (x := ofV b6 b3 b7) one154 hW11.hb7 rfl rfl ?_
    refine ⟨99, #[], #[Ptr ⟨b6, 0, none⟩, Ptr ⟨b3, 0, none⟩, Ptr ⟨b7, 0, none⟩], rfl, fun vs w => enters Try.func99 rfl rfl vs w, ?_⟩
    have hD11 : DoneI (fun b => b = r ∨ b < w.heap.size) l b23 w11 m := hD10.chg c11 (fun h => hr23 h.symm) (fun b _ h => .inl h) (fun b _ h => h)
    have hnm : (n, t) ∈ ms := hin _ (List.mem_of_getElem? hj)
    have hnt : mget ms n = some t := mget_of_mem hW11.hms.keys hnm
    obtain ⟨i, hi, hi', _, hs⟩ := hdet n t hnt
    have h8 := hf.deep n _ hs
    refine Cal.mono (of_shares hf.stand hf.few 8 w11 (fun b => b = r ∨ b < w.heap.size) m n h8 h8 hW11 hD11 (fun b hb => by have := hE10.size; have := c11.size; rcases hb with hb | hb <;> omega)) ?_
    rintro v w12 ⟨c12, _, m', hD12, hn', hg⟩
    have hR12 : Rg Value.string Sl.v w12 r b9 (left.eraseIdx j) := hR11.chg c12 hr23 (by have := hW11.ne.2.2.2; exact this)
    refine ⟨⟨left.eraseIdx j, m', (hE10.then c11 (fun b hb => by omega)).then c12 (fun b hb => by omega), by have := c12.size; omega, hR12, hW11.chg c12, hD12, fun x hx => hin x (List.mem_of_mem_eraseIdx hx), fun n2 hn2 => ?_⟩, ?_⟩
    · rcases hall n2 hn2 with h | h
      · obtain ⟨x, hx, rfl⟩ := List.mem_map.1 h
        obtain ⟨q, hq, rfl⟩ := List.mem_iff_getElem.1 hx
        obtain ⟨hjl, hje⟩ := List.getElem?_eq_some_iff.1 hj
        by_cases e : q = j
        · subst e; rw [hje]; exact .inr hn'
        · left
          refine List.mem_map.2 ⟨left[q], ?_, rfl⟩
          rw [List.mem_eraseIdx_iff_getElem]
          exact ⟨q, hq, e, rfl⟩
      · exact .inr (hg n2 h)
    · show rgLeft w12 r b9 < rgLeft w10 r b9
      rw [hR12.left, hR10.left, List.length_eraseIdx]
      have hjl := (List.getElem?_eq_some_iff.1 hj).1
      rw [if_pos hjl]; omega
end
end Go.Proofs.Ytdoeegfcmbcbkaa.Ct


namespace Go.Proofs.Ytdoeegfcmbcbkaa.Ct
open Go Go.Eng Tr
set_option linter.unusedVariables false
set_option maxRecDepth 100000

def sls (x : Sl) : List Value := [Sl.v x]
theorem oc_sls (x : Sl) : ∀ u ∈ sls x, u.oneCell' = true := by simp [sls, Value.oneCell', Sl.v]
structure KnR (l : List DRes) (b9 : Nat) (w : World) (sn sq : Sl) (ns : List ByteArray) (qs : List Sl) : Prop where
  hb9 : Blk w b9 109 (TKnown15.cells ⟨sn, sq⟩)
  hns : Rd bs 1 (fun _ => True) w sn ns
  hqs : Rd sls 1 (fun _ => True) w sq qs
  len : ns.length = qs.length
  el : ∀ i (h : i < ns.length) (h' : i < qs.length), ∃ xs, Rd TShare.cells 2 (fun _ => True) w qs[i] xs ∧ ShD xs (shF l ns[i])
section
variable {w w' : World} {F : Nat → Prop} {s sn sq : Sl} {rs : List TResource} {l : List DRes} {b9 : Nat} {ns : List ByteArray} {qs : List Sl}
theorem KnR.ext (h : KnR l b9 w sn sq ns qs) (k : Ext w w') : KnR l b9 w' sn sq ns qs := ⟨h.hb9.ext k, h.hns.ext k, h.hqs.ext k, h.len, fun i a b => let ⟨xs, r, d⟩ := h.el i a b; ⟨xs, r.ext k, d⟩⟩
def atN (ns : List ByteArray) (n : ByteArray) (i : Nat) : Bool := match ns[i]? with
  | some x => decide (x = n)
  | none => false
theorem atN_eq {n : ByteArray} {i : Nat} (h : i < ns.length) : atN ns n i = decide (ns[i] = n) := by simp [atN, h]
theorem at_ok (h : KnR l b9 w sn sq ns qs) (n : ByteArray) : Cal PP (Value.int .i64) 60 #[.pointer (some ⟨b9, 0, none⟩), .string n] w fun x w' => w' = w ∧ x = fst? (atN ns n) ns.length := by
  refine c60 ?_
  unfold f60
  refine Lp.mk (fun (i : Int) w' => ∃ k : Nat, i = k ∧ k ≤ ns.length ∧ w' = w ∧ ∀ j, j < k → atN ns n j = false) (fun i => ns.length - i.toNat) ⟨0, rfl, Nat.zero_le _, rfl, fun j hj => absurd hj (Nat.not_lt_zero _)⟩ ?_
  rintro i _ K ⟨k, rfl, hk, rfl, hall⟩ hK
  refine ⟨_, rfl, ?_⟩
  refine rn_blk (x := sn) one44 h.hb9 rfl rfl ?_
  by_cases hlt : k < ns.length
  · refine iteT (by rw [h.hns.len]; omega) ?_
    refine ⟨_, rfl, ?_⟩
    refine rn_blk (x := sn) one44 h.hb9 rfl rfl ?_
    refine rnp_idx sl44 h.hns hlt rfl fun p _ hp => ?_
    refine rn_at0 one9 hp ?_
    have ha := atN_eq (n := n) hlt
    by_cases c : ns[k] = n
    · exact iteT c ⟨rfl, (fst?_some hlt (by rw [ha]; simpa using c) hall).symm⟩
    · refine iteF c ?_
      rw [h.hns.wr hlt]
      exact hK _ _ ⟨k + 1, rfl, hlt, rfl, all_succ hall (by rw [ha]; simpa using c)⟩ (by omega)
  · refine iteF (by rw [h.hns.len]; omega) ⟨rfl, (fst?_none fun j hj => hall j (by omega)).symm⟩
theorem atN_cases (ns : List ByteArray) (n : ByteArray) : (fst? (atN ns n) ns.length = -1 ∧ n ∉ ns) ∨ ∃ (k : Nat) (hk : k < ns.length), fst? (atN ns n) ns.length = k ∧ ns[k] = n := by
  rcases fst?_le (p := atN ns n) (n := ns.length) with h | ⟨k, h, hk, hp⟩
  · refine .inl ⟨h, fun hm => ?_⟩
    obtain ⟨i, hi, rfl⟩ := List.mem_iff_getElem.1 hm
    have := fst?_neg (by omega : fst? (atN ns ns[i]) ns.length < 0) i hi
    rw [atN_eq hi] at this; simp at this
  · exact .inr ⟨k, hk, h, by rw [atN_eq hk] at hp; simpa using hp⟩
theorem one_ok (hk : KnR l b9 w sn sq ns qs) {r : TResource} {d : DRes} (hr : ResD F w r d) (hok : ∀ k, OkS l (sumS (shF l) (d.targets.take k))) (hS : Stand l) (hlen : l.length ≤ 64) :
    Cal PP (fun x : Sl × Bool => Value.tuple #[Sl.v x.1, .bool x.2]) 104 #[.pointer (some ⟨b9, 0, none⟩), r.v] w fun x w' => Ext w w' ∧ (x.2 = true → ∃ xs, Own TShare.cells 2 32 w.heap.size w' x.1 xs ∧ ShD xs (sumS (shF l) d.targets)) ∧ ((∀ c ∈ kidsOf d, c ∈ ns) → x.2 = true) := by
  refine c104 ?_
  unfold f104
  have ht0 := hr.targets
  generalize hts : d.targets = ts at ht0 hok
  refine New.mk fun b3 w1 e1 h3 n3 s3 => ?_
  refine Lp.mk (fun (y : Sl × Int) w' => ∃ (k : Nat) (xs : List TShare), y.2 = k ∧ k ≤ ts.length ∧ Ext w w' ∧ Own TShare.cells 2 32 w.heap.size w' y.1 xs ∧ (∀ b, own? y.1 b → b ≠ b3) ∧ ShD xs (sumS (shF l) (ts.take k)) ∧ Blk w' b3 48 (TResource.cells r)) (fun y => ts.length - y.2.toNat)
    ⟨0, [], rfl, Nat.zero_le _, e1, Own.nil_ _ _, (fun b ⟨a, ha, _⟩ => by cases ha), ShD.nil, h3⟩ ?_
  rintro ⟨z, _⟩ w2 K ⟨k, xs, rfl, hkl, hE, hO, hne, hd, h3⟩ hK
  dsimp only at hO hne ⊢
  have ht := ht0.ext hE
  refine rn_blk (x := r.Targets) one45 h3 rfl rfl ?_
  by_cases hlt : k < ts.length
  · refine iteT (by rw [ht.len]; omega) ?_
    refine ⟨fun z w' => ∃ xs, Ext w w' ∧ Own TShare.cells 2 32 w.heap.size w' z xs ∧ (∀ b, own? z b → b ≠ b3) ∧ ShD xs (sumS (shF l) (ts.take (k + 1))) ∧ Blk w' b3 48 (TResource.cells r), ?_, ?_⟩
    · have hok1 := hok (k + 1)
      rw [sumS_succ hlt] at hok1 ⊢
      refine rn_blk (x := r.Targets) one45 h3 rfl rfl ?_
      refine rnp_idx sl45 ht hlt rfl fun p _ hp => ?_
      refine rn_at (x := ts[k].Weight) one30 hp rfl ?_
      refine arith_run .quo _ rfl fun wv w3 hwv e3 _ => ?_
      replace hwv : Fl (wt ts[k]) wv := hwv
      replace hE := hE.trans e3; replace hO := hO.ext e3; replace h3 := h3.ext e3
      replace ht := ht0.ext hE
      refine rn_blk (x := r.Targets) one45 h3 rfl rfl ?_
      refine rnp_idx sl45 ht hlt rfl fun p _ hp => ?_
      refine rn_at (x := ts[k].Service) one9 hp rfl ?_
      have g3 := h3.lt
      have gE := hE.size
      unfold partS at hok1 ⊢
      by_cases c : ts[k].Service = ⟨#[]⟩
      · rw [if_pos c] at hok1 ⊢
        refine iteF (by simpa using c) ?_
        refine rn_blk (x := r.Targets) one45 h3 rfl rfl ?_
        refine rnp_idx sl45 ht hlt rfl fun p _ hp => ?_
        refine rn_at (x := ts[k].Split) one9 hp rfl ?_
        refine (at_ok (hk.ext hE) ts[k].Split).mono ?_
        rintro _ w4 ⟨rfl, rfl⟩
        rcases atN_cases ns ts[k].Split with ⟨hx, hno⟩ | ⟨i, hi, hx, hni⟩
        · rw [hx]
          refine iteT (by decide) ⟨hE, (fun h => by cases h), fun h => ?_⟩
          refine absurd (h _ ?_) hno
          unfold kidsOf; rw [hts]
          exact List.mem_map.2 ⟨ts[k], List.mem_filter.2 ⟨List.getElem_mem hlt, by simpa using c⟩, rfl⟩
        · rw [hx]
          refine iteF (by omega) ?_
          have hiq : i < qs.length := by rw [← hk.len]; exact hi
          obtain ⟨vs, hv, hvd⟩ := hk.el i hi hiq
          rw [hni] at hvd
          have hvl := hvd.len
          refine Lp.mk (fun (y : Sl × Int) w' => ∃ (q : Nat) (xs : List TShare), y.2 = q ∧ q ≤ vs.length ∧ Ext w w' ∧ Own TShare.cells 2 32 w.heap.size w' y.1 xs ∧ (∀ b, own? y.1 b → b ≠ b3) ∧ ShD xs (mixS (wt ts[k]) (sumS (shF l) (ts.take k)) ((shF l ts[k].Split).take q)) ∧ Blk w' b3 48 (TResource.cells r)) (fun y => vs.length - y.2.toNat)
            ⟨0, xs, rfl, Nat.zero_le _, hE, hO, hne, hd, h3⟩ ?_
          clear hE hO hne hd h3 ht g3 gE
          rintro ⟨y, _⟩ w5 K2 ⟨q, xs5, rfl, hq, hE, hO, hne, hd, h3⟩ hK2
          dsimp only at hO hne ⊢
          have hk5 := hk.ext hE
          have hv5 := hv.ext hE
          have rdq : ∀ {K : Sl → World → Prop}, K qs[i] w5 → NotNil (some ⟨b9, 0, none⟩) fun t54 => Rn PP Sl.v (Instr.loadAt 107 (Ptr (t54.add 1))) w5 fun t56 w => RnP PP Ptr (Instr.indexAt 107 (Sl.v t56) (.int .i64 (i : Int))) fun t58 => Rn PP Sl.v (Instr.loadAt 23 (Ptr t58)) w K := fun hKK => by
            refine ⟨_, rfl, ?_⟩
            refine rn_blk (x := sq) one107 hk5.hb9 rfl rfl ?_
            refine rnp_idx sl107 hk5.hqs hiq rfl fun p _ hp => ?_
            exact rn_at0 one23 hp hKK
          refine rdq ?_
          by_cases hqv : q < vs.length
          · refine iteT (by rw [hv5.len]; omega) ?_
            have hqs : q < (shF l ts[k].Split).length := by omega
            have hel := hvd.el q hqv hqs
            refine rdq ?_
            refine rnp_idx sl23 hv5 hqv rfl fun p _ hp => ?_
            refine rn_at (x := vs[q].Upto) one30 hp rfl ?_
            refine rn_mul2 hwv hel.2 fun pv w6 hpv e6 _ => ?_
            have hk6 := hk5.ext e6
            refine ⟨_, rfl, ?_⟩
            refine rn_blk (x := sq) one107 hk6.hb9 rfl rfl ?_
            refine rnp_idx sl107 hk6.hqs hiq rfl fun p _ hp => ?_
            refine rn_at0 one23 hp ?_
            refine rnp_idx sl23 (hv5.ext e6) hqv rfl fun p _ hp => ?_
            refine rn_at (x := vs[q].Service) one9 hp rfl ?_
            have hb := OkS.len (OkS.mix (x := wt ts[k]) (zs := (shF l ts[k].Split).take q) (hok k) fun p hp => (sh_ok hS 9 ts[k].Split).has p (List.mem_of_mem_take hp))
            have gsz := hE.size
            have gs := e6.size
            have g3 := h3.lt
            refine Cal.mono (refAdd_ok (n := vs[q].Service) (hO.ext e6) hd (by omega) hpv (by omega)) ?_
            rintro z' w8 ⟨c8, n8, xs8, hO8, hd8⟩
            rw [hv5.wr hqv]
            have own5 : ∀ b, own? y b → w.heap.size ≤ b ∧ b < w5.heap.size := fun b hb => hO.ge hb
            refine hK2 _ _ ⟨q + 1, xs8, rfl, hqv, (hE.trans e6).then c8 (fun b hb => (own5 b hb).1), hO8, fun b hb => ?_, ?_, (h3.ext e6).chg c8 (fun ho => hne _ ho rfl)⟩ (by dsimp only; omega)
            · rcases n8 b hb with h | h
              · exact hne b h
              · omega
            · rw [mixS_succ hqs]; rw [hel.1] at hd8; exact hd8
          · refine iteF (by rw [hv5.len]; omega) ?_
            obtain rfl : q = vs.length := by omega
            rw [hvl, List.take_length] at hd
            exact ⟨xs5, hE, hO, hne, hd, h3⟩
      · rw [if_neg c] at hok1 ⊢
        refine iteT (by simpa using c) ?_
        refine rn_blk (x := r.Targets) one45 h3 rfl rfl ?_
        refine rnp_idx sl45 ht hlt rfl fun p _ hp => ?_
        refine rn_at (x := ts[k].Service) one9 hp rfl ?_
        have hb := (hok k).len
        refine Cal.mono (refAdd_ok (n := ts[k].Service) hO hd (by omega) hwv (by omega)) ?_
        rintro z' w8 ⟨c8, n8, xs8, hO8, hd8⟩
        refine ⟨xs8, hE.then c8 (fun b hb => (hO.ge hb).1), hO8, fun b hb => ?_, hd8, h3.chg c8 (fun ho => hne _ ho rfl)⟩
        · rcases n8 b hb with h | h
          · exact hne b h
          · omega
    · rintro z' w4 ⟨xs4, hE, hO, hne, hd, h3⟩
      rw [ht.wr hlt]
      exact hK _ _ ⟨k + 1, xs4, rfl, hlt, hE, hO, hne, hd, h3⟩ (by dsimp only; omega)
  · refine iteF (by rw [ht.len]; omega) ?_
    obtain rfl : k = ts.length := by omega
    rw [List.take_length] at hd
    exact ⟨hE, fun _ => ⟨xs, hO, hd⟩, fun _ => rfl⟩
end
end Go.Proofs.Ytdoeegfcmbcbkaa.Ct


namespace Go.Proofs.Ytdoeegfcmbcbkaa.Ct
open Go Go.Eng Tr
set_option linter.unusedVariables false
set_option maxRecDepth 100000

structure KnO (l : List DRes) (B b9 : Nat) (w : World) (sn sq : Sl) (ns : List ByteArray) (qs : List Sl) : Prop where
  hb9 : Blk w b9 109 (TKnown15.cells ⟨sn, sq⟩)
  low : B ≤ b9
  on : Own bs 1 9 B w sn ns
  oq : Own sls 1 23 B w sq qs
  n9 : ∀ b, own? sn b → b ≠ b9
  q9 : ∀ b, own? sq b → b ≠ b9
  nq : ∀ b, own? sn b → ¬ own? sq b
  len : ns.length = qs.length
  el : ∀ i (h : i < ns.length) (h' : i < qs.length), ∃ xs, Rd TShare.cells 2 (fun b => (b ≠ b9 ∧ ¬ own? sn b ∧ ¬ own? sq b) ∧ b < w.heap.size) w qs[i] xs ∧ ShD xs (shF l ns[i])
  nd : ns.Nodup
  sub : ∀ n ∈ ns, (splitOf l n).isSome = true
section
variable {w w' : World} {F : Nat → Prop} {s sn sq : Sl} {rs : List TResource} {l : List DRes} {B b9 : Nat} {ns : List ByteArray} {qs : List Sl}
theorem KnO.ext (h : KnO l B b9 w sn sq ns qs) (k : Ext w w') : KnO l B b9 w' sn sq ns qs :=
  ⟨h.hb9.ext k, h.low, h.on.ext k, h.oq.ext k, h.n9, h.q9, h.nq, h.len, fun i a b => let ⟨xs, r, d⟩ := h.el i a b; ⟨xs, (r.ext k).mono fun b hb => ⟨hb.1, by have := k.size; omega⟩, d⟩, h.nd, h.sub⟩
theorem KnO.r (h : KnO l B b9 w sn sq ns qs) : KnR l b9 w sn sq ns qs :=
  ⟨h.hb9, h.on.rd (fun _ _ => trivial), h.oq.rd (fun _ _ => trivial), h.len, fun i a b => let ⟨xs, r, d⟩ := h.el i a b; ⟨xs, r.mono fun _ _ => trivial, d⟩⟩
theorem KnO.few (h : KnO l B b9 w sn sq ns qs) : ns.length ≤ l.length := by
  have := sub_len (ys := l.map (·.name)) h.nd fun n hn => by
    obtain ⟨d, hs⟩ := Option.isSome_iff_exists.1 (h.sub n hn)
    obtain ⟨h1, _, h3⟩ := splitOf_mem hs
    exact List.mem_map.2 ⟨d, h1, h3⟩
  simpa using this
def unkS (ns : List ByteArray) (d : DRes) : Bool := decide (d.kind = 2) && !(ns.any fun x => decide (x = d.name))
theorem unkS_iff {ns : List ByteArray} {d : DRes} : unkS ns d = true ↔ d.kind = 2 ∧ d.name ∉ ns := by
  simp only [unkS, Bool.and_eq_true, decide_eq_true_eq, Bool.not_eq_true', List.any_eq_false]
  exact ⟨fun ⟨h1, h2⟩ => ⟨h1, fun hm => h2 _ hm rfl⟩, fun ⟨h1, h2⟩ => ⟨h1, fun x hx e => h2 (e ▸ hx)⟩⟩
theorem unkS_no {ns : List ByteArray} {d : DRes} (h : d.name ∈ ns ∨ d.kind ≠ 2) : unkS ns d = false := by
  cases c : unkS ns d with
  | false => rfl
  | true => obtain ⟨h1, h2⟩ := unkS_iff.1 c; rcases h with h | h; exact absurd h h2; exact absurd h1 h
theorem unkS_in {ns : List ByteArray} {d : DRes} (h : unkS ns d = false) (h2 : d.kind = 2) : d.name ∈ ns := Classical.byContradiction fun hn => by rw [unkS_iff.2 ⟨h2, hn⟩] at h; cases h
theorem refAll_ok (h : ConfD F w s rs l) (hf : Fine l) : Cal PP Value.pointer 59 #[s.v] w fun v w' => Ext w w' ∧ ∃ b9 sn sq ns qs, v = some ⟨b9, 0, none⟩ ∧ w.heap.size ≤ b9 ∧ KnR l b9 w' sn sq ns qs ∧ (∀ n, (splitOf l n).isSome = true → n ∈ ns) ∧ ∀ n ∈ ns, (splitOf l n).isSome = true := by
  refine c59 ?_
  unfold f59
  have hfew := hf.few
  refine New.mk fun b9 w1 e1 h9 n9 s9 => ?_
  have hK0 : KnO l w.heap.size b9 w1 Sl.nil Sl.nil [] [] := ⟨h9, by omega, Own.nil_ _ _, Own.nil_ _ _, (fun b ⟨a, ha, _⟩ => by cases ha), (fun b ⟨a, ha, _⟩ => by cases ha), (fun b ⟨a, ha, _⟩ => by cases ha), rfl, (fun i h => absurd h (Nat.not_lt_zero _)), List.nodup_nil, (fun n hn => by cases hn)⟩
  refine Lp.mk (fun (i : Int) w' => ∃ (k : Nat) (sn sq : Sl) (ns : List ByteArray) (qs : List Sl), i = k ∧ k ≤ l.length ∧ Ext w w' ∧ KnO l w.heap.size b9 w' sn sq ns qs ∧ l.countP (unkS ns) + k ≤ l.length) (fun i => l.length - i.toNat)
    ⟨0, _, _, _, _, rfl, Nat.zero_le _, e1, hK0, List.countP_le_length⟩ ?_
  clear hK0
  rintro i w2 K ⟨r, sn, sq, N0, qs, rfl, hr, hE, hKn, hcnt⟩ hK
  by_cases hlt : r < l.length
  · rw [if_pos (by rw [h.n]; omega)]
    refine Lp.mk (fun (i : Int) w' => ∃ (k : Nat) (sn sq : Sl) (ns : List ByteArray) (qs : List Sl), i = k ∧ k ≤ l.length ∧ Ext w w' ∧ KnO l w.heap.size b9 w' sn sq ns qs ∧ (∀ n ∈ N0, n ∈ ns) ∧ ∀ j (hj : j < l.length), j < k → l[j].kind = 2 → (∀ c ∈ kidsOf l[j], c ∈ N0) → l[j].name ∈ ns) (fun i => l.length - i.toNat)
      ⟨0, sn, sq, N0, qs, rfl, Nat.zero_le _, hE, hKn, fun _ h => h, fun j _ hj => absurd hj (Nat.not_lt_zero _)⟩ ?_
    clear hE hKn
    rintro i w3 K2 ⟨k, sn, sq, ns, qs, rfl, hk, hE, hKn, hsub, hall⟩ hK2
    by_cases hlk : k < l.length
    · rw [if_pos (by rw [h.n]; omega)]
      have hlr : k < rs.length := by rw [h.len]; exact hlk
      refine ⟨fun _ w' => ∃ (sn sq : Sl) (ns : List ByteArray) (qs : List Sl), Ext w w' ∧ KnO l w.heap.size b9 w' sn sq ns qs ∧ (∀ n ∈ N0, n ∈ ns) ∧ ∀ j (hj : j < l.length), j < k + 1 → l[j].kind = 2 → (∀ c ∈ kidsOf l[j], c ∈ N0) → l[j].name ∈ ns, ?_, ?_⟩
      · refine ⟨fun x w' => w' = w3 ∧ x = !(unkS ns l[k]), ?_, ?_⟩
        · refine (h.ext hE).idx hlk rfl fun p r _ hp hr => ?_
          refine rn_at (x := r.Kind) one3 hp rfl ?_
          rw [hr.kind]
          by_cases c : l[k].kind = 2
          · refine iteF (by simpa using c) ?_
            refine (h.ext hE).idx hlk rfl fun p r _ hp hr => ?_
            refine rn_at (x := r.Name) one9 hp rfl ?_
            rw [hr.name]
            refine (at_ok hKn.r l[k].name).mono ?_
            rintro _ w4 ⟨rfl, rfl⟩
            refine ⟨rfl, ?_⟩
            rcases atN_cases ns l[k].name with ⟨hx, hno⟩ | ⟨i, hi, hx, hni⟩
            · rw [hx, unkS_iff.2 ⟨c, hno⟩]; rfl
            · have hin : l[k].name ∈ ns := by rw [← hni]; exact List.getElem_mem hi
              rw [hx, unkS_no (.inl hin)]; simp
          · exact iteT (by simpa using c) ⟨rfl, by rw [unkS_no (.inr c)]; rfl⟩
        rintro _ w4 ⟨rfl, rfl⟩
        cases hu : unkS ns l[k] with
        | false =>
          refine iteT rfl ⟨sn, sq, ns, qs, hE, hKn, hsub, fun j hj hjk h2 hc => ?_⟩
          by_cases hjk' : j < k
          · exact hall j hj hjk' h2 hc
          · obtain rfl : j = k := by omega
            exact unkS_in hu h2
        | true =>
          refine iteF (by simp) ?_
          obtain ⟨hk2, hno⟩ := unkS_iff.1 hu
          have hsp := splitOf_self hf.ord _ (List.getElem_mem hlk) hk2
          have h8 := hf.deep _ _ hsp
          refine (h.ext hE).idx hlk rfl fun p r _ hp hr => ?_
          refine rn_ldN (x := r) many48 hp rfl rfl ?_
          refine (one_ok hKn.r hr (sumS_ok hf.stand (List.getElem_mem hlk) hk2) hf.stand hfew).mono ?_
          rintro ⟨z, ok⟩ w5 ⟨e5, hyes, hkids⟩
          dsimp only at hyes hkids ⊢
          cases ok with
          | false =>
            refine iteF (by simp) ⟨sn, sq, ns, qs, hE.trans e5, hKn.ext e5, hsub, fun j hj hjk h2 hc => ?_⟩
            by_cases hjk' : j < k
            · exact hall j hj hjk' h2 hc
            · obtain rfl : j = k := by omega
              exact absurd (hkids fun c hc' => hsub _ (hc c hc')) (by simp)
          | true =>
            refine iteT rfl ?_
            obtain ⟨xs, hz, hzd⟩ := hyes rfl
            rw [← shF_eq h8 hsp] at hzd
            clear hyes hkids hp hr
            refine Dr.mk fun w6 e6 _ => ?_
            have E6 := e5.trans e6
            have hKn6 := hKn.ext E6
            have hE6 := hE.trans E6
            have hz6 := hz.ext e6
            refine rnl_blk (x := sn) one44 hKn6.hb9 rfl rfl ?_
            refine (h.ext hE6).idx hlk rfl fun p r _ hp hr => ?_
            refine rnl_at (x := r.Name) one9 hp rfl ?_
            rw [hr.name]
            refine New.mk fun b58 w7 e7 h58 n58 s58 => ?_
            have hKn7 := hKn6.ext e7
            have hlen := hKn.few
            have gB := hE.size; have g6 := E6.size; have g7 := e7.size
            refine rn_app1 (x := l[k].name) el44 hKn7.on h58 rfl rfl (oc_bs _) (by omega) (by decide) (by omega) fun sn' w8 O8 c8 n8 => ?_
            have g8 := c8.size
            have l9 := hKn7.hb9.lt
            have on7 : ∀ b, own? sn b → w.heap.size ≤ b ∧ b < w4.heap.size := fun b hb => hKn.on.ge hb
            have oq7 : ∀ b, own? sq b → w.heap.size ≤ b ∧ b < w4.heap.size := fun b hb => hKn.oq.ge hb
            have lo9 : w.heap.size ≤ b9 ∧ b9 < w4.heap.size := ⟨hKn.low, hKn.hb9.lt⟩
            have zo : ∀ b, own? z b → w4.heap.size ≤ b ∧ b < w6.heap.size := fun b hb => hz6.ge hb
            have b9_8 := hKn7.hb9.chg c8 (fun ho => hKn.n9 _ ho rfl)
            refine rnu_st (b := b9) (o := 0) rfl b9_8 [Sl.v sn'] sz44 rfl (by simp [Sl.v, Value.oneCell']) (by simp [TKnown15.cells]) fun w9 c9 s9' b9_9 => ?_
            replace b9_9 : Blk w9 b9 109 (TKnown15.cells ⟨sn', sq⟩) := b9_9
            refine rn_blk (x := sq) one107 b9_9 rfl rfl ?_
            refine New.mk fun b68 w10 e10 h68 n68 s68 => ?_
            have oq10 : Own sls 1 23 w.heap.size w10 sq qs := (((hKn7.oq.chg c8 (fun b hb ho => hKn.nq b ho hb)).chg c9 (fun b hb => hKn.q9 b hb)).ext e10)
            have g10 := e10.size
            refine rn_app1 (x := z) el107 oq10 h68 rfl rfl (oc_sls _) (by rw [← hKn.len]; omega) (by decide) (by omega) fun sq' w11 O11 c11 n11 => ?_
            have g11 := c11.size
            have nsn : ∀ b, own? sn' b → (own? sn b ∨ b = w7.heap.size) ∧ b < w8.heap.size := fun b hb => ⟨n8 b hb, (O8.ge hb).2⟩
            have nsq : ∀ b, own? sq' b → own? sq b ∨ b = w10.heap.size := n11
            have hn9 : ∀ b, own? sn' b → b ≠ b9 := fun b hb => by
              rcases (nsn b hb).1 with h | h
              · exact hKn.n9 b h
              · omega
            have hnq : ∀ b, own? sn' b → ¬ own? sq' b := fun b hb hq => by
              have h0 := (nsn b hb).2
              rcases (nsn b hb).1 with h | h <;> rcases nsq b hq with h' | h'
              · exact hKn.nq b h h'
              · omega
              · have := (oq7 b h').2; omega
              · omega
            have hnq' : ∀ b, own? sn' b → ¬ own? sq b := fun b hb hq => by
              rcases (nsn b hb).1 with h | h
              · exact hKn.nq b h hq
              · have := (oq7 b hq).2; omega
            have hq9 : ∀ b, own? sq' b → b ≠ b9 := fun b hb => by
              rcases nsq b hb with h | h
              · exact hKn.q9 b h
              · omega
            have b9_11 := (b9_9.ext e10).chg c11 (fun ho => hKn.q9 _ ho rfl)
            refine rnu_st (b := b9) (o := 1) rfl b9_11 [Sl.v sq'] sz107 rfl (by simp [Sl.v, Value.oneCell']) (by simp [TKnown15.cells]) fun w12 c12 s12 b9_12 => ?_
            replace b9_12 : Blk w12 b9 109 (TKnown15.cells ⟨sn', sq'⟩) := b9_12
            have hE12 : Ext w w12 := ((((((hE6.trans e7).then c8 (fun b hb => (on7 b hb).1)).then c9 (fun b hb => by omega)).trans e10).then c11 (fun b hb => (oq7 b hb).1)).then c12 (fun b hb => by omega))
            -- what a slice of shares, apart from all these, reads as
            have carry : ∀ {v : Sl} {ys : List TShare} {G : Nat → Prop}, Rd TShare.cells 2 G w7 v ys → (∀ b, G b → (b ≠ b9 ∧ ¬ own? sn b ∧ ¬ own? sq b) ∧ b < w7.heap.size) →
                Rd TShare.cells 2 (fun b => (b ≠ b9 ∧ ¬ own? sn' b ∧ ¬ own? sq' b) ∧ b < w12.heap.size) w12 v ys := fun hv hG =>
              (((((hv.chg c8 (fun b hb _ => (hG b hb).1.2.1)).chg c9 (fun b hb _ => (hG b hb).1.1)).ext e10).chg c11 (fun b hb _ => (hG b hb).1.2.2)).chg c12 (fun b hb _ => (hG b hb).1.1)).mono fun b hb => by
                obtain ⟨⟨h1, h2, h3⟩, h4⟩ := hG b hb
                have g12 := c12.size; have g9 := c9.size
                refine ⟨⟨h1, fun ho => ?_, fun ho => ?_⟩, by omega⟩
                · rcases (nsn b ho).1 with h | h
                  · exact h2 h
                  · omega
                · rcases nsq b ho with h | h
                  · exact h3 h
                  · omega
            refine ⟨sn', sq', ns ++ [l[k].name], qs ++ [z], hE12, ⟨b9_12, hKn.low, ?_, ?_, hn9, hq9, hnq, by simp [hKn.len], ?_, ?_, ?_⟩, fun n hn => List.mem_append.2 (.inl (hsub n hn)), ?_⟩
            · exact (((O8.chg c9 (fun b hb => hn9 b hb)).ext e10).chg c11 (fun b hb => hnq' b hb)).chg c12 (fun b hb => hn9 b hb)
            · exact O11.chg c12 (fun b hb => hq9 b hb)
            · intro i hi hi'
              by_cases hin : i < ns.length
              · have hiq : i < qs.length := by rw [← hKn.len]; exact hin
                rw [List.getElem_append_left hin, List.getElem_append_left hiq]
                obtain ⟨ys, hv, hd⟩ := hKn7.el i hin hiq
                exact ⟨ys, carry hv fun b hb => hb, hd⟩
              · have : i = ns.length := by simp at hi; omega
                subst this
                have e1 : (ns ++ [l[k].name])[ns.length] = l[k].name := by simp
                have e2 : (qs ++ [z])[ns.length]'hi' = z := by simp [hKn.len]
                rw [e1, e2]
                refine ⟨xs, carry ((hz6.ext e7).rd (F := fun b => own? z b) (fun b hb => hb)) fun b hb => ?_, hzd⟩
                have := zo b hb
                exact ⟨⟨by omega, fun ho => by have := (on7 b ho).2; omega, fun ho => by have := (oq7 b ho).2; omega⟩, by omega⟩
            · rw [List.nodup_append]
              refine ⟨hKn.nd, by simp, fun a ha b hb => ?_⟩
              simp only [List.mem_singleton] at hb
              subst hb
              exact fun e => hno (e ▸ ha)
            · intro n hn
              rcases List.mem_append.1 hn with hn | hn
              · exact hKn.sub n hn
              · simp only [List.mem_singleton] at hn; subst hn; rw [hsp]; rfl
            · intro j hj hjk h2 hc
              by_cases hjk' : j < k
              · exact List.mem_append.2 (.inl (hall j hj hjk' h2 hc))
              · obtain rfl : j = k := by omega
                simp
      · rintro _ w4 ⟨sn, sq, ns, qs, hE, hKn, hsub, hall⟩
        rw [h.wr hlk]
        exact hK2 _ _ ⟨k + 1, sn, sq, ns, qs, rfl, hlk, hE, hKn, hsub, hall⟩ (by omega)
    · rw [if_neg (by rw [h.n]; omega)]
      obtain rfl : k = l.length := by omega
      rw [h.wr hlt]
      refine hK _ _ ⟨r + 1, sn, sq, ns, qs, rfl, hlt, hE, hKn, ?_⟩ (by omega)
      have hmono : ∀ x ∈ l, unkS ns x = true → unkS N0 x = true := fun x _ hx => by
        obtain ⟨hx1, hx2⟩ := unkS_iff.1 hx
        exact unkS_iff.2 ⟨hx1, fun hm => hx2 (hsub _ hm)⟩
      by_cases hex : ∃ m, ∃ d ∈ l, unkS N0 d = true ∧ hd l 8 d.name = m
      · obtain ⟨m, ⟨d, hd0, hu, hm⟩, hmin⟩ := least hex
        have hu' := unkS_iff.1 hu
        have hsp := splitOf_self hf.ord _ hd0 hu'.1
        have hin : d.name ∈ ns := by
          obtain ⟨j, hj, rfl⟩ := List.mem_iff_getElem.1 hd0
          refine hall j hj (by omega) hu'.1 fun c hc => ?_
          refine Classical.byContradiction fun hno => ?_
          obtain ⟨d', hs'⟩ := Option.isSome_iff_exists.1 (hf.kids _ _ c hsp hc)
          obtain ⟨q1, q2, q3⟩ := splitOf_mem hs'
          have hkid : c ∈ Ct.kids l l[j].name := by unfold Ct.kids; rw [hsp]; exact hc
          have hlt' := kid_hd (hf.deep _ _ hsp) hkid
          have := hmin (hd l 8 c) ⟨d', q1, unkS_iff.2 ⟨q2, by rw [q3]; exact hno⟩, by rw [q3]⟩
          omega
        have := cnt_lt l hmono ⟨d, hd0, hu, unkS_no (.inl hin)⟩
        omega
      · have h0 : l.countP (unkS N0) = 0 := List.countP_eq_zero.2 fun d hd hu => hex ⟨_, d, hd, hu, rfl⟩
        have := cnt_le l hmono
        omega
  · rw [if_neg (by rw [h.n]; omega)]
    obtain rfl : r = l.length := by omega
    refine ⟨hE, b9, sn, sq, N0, qs, rfl, hKn.low, hKn.r, fun n hn => ?_, hKn.sub⟩
    obtain ⟨d, hs⟩ := Option.isSome_iff_exists.1 hn
    obtain ⟨q1, q2, q3⟩ := splitOf_mem hs
    have h0 : l.countP (unkS N0) = 0 := by omega
    have := List.countP_eq_zero.1 h0 d q1
    rw [← q3]; exact unkS_in (by simpa using this) q2
end
end Go.Proofs.Ytdoeegfcmbcbkaa.Ct


namespace Go.Eng
open Go
set_option linter.unusedVariables false
set_option linter.unusedSectionVars false

def Rea {β : Type} (a b : Nat) (g g' : Nat → β) : Prop := ∃ σ τ : Nat → Nat, (∀ i, σ (τ i) = i) ∧ (∀ i, τ (σ i) = i) ∧ (∀ i, i < a ∨ b ≤ i → σ i = i) ∧ ∀ i, g' i = g (σ i)
section
variable {β : Type} {a b c d n : Nat} {g g' g'' : Nat → β}
theorem Rea.refl (a b : Nat) (g : Nat → β) : Rea a b g g := ⟨id, id, fun _ => rfl, fun _ => rfl, fun _ _ => rfl, fun _ => rfl⟩
theorem Rea.trans (h : Rea a b g g') (k : Rea a b g' g'') : Rea a b g g'' := by
  obtain ⟨σ, τ, h1, h2, h3, h4⟩ := h
  obtain ⟨σ', τ', k1, k2, k3, k4⟩ := k
  exact ⟨fun i => σ (σ' i), fun i => τ' (τ i), fun i => by simp [k1, h1], fun i => by simp [h2, k2], fun i hi => by simp [k3 i hi, h3 i hi], fun i => by rw [k4, h4]⟩
theorem Rea.mono (h : Rea a b g g') (ha : c ≤ a) (hb : b ≤ d) : Rea c d g g' := by
  obtain ⟨σ, τ, h1, h2, h3, h4⟩ := h
  exact ⟨σ, τ, h1, h2, fun i hi => h3 i (by omega), h4⟩
theorem Rea.out (h : Rea a b g g') {i : Nat} (hi : i < a ∨ b ≤ i) : g' i = g i := by
  obtain ⟨σ, τ, h1, h2, h3, h4⟩ := h
  rw [h4, h3 i hi]
theorem Rea.src (h : Rea a b g g') {i : Nat} (h1 : a ≤ i) (h2 : i < b) : ∃ j, a ≤ j ∧ j < b ∧ g' i = g j := by
  obtain ⟨σ, τ, k1, k2, k3, k4⟩ := h
  refine ⟨σ i, ?_, ?_, k4 i⟩ <;>
  · refine Classical.byContradiction fun hc => ?_
    have h5 := k3 (σ i) (by omega)
    have h6 := congrArg τ h5
    rw [k2, k2] at h6
    omega
theorem Rea.dst (h : Rea a b g g') {i : Nat} (h1 : a ≤ i) (h2 : i < b) : ∃ j, a ≤ j ∧ j < b ∧ g' j = g i := by
  obtain ⟨σ, τ, k1, k2, k3, k4⟩ := h
  refine ⟨τ i, ?_, ?_, by rw [k4, k1]⟩ <;>
  · refine Classical.byContradiction fun hc => ?_
    have h5 := k3 (τ i) (by omega)
    rw [k1] at h5
    omega
theorem Rea.all {p : β → Prop} (h : Rea a b g g') (hp : ∀ i, a ≤ i → i < b → p (g i)) : ∀ i, a ≤ i → i < b → p (g' i) := fun i h1 h2 => by
  obtain ⟨j, j1, j2, e⟩ := h.src h1 h2
  rw [e]; exact hp j j1 j2
theorem Rea.allN {p : β → Prop} (h : Rea a b g g') (hb : b ≤ n) (hp : ∀ i, i < n → p (g i)) : ∀ i, i < n → p (g' i) := fun i h2 => by
  by_cases c : a ≤ i ∧ i < b
  · exact h.all (fun i _ h => hp i (by omega)) i c.1 c.2
  · rw [h.out (by omega)]; exact hp i h2
def swp (g : Nat → β) (i j : Nat) : Nat → β := fun k => if k = i then g j else if k = j then g i else g k
theorem Rea.swp {i j : Nat} (hi : a ≤ i ∧ i < b) (hj : a ≤ j ∧ j < b) : Rea a b g (swp g i j) := by
  refine ⟨fun k => if k = i then j else if k = j then i else k, fun k => if k = i then j else if k = j then i else k, fun k => ?_, fun k => ?_, fun k hk => ?_, fun k => ?_⟩
  · dsimp only; split <;> (try split) <;> (try split) <;> omega
  · dsimp only; split <;> (try split) <;> (try split) <;> omega
  · dsimp only; split <;> (try split) <;> omega
  · unfold Eng.swp; dsimp only; split <;> (try split) <;> rfl
def Srt (T : β → β → Prop) (a b : Nat) (g : Nat → β) : Prop := ∀ i j, a ≤ i → i < j → j < b → T (g i) (g j)
theorem Srt.mono {T : β → β → Prop} (h : Srt T a b g) (ha : a ≤ c) (hb : d ≤ b) : Srt T c d g := fun i j h1 h2 h3 => h i j (by omega) h2 (by omega)
theorem Srt.eq {T : β → β → Prop} (h : Srt T a b g) (he : ∀ i, a ≤ i → i < b → g' i = g i) : Srt T a b g' := fun i j h1 h2 h3 => by rw [he i h1 (by omega), he j (by omega) h3]; exact h i j h1 h2 h3
end
theorem sorted_uniq {β : Type} {T : β → β → Prop} (hi : ∀ x, ¬ T x x) (ht : ∀ x y z, T x y → T y z → T x z) : ∀ {l l' : List β}, l.Pairwise T → l'.Pairwise T → (∀ x, x ∈ l ↔ x ∈ l') → l = l'
  | [], [], _, _, _ => rfl
  | [], y :: l', _, _, h => by have := (h y).2 (by simp); cases this
  | x :: l, [], _, _, h => by have := (h x).1 (by simp); cases this
  | x :: l, y :: l', h1, h2, h => by
    rw [List.pairwise_cons] at h1 h2
    have e : x = y := by
      refine Classical.byContradiction fun hne => ?_
      have hx : x ∈ l' := by
        rcases List.mem_cons.1 ((h x).1 (by simp)) with e | e
        · exact absurd e hne
        · exact e
      have hy : y ∈ l := by
        rcases List.mem_cons.1 ((h y).2 (by simp)) with e | e
        · exact absurd e.symm hne
        · exact e
      exact hi x (ht _ _ _ (h1.1 y hy) (h2.1 x hx))
    subst e
    congr 1
    refine sorted_uniq hi ht h1.2 h2.2 fun z => ?_
    constructor
    · intro hz
      rcases List.mem_cons.1 ((h z).1 (by simp [hz])) with e | e
      · subst e; exact absurd (h1.1 z hz) (hi z)
      · exact e
    · intro hz
      rcases List.mem_cons.1 ((h z).2 (by simp [hz])) with e | e
      · subst e; exact absurd (h2.1 z hz) (hi z)
      · exact e

structure WO {α : Type} (lt : α → α → Bool) : Prop where
  irr : ∀ x, lt x x = false
  tr : ∀ x y z, lt x y = true → lt y z = true → lt x z = true
  ntr : ∀ x y z, lt x y = false → lt y z = false → lt x z = false
section
variable {α : Type} {lt : α → α → Bool}
def Tg (lt : α → α → Bool) (x y : α × Nat) : Prop := lt x.1 y.1 = true ∨ (lt y.1 x.1 = false ∧ x.2 < y.2)
theorem WO.asym (h : WO lt) {x y : α} (k : lt x y = true) : lt y x = false := by
  cases c : lt y x with
  | false => rfl
  | true => have := h.tr _ _ _ k c; rw [h.irr] at this; cases this
theorem Tg.irr (h : WO lt) (x : α × Nat) : ¬ Tg lt x x := by
  rintro (h1 | ⟨_, h1⟩)
  · rw [h.irr] at h1; cases h1
  · omega
theorem Tg.tr (h : WO lt) {x y z : α × Nat} (h1 : Tg lt x y) (h2 : Tg lt y z) : Tg lt x z := by
  rcases h1 with h1 | ⟨h1, k1⟩ <;> rcases h2 with h2 | ⟨h2, k2⟩
  · exact .inl (h.tr _ _ _ h1 h2)
  · cases c : lt x.1 z.1 with
    | true => exact .inl c
    | false => have := h.ntr _ _ _ c h2; rw [h1] at this; cases this
  · cases c : lt x.1 z.1 with
    | true => exact .inl c
    | false => have := h.ntr _ _ _ h1 c; rw [h2] at this; cases this
  · exact .inr ⟨h.ntr _ _ _ h2 h1, by omega⟩
theorem Tg.tot {x y : α × Nat} (hne : x.2 ≠ y.2) : Tg lt x y ∨ Tg lt y x := by
  cases c : lt x.1 y.1 with
  | true => exact .inl (.inl c)
  | false =>
    cases c' : lt y.1 x.1 with
    | true => exact .inr (.inl c')
    | false =>
      by_cases e : x.2 < y.2
      · exact .inl (.inr ⟨c', e⟩)
      · exact .inr (.inr ⟨c, by omega⟩)
theorem Tg.late {x y : α × Nat} (h : WO lt) (ht : y.2 < x.2) : (lt x.1 y.1 = true → Tg lt x y) ∧ (lt x.1 y.1 = false → Tg lt y x) :=
  ⟨fun c => .inl c, fun c => .inr ⟨c, ht⟩⟩
def ins (lt : α → α → Bool) (x : α) : List α → List α
  | [] => [x]
  | y :: l => if lt x y = true then x :: y :: l else y :: ins lt x l
def stb (lt : α → α → Bool) (ys : List α) : List α := ys.foldl (fun out x => ins lt x out) []
theorem stb_snoc (ys : List α) (x : α) : stb lt (ys ++ [x]) = ins lt x (stb lt ys) := by unfold stb; rw [List.foldl_append]; rfl
end
def tag {α : Type} (ys : List α) : List (α × Nat) := ys.zipIdx
def ltp {α : Type} (lt : α → α → Bool) (x y : α × Nat) : Bool := lt x.1 y.1
section
variable {α : Type} {lt : α → α → Bool}
theorem ins_map (x : α × Nat) : ∀ l : List (α × Nat), (ins (ltp lt) x l).map (·.1) = ins lt x.1 (l.map (·.1))
  | [] => rfl
  | y :: l => by
    unfold ins ltp
    simp only [List.map_cons]
    by_cases c : lt x.1 y.1 = true
    · rw [if_pos c, if_pos c]; rfl
    · rw [if_neg c, if_neg c, List.map_cons]
      congr 1
      exact ins_map x l
theorem mem_ins {lt : α → α → Bool} {x z : α} : ∀ {l : List α}, z ∈ ins lt x l ↔ z = x ∨ z ∈ l
  | [] => by simp [ins]
  | y :: l => by
    unfold ins
    split
    · simp
    · rw [List.mem_cons, mem_ins, List.mem_cons]
      constructor
      · rintro (h | h | h)
        · exact .inr (.inl h)
        · exact .inl h
        · exact .inr (.inr h)
      · rintro (h | h | h)
        · exact .inr (.inl h)
        · exact .inl h
        · exact .inr (.inr h)
theorem ins_sorted (h : WO lt) {x : α × Nat} : ∀ {l : List (α × Nat)}, (∀ y ∈ l, y.2 < x.2) → l.Pairwise (Tg lt) → (ins (ltp lt) x l).Pairwise (Tg lt)
  | [], _, _ => by simp [ins]
  | y :: l, hx, hp => by
    unfold ins
    rw [List.pairwise_cons] at hp
    have hy := hx y (by simp)
    by_cases c : ltp lt x y = true
    · rw [if_pos c, List.pairwise_cons]
      refine ⟨fun z hz => ?_, List.pairwise_cons.2 hp⟩
      rcases List.mem_cons.1 hz with rfl | hz
      · exact .inl c
      · exact Tg.tr h (.inl c) (hp.1 z hz)
    · rw [if_neg c, List.pairwise_cons]
      refine ⟨fun z hz => ?_, ins_sorted h (fun z hz => hx z (by simp [hz])) hp.2⟩
      rcases mem_ins.1 hz with rfl | hz
      · exact (Tg.late h hy).2 (show ltp lt z y = false by simpa using c)
      · exact hp.1 z hz
theorem stb_tag (h : WO lt) (ys : List α) : (stb (ltp lt) (tag ys)).map (·.1) = stb lt ys ∧ (stb (ltp lt) (tag ys)).Pairwise (Tg lt) ∧ ∀ x, x ∈ stb (ltp lt) (tag ys) ↔ x ∈ tag ys := by
  have key : ∀ n, n ≤ ys.length → (stb (ltp lt) ((tag ys).take n)).map (·.1) = stb lt (ys.take n) ∧ (stb (ltp lt) ((tag ys).take n)).Pairwise (Tg lt) ∧ ∀ x, x ∈ stb (ltp lt) ((tag ys).take n) ↔ x ∈ (tag ys).take n := by
    intro n
    induction n with
    | zero => intro _; exact ⟨rfl, List.Pairwise.nil, fun x => by simp [stb]⟩
    | succ n ih =>
      intro hn
      obtain ⟨h1, h2, h3⟩ := ih (by omega)
      have hl : n < (tag ys).length := by simp [tag]; omega
      have e1 : (tag ys).take (n + 1) = (tag ys).take n ++ [(tag ys)[n]] := by rw [List.take_add_one, List.getElem?_eq_getElem hl]; rfl
      have e2 : ys.take (n + 1) = ys.take n ++ [ys[n]] := by rw [List.take_add_one, List.getElem?_eq_getElem (by omega)]; rfl
      have e3 : (tag ys)[n] = (ys[n], n) := by simp [tag]
      rw [e1, e2, stb_snoc, stb_snoc, e3]
      refine ⟨by rw [ins_map, h1], ins_sorted h (fun y hy => ?_) h2, fun x => ?_⟩
      · obtain ⟨i, hi, rfl⟩ := List.mem_iff_getElem.1 ((h3 y).1 hy)
        have : ((tag ys).take n)[i].2 = i := by simp [tag]
        rw [this]; simp at hi; omega
      · rw [mem_ins, h3, List.mem_append, List.mem_singleton]
        exact ⟨fun h => h.elim .inr .inl, fun h => h.elim .inr .inl⟩
  have := key ys.length (Nat.le_refl _)
  have e : (tag ys).take ys.length = tag ys := List.take_of_length_le (by simp [tag])
  rw [e, List.take_length] at this
  exact this
def tab {β : Type} (n : Nat) (g : Nat → β × Nat) : List β := (List.range n).map fun i => (g i).1
theorem tab_get {β : Type} {n : Nat} {g : Nat → β × Nat} {k : Nat} (h : k < (tab n g).length) : (tab n g)[k] = (g k).1 := by simp [tab]
theorem tab_set {β : Type} {n : Nat} {g : Nat → β × Nat} {k : Nat} {x : β × Nat} : (tab n g).set k x.1 = tab n fun i => if i = k then x else g i := by
  apply List.ext_getElem (by simp [tab])
  intro i h1 h2
  rw [List.getElem_set]
  simp only [tab, List.getElem_map, List.getElem_range]
  by_cases e : k = i
  · subst e; simp
  · rw [if_neg e, if_neg (fun h => e h.symm)]
def rowOf {β : Type} (ys : List β) (z : β) : Nat → β × Nat := fun i => (ys.getD i z, i)
theorem tab_rowOf {β : Type} (ys : List β) (z : β) : tab ys.length (rowOf ys z) = ys := by
  apply List.ext_getElem (by simp [tab])
  intro i h1 h2
  simp [tab, rowOf, List.getElem?_eq_getElem h2]
theorem stb_of (h : WO lt) {ys : List α} {z : α} {g : Nat → α × Nat} (hr : Rea 0 ys.length (rowOf ys z) g) (hs : Srt (Tg lt) 0 ys.length g) : tab ys.length g = stb lt ys := by
  obtain ⟨h1, h2, h3⟩ := stb_tag h ys
  rw [← h1]
  have e : tab ys.length g = ((List.range ys.length).map g).map (·.1) := by simp [tab]
  rw [e]
  congr 1
  refine sorted_uniq (Tg.irr h) (fun _ _ _ => Tg.tr h) ?_ h2 fun x => ?_
  · rw [List.pairwise_iff_getElem]
    intro i j hi hj hij
    simp only [List.getElem_map, List.getElem_range]
    exact hs i j (Nat.zero_le _) hij (by simpa using hj)
  · rw [h3]
    constructor
    · intro hx
      obtain ⟨i, hi, rfl⟩ := List.mem_map.1 hx
      obtain ⟨j, _, hj, e⟩ := hr.src (Nat.zero_le i) (List.mem_range.1 hi)
      rw [e]
      rw [tag, List.mem_zipIdx_iff_getElem?]
      simp [rowOf, List.getElem?_eq_getElem hj]
    · intro hx
      rw [tag, List.mem_zipIdx_iff_getElem?] at hx
      obtain ⟨hlt, e⟩ := List.getElem?_eq_some_iff.1 hx
      obtain ⟨j, _, hj, e2⟩ := hr.dst (Nat.zero_le x.2) hlt
      refine List.mem_map.2 ⟨j, List.mem_range.2 hj, ?_⟩
      rw [e2]
      have : ys.getD x.2 z = x.1 := by simp [List.getElem?_eq_getElem hlt, e]
      simp only [rowOf, this]
end

def Mul (k c : Nat) : Prop := ∃ q, c = q * k
theorem Mul.gap {k a c : Nat} (ha : Mul k a) (hc : Mul k c) (h : a < c) : a + k ≤ c := by
  obtain ⟨p, rfl⟩ := ha
  obtain ⟨q, rfl⟩ := hc
  have h1 : p < q := Nat.lt_of_mul_lt_mul_right h
  have h2 : (p + 1) * k ≤ q * k := Nat.mul_le_mul_right _ h1
  rw [Nat.add_mul] at h2; omega
theorem Mul.add {k a : Nat} (ha : Mul k a) : Mul k (a + k) := by obtain ⟨p, rfl⟩ := ha; exact ⟨p + 1, by rw [Nat.add_mul, Nat.one_mul]⟩
theorem Mul.two {k a : Nat} (ha : Mul (2 * k) a) : Mul k a := by obtain ⟨p, rfl⟩ := ha; exact ⟨p * 2, by rw [Nat.mul_assoc]⟩
theorem Mul.zero (k : Nat) : Mul k 0 := ⟨0, by simp⟩
def Bdry {β : Type} (n c : Nat) (g : Nat → β × Nat) : Prop := ∀ x y, x < c → c ≤ y → y < n → (g x).2 < (g y).2
theorem Bdry.rea {β : Type} {n c p q : Nat} {g g' : Nat → β × Nat} (h : Bdry n c g) (hr : Rea p q g g') (hq : q ≤ n) (hc : c ≤ p ∨ q ≤ c) : Bdry n c g' := fun x y h1 h2 h3 => by
  have hx : ∃ x', x' < c ∧ g' x = g x' := by
    by_cases cx : p ≤ x ∧ x < q
    · obtain ⟨x', k1, k2, e⟩ := hr.src cx.1 cx.2
      exact ⟨x', by omega, e⟩
    · exact ⟨x, h1, hr.out (by omega)⟩
  have hy : ∃ y', c ≤ y' ∧ y' < n ∧ g' y = g y' := by
    by_cases cy : p ≤ y ∧ y < q
    · obtain ⟨y', k1, k2, e⟩ := hr.src cy.1 cy.2
      exact ⟨y', by omega, by omega, e⟩
    · exact ⟨y, h2, h3, hr.out (by omega)⟩
  obtain ⟨x', k1, e1⟩ := hx
  obtain ⟨y', k2, k3, e2⟩ := hy
  rw [e1, e2]; exact h x' y' k1 k2 k3
theorem Srt.rea {β : Type} {c d p q : Nat} {T : β × Nat → β × Nat → Prop} {g g' : Nat → β × Nat} (h : Srt T c d g) (hr : Rea p q g g') (hc : d ≤ p ∨ q ≤ c) : Srt T c d g' := h.eq fun i h1 h2 => hr.out (by omega)
section
variable {P : Program} {α : Type} {cells : α → List Value} {sz T B t e n : Nat} {w : World} {s : Sl} {g : Nat → α × Nat}
theorem wrapI {x : Int} (h1 : -9223372036854775808 ≤ x) (h2 : x ≤ 9223372036854775807) : IntKind.i64.wrap x = x := wrap_in ⟨h1, h2⟩
theorem wrapU {x : Int} (h1 : 0 ≤ x) (h2 : x ≤ 9223372036854775807) : IntKind.u64.wrap x = x := by
  show x % 18446744073709551616 = x
  exact Int.emod_eq_of_lt h1 (by omega)
theorem rnp_half {ty : TypeId} {x : Int} {K : Int → Prop} (h : K (x / 2)) : RnP P (Value.int .u64) (binOp .shr ty (.int .u64 x) (.int .u64 1)) K := by
  refine RnP.of (x := x / 2) (fun w => ?_) h
  have : binOp .shr ty (.int .u64 x) (.int .u64 1) = Op.shift .shr .u64 x .u64 1 := rfl
  rw [this, shift_shr_any _ _ _ _ (by decide)]
  rfl
theorem rnp_row {i : Int} {k : Nat} {K : Addr → Prop} (ht : SlT P t e sz) (hO : Own cells sz T B w s (tab n g)) (hk : k < n) (hi : i = k) (h : ∀ p, At w p (cells (g k).1) → K p) : RnP P Ptr (Instr.indexAt t (Sl.v s) (.int .i64 i)) K :=
  rnp_idx ht (hO.rd (F := fun _ => True) (fun _ _ => trivial)) (k := k) (by simpa [tab] using hk) hi fun p _ hp => h p (by rw [tab_get] at hp; exact hp)
theorem rnp_lay {tf : TypeId} {i : Int} {k : Nat} {x : α × Nat} {v : Value} {K : World → Prop} (ht : SlT P t e sz) (hO : Own cells sz T B w s (tab n g)) (hk : k < n) (hi : i = k) (hs : (P.info? tf).map (·.size) = some sz)
    (hv : v.cells = (cells x.1).toArray) (hc : (cells x.1).length = sz) (h1 : ∀ u ∈ cells x.1, u.oneCell' = true)
    (hK : ∀ w', Chg (own? s) w w' → Own cells sz T B w' s (tab n fun j => if j = k then x else g j) → w'.heap.size = w.heap.size → K w') :
    RnP P Ptr (Instr.indexAt t (Sl.v s) (.int .i64 i)) fun p => RnU P (Instr.storeAt tf (Ptr p) v) w K := by
  have hl : k < (tab n g).length := by simpa [tab] using hk
  have := own_setN (P := P) (f := 0) (vs := cells x.1) (x' := x.1) (v := v) (tf := tf) (K := K) ht hO hl hi (by omega) (by rw [hc]; exact hs) hv h1
    (by unfold over; simp only [List.take_zero, List.nil_append, Nat.zero_add]; rw [List.drop_eq_nil_of_le (by rw [hc, hO.sz_ _ (List.getElem_mem hl)]; omega)]; simp)
    fun w' c O h => hK w' c (by rw [tab_set] at O; exact O) h
  exact this
end
end Go.Eng


namespace Go.Eng
open Go
set_option linter.unusedVariables false
set_option linter.unusedSectionVars false

def u8c (c : UInt8) : List Value := [.int .u8 ((c.toNat : Nat) : Int)]
theorem oc_u8c (c : UInt8) : ∀ u ∈ u8c c, u.oneCell' = true := by simp [u8c, Value.oneCell']
def Byt (w : World) (b T : Nat) (l : List UInt8) : Prop := ∃ cs : List Value, w.heap[b]? = some (.cells cs.toArray T (cs.length, cs.length + 1)) ∧ l.length ≤ cs.length ∧ cs.take l.length = l.flatMap u8c
section
variable {P : Program} {w w' : World} {S : Nat → Prop} {b T : Nat} {l : List UInt8}
theorem Byt.lt (h : Byt w b T l) : b < w.heap.size := by obtain ⟨cs, h1, _⟩ := h; exact (Array.getElem?_eq_some_iff.1 h1).1
theorem Byt.chg (h : Byt w b T l) (k : Chg S w w') (hs : ¬ S b) : Byt w' b T l := by
  have hl := h.lt
  obtain ⟨cs, h1, h2, h3⟩ := h; exact ⟨cs, (k.block b hl hs).trans h1, h2, h3⟩
theorem Byt.ext (h : Byt w b T l) (k : Ext w w') : Byt w' b T l := h.chg (k.chg (fun _ => False)) (fun h => h)
theorem u8_flat (l : List UInt8) : l.flatMap u8c = l.map fun c => Value.int .u8 ((c.toNat : Nat) : Int) := by
  induction l with
  | nil => rfl
  | cons c l ih => rw [List.flatMap_cons, ih]; rfl
theorem Byt.cell (h : Byt w b T l) {i : Nat} (hi : i < l.length) : w.cell? ⟨b, i, none⟩ = some (.int .u8 ((l[i].toNat : Nat) : Int)) := by
  obtain ⟨cs, h1, h2, h3⟩ := h
  have h4 : (cs.take l.length)[i]? = some (.int .u8 ((l[i].toNat : Nat) : Int)) := by
    rw [h3, u8_flat, List.getElem?_map, List.getElem?_eq_getElem hi]; rfl
  rw [List.getElem?_take, if_pos hi] at h4
  simp [World.cell?, h1, h4]
theorem rn_bytes {src dst : TypeId} {x : ByteArray} {K : Sl → World → Prop} (hs : P.underlying src = some .string) (hd : P.underlying dst = some (.slice T)) (he : P.underlying T = some (.int .u8))
    (hk : ∀ b c w', Ext w w' → b = w.heap.size → Byt w' b T x.data.toList → K ⟨some ⟨b, 0, none⟩, x.size, c⟩ w') : Rn P Sl.v (convert src dst (.string x)) w K := by
  have hr := run_bytes_of_string (P := P) w src dst T x hs hd he
  generalize hC : grownCap w x.size 0 T = C at hr
  refine ⟨⟨some ⟨w.heap.size, 0, none⟩, x.size, C⟩, _, hr, hk _ _ _ ?_ rfl ?_⟩
  · exact (Ext.drew w).trans (Ext.alloc _ _)
  · refine ⟨(bytesRow x C).toList, ?_, ?_, ?_⟩
    · have := heap_alloc_new w.drew (.cells (bytesRow x C) T ((bytesRow x C).size, (bytesRow x C).size + 1))
      rw [Array.toArray_toList, Array.length_toList]
      exact this
    · simp [bytesRow]
    · have e : (bytesRow x C).toList = (x.data.toList.map fun c => Value.int .u8 ((c.toNat : Nat) : Int)) ++ List.replicate (C - x.size) (.int .u8 0) := by simp [bytesRow]
      rw [e, u8_flat, List.take_append_of_le_length (by simp)]
      exact List.take_of_length_le (by simp)
theorem rnu_byte {t : TypeId} {i : Nat} {c : UInt8} {K : World → Prop} (hs : (P.info? t).map (·.size) = some 1) (h : Byt w b T l) (hi : i < l.length)
    (hK : ∀ w', Chg (fun x => x = b) w w' → Byt w' b T (l.set i c) → w'.heap.size = w.heap.size → K w') : RnU P (Instr.storeAt t (Ptr ⟨b, i, none⟩) (.int .u8 ((c.toNat : Nat) : Int))) w K := by
  have hcell := h.cell hi
  obtain ⟨cs, h1, h2, h3⟩ := h
  have hfro : w.frozen? ⟨b, i, none⟩ = false := by simp [World.frozen?, h1]; omega
  have h4 : (sizeOf t).run P w = .ok 1 w := size_run hs w
  have h5 : (store (⟨b, i, none⟩ : Addr) (.int .u8 ((c.toNat : Nat) : Int))).run P w = .ok () (w.setCell ⟨b, i, none⟩ (.int .u8 ((c.toNat : Nat) : Int))) := by
    rw [run_store P w _ _ _ rfl, hcell]
    simp [hfro]
  refine ⟨w.setRow b (cs.set i (.int .u8 ((c.toNat : Nat) : Int))).toArray, ?_, hK _ ⟨rfl, rfl, rfl, ?_, ?_⟩ ⟨cs.set i (.int .u8 ((c.toNat : Nat) : Int)), ?_, ?_, ?_⟩ ?_⟩
  · simp only [Instr.storeAt, Instr.sureAddr, Ptr, storeVar, Sem.run_bind, Sem.run_pure, Result.andThen_ok, h4]
    rw [if_neg (by simp [Value.cells])]
    have e : (Value.cells (.int .u8 ((c.toNat : Nat) : Int))).toList = [.int .u8 ((c.toNat : Nat) : Int)] := rfl
    rw [e]
    simp only [storeCells, Sem.run_bind]
    have e2 : (⟨b, i, none⟩ : Addr).add 0 = ⟨b, i, none⟩ := rfl
    rw [e2, h5, Result.andThen_ok, Sem.run_pure]
    congr 1
    unfold World.setCell World.setRow
    congr 1
    have hlt : b < w.heap.size := (Array.getElem?_eq_some_iff.1 h1).1
    apply Array.ext
    · simp
    · intro k k1 k2
      simp only [Array.getElem_modify]
      by_cases e : b = k
      · subst e
        have : w.heap[b] = .cells cs.toArray T (cs.length, cs.length + 1) := (Array.getElem?_eq_some_iff.1 h1).2
        simp [this]
      · simp [e]
  · exact Nat.le_of_eq (by simp [World.setRow])
  · intro k _ hk
    exact setRow_other w b k _ (fun e => hk e)
  · have := setRow_heap w b cs.toArray (cs.set i (.int .u8 ((c.toNat : Nat) : Int))).toArray T (cs.length, cs.length + 1) h1
    rw [List.length_set]; exact this
  · simpa using h2
  · rw [List.length_set, List.take_set, h3, u8_flat, u8_flat, List.map_set]
  · simp [World.setRow]
theorem rn_text {src dst : TypeId} {a : Addr} {n c : Nat} {K : ByteArray → World → Prop} (hs : P.underlying src = some (.slice T)) (he : P.underlying T = some (.int .u8)) (hd : P.underlying dst = some .string) (hn : n = l.length)
    (hc : ∀ j (hj : j < l.length), w.cell? (a.add j) = some (.int .u8 ((l[j].toNat : Nat) : Int))) (hk : K ⟨l.toArray⟩ w) : Rn P Value.string (convert src dst (Sl.v ⟨some a, n, c⟩)) w K := by
  subst hn
  exact ⟨_, w, run_convert_bytes_back w src dst T a c l hs he hd hc, hk⟩
end
end Go.Eng


namespace Go.Proofs.Ytdoeegfcmbcbkaa.Ct
open Go Go.Eng Tr
set_option linter.unusedVariables false
set_option maxRecDepth 100000

def lowB (c : UInt8) : UInt8 := if 65 ≤ c ∧ c ≤ 90 then c + 32 else c
def okB (c : UInt8) : Bool := (decide (97 ≤ c) && decide (c ≤ 122)) || ((decide (48 ≤ c) && decide (c ≤ 57)) || (decide (c = 45) || decide (c = 46)))
def foldB (x : ByteArray) : Option ByteArray := if 1 ≤ x.size ∧ x.size ≤ 64 ∧ (x.data.toList.all fun c => okB (lowB c)) = true then some ⟨(x.data.toList.map lowB).toArray⟩ else none
def foldR (x : ByteArray) : ByteArray × Bool := match foldB x with
  | some h => (h, true)
  | none => (⟨#[]⟩, false)
theorem u8_le {a b : UInt8} : a ≤ b ↔ (a.toNat : Int) ≤ b.toNat := by rw [UInt8.le_iff_toNat_le]; omega
theorem u8_eq {a b : UInt8} : a = b ↔ (a.toNat : Int) = b.toNat := by
  constructor
  · rintro rfl; rfl
  · intro h; exact UInt8.toNat_inj.1 (by omega)
theorem lowB_yes {c : UInt8} (h : 65 ≤ c ∧ c ≤ 90) : ((lowB c).toNat : Int) = c.toNat + 32 ∧ okB (lowB c) = true := by
  have h1 : (c.toNat : Int) ≤ 90 := u8_le.1 h.2
  have h0 : (65 : Int) ≤ c.toNat := u8_le.1 h.1
  have e : ((lowB c).toNat : Int) = c.toNat + 32 := by
    unfold lowB; rw [if_pos h, UInt8.toNat_add]
    have : (32 : UInt8).toNat = 32 := rfl
    rw [this]; omega
  refine ⟨e, ?_⟩
  have h2 : (97 : UInt8) ≤ lowB c := u8_le.2 (by rw [e]; show (97 : Int) ≤ _; omega)
  have h3 : lowB c ≤ 122 := u8_le.2 (by rw [e]; show _ ≤ (122 : Int); omega)
  simp [okB, h2, h3]
theorem lowB_no {c : UInt8} (h : ¬ (65 ≤ c ∧ c ≤ 90)) : lowB c = c := by unfold lowB; rw [if_neg h]
theorem okB_iff {c : UInt8} : okB c = true ↔ (97 ≤ (c.toNat : Int) ∧ (c.toNat : Int) ≤ 122) ∨ (48 ≤ (c.toNat : Int) ∧ (c.toNat : Int) ≤ 57) ∨ (c.toNat : Int) = 45 ∨ (c.toNat : Int) = 46 := by
  simp only [okB, Bool.or_eq_true, Bool.and_eq_true, decide_eq_true_eq, u8_le, u8_eq]
  exact Iff.rfl
def okTo (x : ByteArray) (k : Nat) : Prop := ∀ j, (h : j < x.data.toList.length) → j < k → okB (lowB x.data.toList[j]) = true
theorem okTo_succ {x : ByteArray} {k : Nat} (hk : k < x.data.toList.length) (h : okTo x k) (h' : okB (lowB x.data.toList[k]) = true) : okTo x (k + 1) := fun j hj hjk => by
  by_cases c : j = k
  · subst c; exact h'
  · exact h j hj (by omega)
theorem foldR_yes {x : ByteArray} (h1 : 1 ≤ x.size ∧ x.size ≤ 64) (h : okTo x x.size) : foldR x = (⟨(x.data.toList.map lowB).toArray⟩, true) := by
  have hl : x.data.toList.length = x.size := by rw [Array.length_toList]; rfl
  have : (x.data.toList.all fun c => okB (lowB c)) = true := List.all_eq_true.2 fun c hc => by
    obtain ⟨j, hj, rfl⟩ := List.mem_iff_getElem.1 hc
    exact h j hj (by omega)
  unfold foldR foldB; rw [if_pos ⟨h1.1, h1.2, this⟩]
theorem foldR_size {x : ByteArray} (h : ¬ (1 ≤ x.size ∧ x.size ≤ 64)) : foldR x = (⟨#[]⟩, false) := by
  unfold foldR foldB; rw [if_neg (fun h' => h ⟨h'.1, h'.2.1⟩)]
theorem foldR_bad {x : ByteArray} {k : Nat} (hk : k < x.data.toList.length) (h : okB (lowB x.data.toList[k]) = false) : foldR x = (⟨#[]⟩, false) := by
  unfold foldR foldB; rw [if_neg (fun h' => by
    have := List.all_eq_true.1 h'.2.2 _ (List.getElem_mem hk)
    rw [h] at this; cases this)]
section
variable {w : World}
def pairSB (x : ByteArray × Bool) : Value := Value.tuple #[.string x.1, .bool x.2]
theorem fold_ok (x : ByteArray) : Ans pairSB 117 #[.string x] w (foldR x) := by
  refine c117 ?_
  unfold f117
  have hl : x.data.toList.length = x.size := by rw [Array.length_toList]; rfl
  refine ⟨fun b w' => w' = w ∧ b = !decide (1 ≤ x.size ∧ x.size ≤ 64), ?_, ?_⟩
  · by_cases c : (x.size : Int) < 1
    · have h0 : ¬ (1 ≤ x.size ∧ x.size ≤ 64) := by omega
      exact iteT c ⟨rfl, by simp only [h0, decide_false, Bool.not_false]⟩
    · refine iteF c ⟨rfl, ?_⟩
      by_cases c' : x.size ≤ 64
      · have h1 : ¬ 64 < (x.size : Int) := by omega
        have h2 : 1 ≤ x.size := by omega
        simp [h1, h2, c']
      · have h1 : 64 < (x.size : Int) := by omega
        simp [h1, c']
  rintro _ w0 ⟨hw0, rfl⟩
  obtain rfl : w = w0 := hw0.symm
  by_cases c : 1 ≤ x.size ∧ x.size ≤ 64
  · refine iteF (by simp [c]) ?_
    refine rn_bytes Try.underlying9 Try.underlying187 Try.underlying5 fun b cp w1 e1 hb hB => ?_
    refine Lp.mk (fun (i : Int) w' => ∃ k : Nat, i = k ∧ k ≤ x.size ∧ Ext w w' ∧ Byt w' b 5 ((x.data.toList.take k).map lowB ++ x.data.toList.drop k) ∧ okTo x k) (fun i => x.size - i.toNat)
      ⟨0, rfl, Nat.zero_le _, e1, by simpa using hB, fun j _ h => absurd h (Nat.not_lt_zero _)⟩ ?_
    rintro i w2 K ⟨k, rfl, hk, hE, hB2, hok⟩ hK
    dsimp only at *
    by_cases hlt : k < x.size
    · refine iteT (by omega) ?_
      have hkl : k < x.data.toList.length := by omega
      have hcell : w2.cell? ((⟨b, 0, none⟩ : Addr).add k) = some (.int .u8 ((x.data.toList[k].toNat : Nat) : Int)) := by
        rw [blk_add, Nat.zero_add, hB2.cell (by simp; omega)]
        congr 3
        rw [List.getElem_append_right (by simp; omega)]
        simp only [List.length_map, List.length_take, List.getElem_drop]
        congr 2; omega
      have hset : ((x.data.toList.take k).map lowB ++ x.data.toList.drop k).set k (lowB x.data.toList[k]) = (x.data.toList.take (k + 1)).map lowB ++ x.data.toList.drop (k + 1) := by
        rw [List.take_add_one, List.getElem?_eq_getElem hkl, List.map_append, List.append_assoc]
        rw [List.set_append_right _ _ (by simp; omega)]
        congr 1
        simp only [List.length_map, List.length_take]
        rw [show k - min k x.data.toList.length = 0 by omega, List.drop_eq_getElem_cons hkl]; rfl
      have eq1 : ∀ {K : Addr → Prop}, K ((⟨b, 0, none⟩ : Addr).add k) → RnP PP Ptr (Instr.indexAt 187 (Sl.v ⟨some ⟨b, 0, none⟩, x.size, cp⟩) (.int .i64 (k : Int))) K := fun hKK =>
        ⟨_, fun w => by
          have := idx_run (P := PP) (s := ⟨some ⟨b, 0, none⟩, x.size, cp⟩) sl187 rfl hlt w
          rw [Nat.mul_one] at this; exact this, hKK⟩
      generalize hcc : x.data.toList[k] = ch at hcell hset
      refine ⟨fun _ w' => Ext w w' ∧ Byt w' b 5 ((x.data.toList.take (k + 1)).map lowB ++ x.data.toList.drop (k + 1)) ∧ okTo x (k + 1), ?_, ?_⟩
      · refine eq1 ?_
        refine rn_ld1 (x := ((ch.toNat : Nat) : Int)) one5 hcell ?_
        have fin : ∀ {R : ByteArray × Bool → World → Prop}, True := fun {R} => trivial
        refine ⟨fun b' w' => w' = w2 ∧ b' = decide (65 ≤ ch ∧ ch ≤ 90), ?_, ?_⟩
        · by_cases c1 : (65 : Int) ≤ ((ch.toNat : Nat) : Int)
          · refine iteT c1 ⟨rfl, ?_⟩
            have h1 : (65 : UInt8) ≤ ch := u8_le.2 c1
            by_cases c2 : ((ch.toNat : Nat) : Int) ≤ 90
            · have h2 : ch ≤ 90 := u8_le.2 c2
              simp only [c2, h1, h2, and_self, decide_true]
            · have h2 : ¬ ch ≤ 90 := fun h => c2 (u8_le.1 h)
              simp only [c2, h1, h2, and_false, decide_false]
          · have h1 : ¬ (65 : UInt8) ≤ ch := fun h => c1 (u8_le.1 h)
            exact iteF c1 ⟨rfl, by simp only [h1, false_and, decide_false]⟩
        rintro _ w3 ⟨hw3, rfl⟩
        obtain rfl : w2 = w3 := hw3.symm
        by_cases cu : 65 ≤ ch ∧ ch ≤ 90
        · refine iteT (by simpa using cu) ?_
          obtain ⟨hlv, hlo⟩ := lowB_yes cu
          refine eq1 ?_
          refine rn_ld1 (x := ((ch.toNat : Nat) : Int)) one5 hcell ?_
          refine eq1 ?_
          have hw8 : IntKind.u8.wrap (((ch.toNat : Nat) : Int) + 32) = (((lowB ch).toNat : Nat) : Int) := by
            rw [hlv]
            have h90 : (ch.toNat : Int) ≤ 90 := u8_le.1 cu.2
            show (((ch.toNat : Nat) : Int) + 32) % 256 = _
            omega
          rw [hw8, blk_add, Nat.zero_add]
          refine rnu_byte sz5 hB2 (by simp; omega) fun w4 c4 hB4 s4 => ?_
          rw [hset] at hB4
          exact ⟨hE.then c4 (fun b' hb' => by omega), hB4, okTo_succ hkl hok (by rw [hcc]; exact hlo)⟩
        · refine iteF (by simpa using cu) ?_
          have hlv := lowB_no cu
          have hsame : ((x.data.toList.take k).map lowB ++ x.data.toList.drop k) = (x.data.toList.take (k + 1)).map lowB ++ x.data.toList.drop (k + 1) := by
            rw [← hset, hlv]
            apply List.ext_getElem (by simp)
            intro j h1 h2
            rw [List.getElem_set]
            by_cases e : k = j
            · subst e
              rw [if_pos rfl, List.getElem_append_right (by simp; omega)]
              simp only [List.length_map, List.length_take, List.getElem_drop]
              rw [← hcc]; congr 1; omega
            · rw [if_neg e]
          refine ⟨fun b' w' => w' = w2 ∧ b' = okB ch, ?_, ?_⟩
          · have hsp := okB_iff (c := ch)
            refine ⟨fun b' w' => w' = w2 ∧ b' = decide (97 ≤ ((ch.toNat : Nat) : Int) ∧ ((ch.toNat : Nat) : Int) ≤ 122), ?_, ?_⟩
            · by_cases c1 : (97 : Int) ≤ ((ch.toNat : Nat) : Int)
              · exact iteT c1 ⟨rfl, by simp [c1]⟩
              · exact iteF c1 ⟨rfl, by simp [c1]⟩
            rintro _ w3 ⟨hw3, rfl⟩
            obtain rfl : w2 = w3 := hw3.symm
            by_cases c1 : 97 ≤ ((ch.toNat : Nat) : Int) ∧ ((ch.toNat : Nat) : Int) ≤ 122
            · refine iteT (by simpa using c1) ⟨rfl, ?_⟩
              rw [hsp.2 (.inl c1)]; simpa using c1
            refine iteF (by simpa using c1) ?_
            refine ⟨fun b' w' => w' = w2 ∧ b' = decide (48 ≤ ((ch.toNat : Nat) : Int) ∧ ((ch.toNat : Nat) : Int) ≤ 57), ?_, ?_⟩
            · by_cases c2 : (48 : Int) ≤ ((ch.toNat : Nat) : Int)
              · exact iteT c2 ⟨rfl, by simp [c2]⟩
              · exact iteF c2 ⟨rfl, by simp [c2]⟩
            rintro _ w3 ⟨hw3, rfl⟩
            obtain rfl : w2 = w3 := hw3.symm
            by_cases c2 : 48 ≤ ((ch.toNat : Nat) : Int) ∧ ((ch.toNat : Nat) : Int) ≤ 57
            · refine iteT (by simpa using c2) ⟨rfl, ?_⟩
              rw [hsp.2 (.inr (.inl c2))]; simpa using c2
            refine iteF (by simpa using c2) ?_
            have hval : ∀ d : Bool, (d = true ↔ (((ch.toNat : Nat) : Int) = 45 ∨ ((ch.toNat : Nat) : Int) = 46)) → d = okB ch := fun d hd => by
              rw [Bool.eq_iff_iff, hd, hsp]
              constructor
              · rintro (h | h)
                · exact .inr (.inr (.inl h))
                · exact .inr (.inr (.inr h))
              · rintro (h | h | h)
                · exact absurd h c1
                · exact absurd h c2
                · exact h
            by_cases c3 : ((ch.toNat : Nat) : Int) = 45
            · exact iteT c3 ⟨rfl, hval _ (by simp [c3])⟩
            · exact iteF c3 ⟨rfl, hval _ (by simp [c3])⟩
          rintro _ w3 ⟨hw3, rfl⟩
          obtain rfl : w2 = w3 := hw3.symm
          cases co : okB ch with
          | true => exact iteT rfl ⟨hE, by rw [← hsame]; exact hB2, okTo_succ hkl hok (by rw [hcc, hlv]; exact co)⟩
          | false => exact iteF (by simp) ⟨hE, (foldR_bad hkl (by rw [hcc, hlv]; exact co)).symm⟩
      · rintro _ w3 ⟨hE, hB3, hok3⟩
        rw [wrapI (x := (k : Int) + 1) (by omega) (by omega)]
        exact hK _ _ ⟨k + 1, by omega, hlt, hE, hB3, hok3⟩ (by omega)
    · refine iteF (by omega) ?_
      obtain rfl : k = x.size := by omega
      refine rn_text (l := x.data.toList.map lowB) Try.underlying187 Try.underlying5 Try.underlying9 (by rw [List.length_map]; exact hl.symm) (fun j hj => ?_) ⟨hE, (foldR_yes c hok).symm⟩
      have hj' : j < x.data.toList.length := by simpa using hj
      rw [blk_add, Nat.zero_add, hB2.cell (by simp; omega)]
      congr 3
      rw [List.getElem_append_left (by simp; omega)]
      simp
  · refine iteT (by simp only [c, decide_false, Bool.not_false]) ⟨Ext.refl _, (foldR_size c).symm⟩
end
end Go.Proofs.Ytdoeegfcmbcbkaa.Ct


namespace Go.Proofs.Ytdoeegfcmbcbkaa.Ct
open Go Go.Eng Tr
set_option linter.unusedVariables false
set_option maxRecDepth 100000

section
variable {w : World}
theorem refFold_ok (x : ByteArray) : Ans pairSB 137 #[.string x] w (foldR x) := by
  refine c137 ?_
  unfold f137
  have hl : x.data.toList.length = x.size := by rw [Array.length_toList]; rfl
  refine ⟨fun b w' => w' = w ∧ b = !decide (1 ≤ x.size ∧ x.size ≤ 64), ?_, ?_⟩
  · by_cases c : x = ⟨#[]⟩
    · refine iteT c ⟨rfl, ?_⟩
      subst c; rfl
    · have h0 : x.size ≠ 0 := fun h => c (by
        cases x with | mk d => simp only [ByteArray.mk.injEq]; exact Array.eq_empty_of_size_eq_zero h)
      refine iteF c ⟨rfl, ?_⟩
      by_cases c' : x.size ≤ 64
      · have h1 : ¬ 64 < (x.size : Int) := by omega
        have h2 : 1 ≤ x.size := by omega
        simp [h1, h2, c']
      · have h1 : 64 < (x.size : Int) := by omega
        simp [h1, c']
  rintro _ w0 ⟨hw0, rfl⟩
  obtain rfl : w = w0 := hw0.symm
  by_cases c : 1 ≤ x.size ∧ x.size ≤ 64
  · refine iteF (by simp [c]) ?_
    refine Lp.mk (fun (y : Sl × Int) w' => ∃ k : Nat, y.2 = k ∧ k ≤ x.size ∧ Ext w w' ∧ Own u8c 1 5 w.heap.size w' y.1 ((x.data.toList.take k).map lowB) ∧ okTo x k) (fun y => x.size - y.2.toNat)
      ⟨0, rfl, Nat.zero_le _, Ext.refl _, Own.nil_ _ _, fun j _ h => absurd h (Nat.not_lt_zero _)⟩ ?_
    rintro ⟨z, _⟩ w2 K ⟨k, rfl, hk, hE, hO, hok⟩ hK
    dsimp only at *
    by_cases hlt : k < x.size
    · refine iteT (by omega) ?_
      have hkl : k < x.data.toList.length := by omega
      refine rnp_byte Try.underlying9 rfl hlt ?_
      have hxk : x[k] = x.data.toList[k] := rfl
      rw [hxk]
      have hsnoc : (x.data.toList.take (k + 1)).map lowB = (x.data.toList.take k).map lowB ++ [lowB x.data.toList[k]] := by
        rw [List.take_add_one, List.getElem?_eq_getElem hkl, List.map_append]; rfl
      generalize hcc : x.data.toList[k] = ch at hsnoc
      refine ⟨fun v w' => w' = w2 ∧ v = (((lowB ch).toNat : Nat) : Int), ?_, ?_⟩
      · refine ⟨fun b' w' => w' = w2 ∧ b' = decide (65 ≤ ch ∧ ch ≤ 90), ?_, ?_⟩
        · by_cases c1 : (65 : Int) ≤ ((ch.toNat : Nat) : Int)
          · refine iteT c1 ⟨rfl, ?_⟩
            have h1 : (65 : UInt8) ≤ ch := u8_le.2 c1
            by_cases c2 : ((ch.toNat : Nat) : Int) ≤ 90
            · have h2 : ch ≤ 90 := u8_le.2 c2
              simp only [c2, h1, h2, and_self, decide_true]
            · have h2 : ¬ ch ≤ 90 := fun h => c2 (u8_le.1 h)
              simp only [c2, h1, h2, and_false, decide_false]
          · have h1 : ¬ (65 : UInt8) ≤ ch := fun h => c1 (u8_le.1 h)
            exact iteF c1 ⟨rfl, by simp only [h1, false_and, decide_false]⟩
        rintro _ w3 ⟨hw3, rfl⟩
        obtain rfl : w2 = w3 := hw3.symm
        by_cases cu : 65 ≤ ch ∧ ch ≤ 90
        · refine iteT (by simpa using cu) ⟨rfl, ?_⟩
          rw [(lowB_yes cu).1]
          have h1 : (ch.toNat : Int) ≤ 90 := u8_le.1 cu.2
          have h0 : (65 : Int) ≤ (ch.toNat : Int) := u8_le.1 cu.1
          show ((((ch.toNat : Nat) : Int) - 65) % 256 + 97) % 256 = _
          omega
        · exact iteF (by simpa using cu) ⟨rfl, by rw [lowB_no cu]⟩
      rintro _ w3 ⟨hw3, rfl⟩
      obtain rfl : w2 = w3 := hw3.symm
      generalize hd : lowB ch = dh at hsnoc
      refine ⟨fun b' w' => w' = w2 ∧ b' = !okB dh, ?_, ?_⟩
      · have hsp := okB_iff (c := dh)
        have yes : (97 ≤ ((dh.toNat : Nat) : Int) ∧ ((dh.toNat : Nat) : Int) ≤ 122) ∨ (48 ≤ ((dh.toNat : Nat) : Int) ∧ ((dh.toNat : Nat) : Int) ≤ 57) ∨ ((dh.toNat : Nat) : Int) = 45 ∨ ((dh.toNat : Nat) : Int) = 46 → (!true) = !okB dh := fun h => by rw [hsp.2 h]
        have no : ¬ (97 ≤ ((dh.toNat : Nat) : Int) ∧ ((dh.toNat : Nat) : Int) ≤ 122) → ¬ (48 ≤ ((dh.toNat : Nat) : Int) ∧ ((dh.toNat : Nat) : Int) ≤ 57) → ((dh.toNat : Nat) : Int) ≠ 45 → (!decide (((dh.toNat : Nat) : Int) = 46)) = !okB dh := fun h1 h2 h3 => by
          by_cases h4 : ((dh.toNat : Nat) : Int) = 46
          · rw [hsp.2 (.inr (.inr (.inr h4))), decide_eq_true h4]
          · have : okB dh = false := by
              cases co : okB dh with
              | false => rfl
              | true => rcases hsp.1 co with h | h | h | h <;> contradiction
            rw [this, decide_eq_false h4]
        have t46 : ((dh.toNat : Nat) : Int) ≠ 45 → ¬ (97 ≤ ((dh.toNat : Nat) : Int) ∧ ((dh.toNat : Nat) : Int) ≤ 122) → ¬ (48 ≤ ((dh.toNat : Nat) : Int) ∧ ((dh.toNat : Nat) : Int) ≤ 57) → w2 = w2 ∧ (!decide (((dh.toNat : Nat) : Int) = 46)) = !okB dh := fun h3 h1 h2 => ⟨rfl, no h1 h2 h3⟩
        have tail : ¬ (97 ≤ ((dh.toNat : Nat) : Int) ∧ ((dh.toNat : Nat) : Int) ≤ 122) → ¬ (48 ≤ ((dh.toNat : Nat) : Int) ∧ ((dh.toNat : Nat) : Int) ≤ 57) → if ((dh.toNat : Nat) : Int) = 45 then (w2 = w2 ∧ (!true) = !okB dh) else (w2 = w2 ∧ (!decide (((dh.toNat : Nat) : Int) = 46)) = !okB dh) := fun h1 h2 => by
          by_cases h3 : ((dh.toNat : Nat) : Int) = 45
          · exact iteT h3 ⟨rfl, yes (.inr (.inr (.inl h3)))⟩
          · exact iteF h3 (t46 h3 h1 h2)
        have mid : ¬ (97 ≤ ((dh.toNat : Nat) : Int) ∧ ((dh.toNat : Nat) : Int) ≤ 122) → if 48 ≤ ((dh.toNat : Nat) : Int) then (if ((dh.toNat : Nat) : Int) ≤ 57 then (w2 = w2 ∧ (!true) = !okB dh) else (if ((dh.toNat : Nat) : Int) = 45 then (w2 = w2 ∧ (!true) = !okB dh) else (w2 = w2 ∧ (!decide (((dh.toNat : Nat) : Int) = 46)) = !okB dh)))
            else (if ((dh.toNat : Nat) : Int) = 45 then (w2 = w2 ∧ (!true) = !okB dh) else (w2 = w2 ∧ (!decide (((dh.toNat : Nat) : Int) = 46)) = !okB dh)) := fun h1 => by
          by_cases h2 : 48 ≤ ((dh.toNat : Nat) : Int)
          · refine iteT h2 ?_
            by_cases h3 : ((dh.toNat : Nat) : Int) ≤ 57
            · exact iteT h3 ⟨rfl, yes (.inr (.inl ⟨h2, h3⟩))⟩
            · exact iteF h3 (tail h1 (fun h => h3 h.2))
          · exact iteF h2 (tail h1 (fun h => h2 h.1))
        by_cases h1 : 97 ≤ ((dh.toNat : Nat) : Int)
        · refine iteT h1 ?_
          by_cases h2 : ((dh.toNat : Nat) : Int) ≤ 122
          · exact iteT h2 ⟨rfl, yes (.inl ⟨h1, h2⟩)⟩
          · exact iteF h2 (mid (fun h => h2 h.2))
        · exact iteF h1 (mid (fun h => h1 h.1))
      rintro _ w3 ⟨hw3, rfl⟩
      obtain rfl : w2 = w3 := hw3.symm
      cases co : okB dh with
      | false => exact iteT rfl ⟨hE, (foldR_bad hkl (by rw [hcc, hd]; exact co)).symm⟩
      | true =>
        refine iteF (by simp) ?_
        refine New.mk fun b57 w4 e4 h57 _ _ => ?_
        refine rn_app1 (x := dh) el187 (hO.ext e4) h57 rfl rfl (oc_u8c _) (by simp; omega) (by decide) (by have := (hE.trans e4).size; omega) fun z' w5 O5 c5 n5 => ?_
        rw [wrapI (x := (k : Int) + 1) (by omega) (by omega)]
        refine hK _ _ ⟨k + 1, by dsimp only; omega, hlt, (hE.trans e4).then c5 (fun b hb => (hO.ge hb).1), by rw [hsnoc]; exact O5, okTo_succ hkl hok (by rw [hcc, hd]; exact co)⟩ (by dsimp only; omega)
    · refine iteF (by omega) ?_
      obtain rfl : k = x.size := by omega
      have ht : x.data.toList.take x.size = x.data.toList := List.take_of_length_le (by omega)
      rw [ht] at hO
      have hR := hO.rd (F := fun _ => True) (fun _ _ => trivial)
      have h0 : 0 < (x.data.toList.map lowB).length := by simp; omega
      obtain ⟨a, ha, _, _⟩ := hR.el 0 h0
      obtain ⟨za, zn, zc⟩ := z
      simp only at ha
      subst ha
      refine rn_text (l := x.data.toList.map lowB) Try.underlying187 Try.underlying5 Try.underlying9 hR.len (fun j hj => ?_) ⟨hE, (foldR_yes c hok).symm⟩
      obtain ⟨a', ha', _, hat⟩ := hR.el j hj
      cases ha'
      have := hat 0 (by simp [u8c])
      rw [add_add, Nat.mul_one, Nat.add_zero] at this
      rw [this]; rfl
  · refine iteT (by simp only [c, decide_false, Bool.not_false]) ⟨Ext.refl _, (foldR_size c).symm⟩

def starB : ByteArray := ⟨#[42]⟩
def pre2 (x : ByteArray) : Bool := decide (2 ≤ x.size) && decide (x.extract 0 2 = ⟨#[42, 46]⟩)
def hostS (x : ByteArray) : Int × ByteArray :=
  if x = starB then (2, ⟨#[]⟩)
  else if pre2 x = true then (match foldB (x.extract 2 x.size) with
    | some h => (1, h)
    | none => (3, x))
  else match foldB x with
    | some h => (0, h)
    | none => (3, x)
def pairIS (x : Int × ByteArray) : Value := Value.tuple #[.int .i64 x.1, .string x.2]
theorem prefixV_ok (x y : ByteArray) : Ans Value.bool 116 #[.string x, .string y] w (decide (y.size ≤ x.size) && decide (x.extract 0 y.size = y)) := by
  refine c116 ?_
  unfold f116
  refine Cal.mono (K := fun r w' => Ext w w' ∧ r = (decide (y.size ≤ x.size) && decide (x.extract 0 y.size = y))) ?_ (fun _ _ h => h)
  refine c138 ?_
  unfold f138
  refine Jn.dup ?_
  by_cases c : (y.size : Int) ≤ (x.size : Int)
  · refine iteT c ?_
    exact rnp_str_to Try.underlying9 rfl (by omega) ⟨Ext.refl _, by rw [decide_eq_true (by omega : y.size ≤ x.size), Bool.true_and]⟩
  · exact iteF c ⟨Ext.refl _, by rw [decide_eq_false (by omega : ¬ y.size ≤ x.size), Bool.false_and]⟩
theorem foldR_none {x : ByteArray} (h : foldB x = none) : foldR x = (⟨#[]⟩, false) := by unfold foldR; rw [h]
theorem foldR_some {x h : ByteArray} (hx : foldB x = some h) : foldR x = (h, true) := by unfold foldR; rw [hx]
theorem host_ok (x : ByteArray) (hm : x.size ≤ maxLen) : Ans pairIS 86 #[.string x] w (hostS x) := by
  refine c86 ?_
  unfold f86
  unfold maxLen at hm
  by_cases c0 : x = starB
  · refine ⟨fun y w' => False, ?_, fun _ _ h => h.elim⟩
    refine iteT c0 ⟨Ext.refl _, ?_⟩
    unfold hostS; rw [if_pos c0]
  refine ⟨fun y w' => Ext w w' ∧ y = if pre2 x = true then (1, x.extract 2 x.size) else (0, x), ?_, ?_⟩
  · refine iteF c0 ?_
    refine (prefixV_ok x ⟨#[42, 46]⟩).mono ?_
    rintro _ w1 ⟨e1, rfl⟩
    have hp : (decide ((⟨#[42, 46]⟩ : ByteArray).size ≤ x.size) && decide (x.extract 0 (⟨#[42, 46]⟩ : ByteArray).size = ⟨#[42, 46]⟩)) = pre2 x := rfl
    rw [hp]
    cases c : pre2 x with
    | true =>
      refine iteT rfl ?_
      refine Dr.mk fun w2 e2 _ => ?_
      have h2 : 2 ≤ x.size := by
        unfold pre2 at c
        simp only [Bool.and_eq_true, decide_eq_true_eq] at c; exact c.1
      exact rnp_str_from Try.underlying9 (k := 2) rfl h2 ⟨e1.trans e2, rfl⟩
    | false => exact iteF (by simp) ⟨e1, rfl⟩
  rintro _ w1 ⟨e1, rfl⟩
  cases c : pre2 x with
  | true =>
    dsimp only [if_true]
    rw [if_pos rfl]
    refine (fold_ok (x.extract 2 x.size)).mono ?_
    rintro _ w2 ⟨e2, rfl⟩
    cases hf : foldB (x.extract 2 x.size) with
    | some h => rw [foldR_some hf]; exact iteT rfl ⟨e1.trans e2, by unfold hostS; rw [if_neg c0, if_pos c, hf]⟩
    | none => rw [foldR_none hf]; exact iteF (by simp) ⟨e1.trans e2, by unfold hostS; rw [if_neg c0, if_pos c, hf]⟩
  | false =>
    rw [if_neg (by simp)]
    refine (fold_ok x).mono ?_
    rintro _ w2 ⟨e2, rfl⟩
    cases hf : foldB x with
    | some h => rw [foldR_some hf]; exact iteT rfl ⟨e1.trans e2, by unfold hostS; rw [if_neg c0, if_neg (by simp [c]), hf]⟩
    | none => rw [foldR_none hf]; exact iteF (by simp) ⟨e1.trans e2, by unfold hostS; rw [if_neg c0, if_neg (by simp [c]), hf]⟩
theorem foldB_star {x : ByteArray} (h : x = ⟨#[42, 46]⟩) : foldB x = none ∧ foldB (x.extract 2 x.size) = none := by
  subst h; exact ⟨by decide +kernel, by decide +kernel⟩
theorem refSort_ok (x : ByteArray) (hm : x.size ≤ maxLen) : Ans pairIS 114 #[.string x] w ((hostS x).1 + 1, (hostS x).2) := by
  refine c114 ?_
  unfold f114
  unfold maxLen at hm
  by_cases c0 : x = starB
  · refine iteT c0 ⟨Ext.refl _, ?_⟩
    unfold hostS; rw [if_pos c0]; rfl
  refine iteF c0 ?_
  refine ⟨fun b w' => Ext w w' ∧ b = (decide (2 < x.size) && pre2 x), ?_, ?_⟩
  · by_cases c : 2 < (x.size : Int)
    · refine iteT c ?_
      refine rnp_str_to Try.underlying9 (k := 2) rfl (by omega) ⟨Ext.refl _, ?_⟩
      have h1 : 2 ≤ x.size := by omega
      have h2 : 2 < x.size := by omega
      simp [pre2, h1, h2]
    · have h2 : ¬ 2 < x.size := by omega
      exact iteF c ⟨Ext.refl _, by simp [h2]⟩
  rintro _ w1 ⟨e1, rfl⟩
  by_cases c : 2 < x.size ∧ pre2 x = true
  · refine iteT (by simp [c.1, c.2]) ?_
    refine rnp_str_from Try.underlying9 (k := 2) rfl (by omega) ?_
    refine (refFold_ok (x.extract 2 x.size)).mono ?_
    rintro _ w2 ⟨e2, rfl⟩
    cases hf : foldB (x.extract 2 x.size) with
    | some h => rw [foldR_some hf]; exact iteT rfl ⟨e1.trans e2, by unfold hostS; rw [if_neg c0, if_pos c.2, hf]; rfl⟩
    | none => rw [foldR_none hf]; exact iteF (by simp) ⟨e1.trans e2, by unfold hostS; rw [if_neg c0, if_pos c.2, hf]; rfl⟩
  · refine iteF (by simpa using c) ?_
    refine (refFold_ok x).mono ?_
    rintro _ w2 ⟨e2, rfl⟩
    by_cases cp : pre2 x = true
    · have hx : x = ⟨#[42, 46]⟩ := by
        have h0 := cp
        unfold pre2 at h0
        simp only [Bool.and_eq_true, decide_eq_true_eq] at h0
        have hs : x.size = 2 := by
          have := h0.1
          by_cases h : 2 < x.size
          · exact absurd ⟨h, cp⟩ c
          · omega
        have : x.extract 0 2 = x := by rw [← hs]; simp
        rw [← this]; exact h0.2
      obtain ⟨f1, f2⟩ := foldB_star hx
      rw [foldR_none f1]
      exact iteF (by simp) ⟨e1.trans e2, by unfold hostS; rw [if_neg c0, if_pos cp, f2]; rfl⟩
    · cases hf : foldB x with
      | some h => rw [foldR_some hf]; exact iteT rfl ⟨e1.trans e2, by unfold hostS; rw [if_neg c0, if_neg cp, hf]; rfl⟩
      | none => rw [foldR_none hf]; exact iteF (by simp) ⟨e1.trans e2, by unfold hostS; rw [if_neg c0, if_neg cp, hf]; rfl⟩

def cmpS (a b : ByteArray) : Int := if sLt a b = true then -1 else if sLt b a = true then 1 else 0
def ordK (p q : Int × ByteArray) : Int :=
  if p.1 < q.1 then -1 else if q.1 < p.1 then 1
  else if p.1 = 1 ∧ q.2.size < p.2.size then -1 else if p.1 = 1 ∧ p.2.size < q.2.size then 1
  else cmpS p.2 q.2
def ordS (a b : ByteArray) : Int := ordK (hostS a) (hostS b)
theorem cmpStr_ok (a b : ByteArray) : Ans (Value.int .i64) 89 #[.string a, .string b] w (cmpS a b) := by
  refine c89 ?_
  unfold f89
  refine (nan_string a).mono ?_; rintro _ w1 ⟨e1, rfl⟩
  refine (nan_string b).mono ?_; rintro _ w2 ⟨e2, rfl⟩
  refine iteF (by simp) (iteF (by simp) ?_)
  have e := e1.trans e2
  unfold cmpS
  cases h : sLt a b with
  | true => exact iteT rfl ⟨e, rfl⟩
  | false =>
    refine iteF (by simp) ?_
    cases h' : sLt b a with
    | true =>
      have hne : a ≠ b := fun h0 => by subst h0; rw [sLt_irrefl] at h'; cases h'
      exact iteT (by simp [hne]) ⟨e, rfl⟩
    | false =>
      have := sLt_total h h'
      exact iteF (by simp [this]) ⟨e, rfl⟩
theorem hostS_rng (x : ByteArray) : 0 ≤ (hostS x).1 ∧ (hostS x).1 ≤ 3 ∧ (hostS x).2.size ≤ max x.size 64 := by
  have hf : ∀ {y h : ByteArray}, foldB y = some h → h.size ≤ 64 := fun {y h} hy => by
    unfold foldB at hy
    split at hy
    · rename_i hh
      cases hy
      have : (y.data.toList.map lowB).length = y.size := by simp
      show ((y.data.toList.map lowB).toArray).size ≤ 64
      rw [List.size_toArray, this]; exact hh.2.1
    · cases hy
  unfold hostS
  split
  · exact ⟨by dsimp only; omega, by dsimp only; omega, Nat.zero_le _⟩
  · split
    · split
      · rename_i h hh; have := hf hh; exact ⟨by dsimp only; omega, by dsimp only; omega, by dsimp only; omega⟩
      · exact ⟨by dsimp only; omega, by dsimp only; omega, by dsimp only; omega⟩
    · split
      · rename_i h hh; have := hf hh; exact ⟨by dsimp only; omega, by dsimp only; omega, by dsimp only; omega⟩
      · exact ⟨by dsimp only; omega, by dsimp only; omega, by dsimp only; omega⟩
theorem or3_ok {b : Nat} {x y z : Int} (hb : Blk w b 3 [.int .i64 x, .int .i64 y, .int .i64 z]) : Ans (Value.int .i64) 88 #[Sl.v ⟨some ⟨b, 0, none⟩, 3, 3⟩] w (if x ≠ 0 then x else if y ≠ 0 then y else z) := by
  refine c88 ?_
  unfold f88
  refine Lp.mk (fun (i : Int) w' => ∃ k : Nat, i = k ∧ k ≤ 3 ∧ w' = w ∧ (0 < k → x = 0) ∧ (1 < k → y = 0) ∧ (2 < k → z = 0)) (fun i => 3 - i.toNat) ⟨0, rfl, by omega, rfl, fun h => by omega, fun h => by omega, fun h => by omega⟩ ?_
  rintro i w0 K ⟨k, rfl, hk, hw0, h0, h1, h2⟩ hK
  obtain rfl : w = w0 := hw0.symm
  by_cases hlt : k < 3
  · refine iteT (by dsimp only; omega) ?_
    refine rnp_own sl77 hlt rfl ?_
    have hc := hb.cell (i := k) (by simpa using hlt)
    rw [wrapI (x := (k : Int) + 1) (by omega) (by omega)]
    rcases (by omega : k = 0 ∨ k = 1 ∨ k = 2) with rfl | rfl | rfl
    · refine rn_ld1 (x := x) one3 hc ?_
      by_cases c : x = 0
      · exact iteF (by simpa using c) (hK _ _ ⟨1, rfl, by omega, rfl, fun _ => c, fun h => by omega, fun h => by omega⟩ (by decide))
      · exact iteT c ⟨Ext.refl _, by rw [if_pos c]⟩
    · have hx := h0 (by omega)
      refine rn_ld1 (x := y) one3 hc ?_
      by_cases c : y = 0
      · exact iteF (by simpa using c) (hK _ _ ⟨2, rfl, by omega, rfl, fun _ => hx, fun _ => c, fun h => by omega⟩ (by decide))
      · exact iteT c ⟨Ext.refl _, by rw [if_neg (by simpa using hx), if_pos c]⟩
    · have hx := h0 (by omega); have hy := h1 (by omega)
      refine rn_ld1 (x := z) one3 hc ?_
      by_cases c : z = 0
      · exact iteF (by simpa using c) (hK _ _ ⟨3, rfl, by omega, rfl, fun _ => hx, fun _ => hy, fun _ => c⟩ (by decide))
      · exact iteT c ⟨Ext.refl _, by rw [if_neg (by simpa using hx), if_neg (by simpa using hy)]⟩
  · obtain rfl : k = 3 := by omega
    have hx := h0 (by omega); have hy := h1 (by omega); have hz := h2 (by omega)
    refine iteF (by dsimp only; omega) ⟨Ext.refl _, by rw [if_neg (by simpa using hx), if_neg (by simpa using hy)]; exact hz.symm⟩
theorem hostOrder_ok (a b : ByteArray) (ha : a.size ≤ maxLen) (hb : b.size ≤ maxLen) : Ans (Value.int .i64) 40 #[.string a, .string b] w (ordS a b) := by
  refine c40 ?_
  unfold f40
  refine (host_ok a ha).mono ?_; rintro _ w1 ⟨e1, rfl⟩
  refine (host_ok b hb).mono ?_; rintro _ w2 ⟨e2, rfl⟩
  have E2 := e1.trans e2
  unfold ordS
  generalize hostS a = p
  generalize hostS b = q
  refine ⟨fun y w' => Ext w w' ∧ y = if p.1 = 1 then (if (q.2.size : Int) < p.2.size then -1 else if (p.2.size : Int) < q.2.size then 1 else 0) else 0, ?_, ?_⟩
  · by_cases c : p.1 = 1
    · refine iteT c ?_
      refine (cmpInt_ok _ _).mono ?_; rintro _ w3 ⟨e3, rfl⟩
      exact ⟨E2.trans e3, by rw [if_pos c]⟩
    · exact iteF c ⟨E2, by rw [if_neg c]⟩
  rintro L w3 ⟨e3, hL⟩
  refine ⟨fun y w' => w' = w3 ∧ y = if p.1 = q.1 then L else 0, ?_, ?_⟩
  · by_cases c : p.1 = q.1
    · exact iteF (by simpa using c) ⟨rfl, by rw [if_pos c]⟩
    · exact iteT c ⟨rfl, by rw [if_neg c]⟩
  rintro M w4 ⟨hw4, hM⟩
  obtain rfl : w3 = w4 := hw4.symm
  refine (cmpInt_ok _ _).mono ?_; rintro _ w4 ⟨e4, rfl⟩
  refine (cmpStr_ok _ _).mono ?_; rintro _ w5 ⟨e5, rfl⟩
  refine New.mk fun b37 w6 e6 h37 _ _ => ?_
  refine (or3_ok h37).mono ?_
  rintro _ w7 ⟨e7, rfl⟩
  refine ⟨(((e3.trans e4).trans e5).trans e6).trans e7, ?_⟩
  unfold ordK
  by_cases c1 : p.1 < q.1
  · rw [if_pos c1, if_pos c1, if_pos (by decide)]
  · by_cases c2 : q.1 < p.1
    · rw [if_neg c1, if_pos c2, if_neg c1, if_pos c2, if_pos (by decide)]
    · have c3 : p.1 = q.1 := by omega
      rw [if_pos c3] at hM
      subst hM
      rw [if_neg c1, if_neg c2, if_neg c1, if_neg c2, if_neg (by decide)]
      by_cases c4 : p.1 = 1
      · rw [if_pos c4] at hL
        by_cases c5 : q.2.size < p.2.size
        · rw [if_pos (by omega)] at hL
          rw [hL, if_pos (by decide), if_pos ⟨c4, c5⟩]
        · rw [if_neg (by omega)] at hL
          have n5 : ¬ (p.1 = 1 ∧ q.2.size < p.2.size) := fun h => c5 h.2
          by_cases c6 : p.2.size < q.2.size
          · rw [if_pos (by omega)] at hL
            rw [hL, if_pos (by decide), if_neg n5, if_pos ⟨c4, c6⟩]
          · rw [if_neg (by omega)] at hL
            have n6 : ¬ (p.1 = 1 ∧ p.2.size < q.2.size) := fun h => c6 h.2
            rw [hL, if_neg (by decide), if_neg n5, if_neg n6]
      · rw [if_neg c4] at hL
        have n5 : ¬ (p.1 = 1 ∧ q.2.size < p.2.size) := fun h => c4 h.1
        have n6 : ¬ (p.1 = 1 ∧ p.2.size < q.2.size) := fun h => c4 h.1
        rw [hL, if_neg (by decide), if_neg n5, if_neg n6]
end
end Go.Proofs.Ytdoeegfcmbcbkaa.Ct


namespace Go.Proofs.Ytdoeegfcmbcbkaa.Ct
open Go Go.Eng Tr
set_option linter.unusedVariables false
set_option maxRecDepth 100000

def CmpHost (Q : THost → Prop) (lt : THost → THost → Bool) (fv : Value) : Prop :=
  ∀ (a b : THost) (w : World), Q a → Q b → CalV PP (Value.int .i64) fv #[a.v, b.v] w fun x w' => Ext w w' ∧ decide (x < 0) = lt a b
section
variable {w : World} {B n : Nat} {s : Sl} {g : Nat → THost × Nat} {Q : THost → Prop} {lt : THost → THost → Bool} {fv : Value}
theorem ocHost (x : THost) : ∀ u ∈ THost.cells x, u.oneCell' = true := by simp [THost.cells, Value.oneCell', Sl.v]
def SortsHost (B n a b : Nat) (s : Sl) (g : Nat → THost × Nat) (w : World) (p : (Nat → THost × Nat) → Prop) (w' : World) : Prop :=
  Chg (own? s) w w' ∧ ∃ g', Rea a b g g' ∧ Own THost.cells 4 59 B w' s (tab n g') ∧ p g'
theorem Own.exchangeHost {i j : Int} {p q : Nat} {K : World → Prop} (hO : Own THost.cells 4 59 B w s (tab n g)) (hp : p < n) (hq : q < n) (hi : i = p) (hj : j = q)
    (hK : ∀ w', Chg (own? s) w w' → Own THost.cells 4 59 B w' s (tab n (swp g p q)) → K w') :
    RnP PP Ptr (Instr.indexAt 51 (Sl.v s) (.int .i64 i)) fun t51 => RnU PP (Instr.storeAt 59 (Ptr t51) (THost.v (g q).1)) w fun w =>
      RnP PP Ptr (Instr.indexAt 51 (Sl.v s) (.int .i64 j)) fun t52 => RnU PP (Instr.storeAt 59 (Ptr t52) (THost.v (g p).1)) w K := by
  refine rnp_lay (x := g q) sl51 hO hp hi sz59 rfl rfl (ocHost _) fun w1 c1 O1 _ => ?_
  refine rnp_lay (x := g p) sl51 O1 hq hj sz59 rfl rfl (ocHost _) fun w2 c2 O2 _ => hK w2 (c1.trans c2) ?_
  have e : (fun j => if j = q then g p else if j = p then g q else g j) = swp g p q := by
    funext k; unfold swp
    by_cases h1 : k = q
    · subst h1
      by_cases h2 : k = p
      · subst h2; simp
      · rw [if_pos rfl, if_neg h2, if_pos rfl]
    · rw [if_neg h1]
      by_cases h2 : k = p
      · rw [if_pos h2, if_pos h2]
      · rw [if_neg h2, if_neg h2, if_neg h1]
  rw [e] at O2; exact O2
theorem insertionHost_ok (hc : CmpHost Q lt fv) (hwo : WO lt) {a b : Nat} (hn : n ≤ 70368744177664) (hab : a ≤ b) (hb : b ≤ n) (hO : Own THost.cells 4 59 B w s (tab n g)) (hQ : ∀ i, i < n → Q (g i).1)
    (htag : ∀ i j, a ≤ i → i < j → j < b → (g i).2 < (g j).2) :
    Cal PP (fun _ : Unit => Value.tuple #[]) 135 #[s.v, .int .i64 (a : Int), .int .i64 (b : Int), fv] w fun _ w' => SortsHost B n a b s g w (Srt (Tg lt) a b) w' := by
  refine c135 ?_
  unfold f135
  rw [wrapI (x := (a : Int) + 1) (by omega) (by omega)]
  refine Lp.mk (fun (i : Int) w' => ∃ k : Nat, i = k ∧ a < k ∧ (k ≤ b ∨ k = a + 1) ∧ Chg (own? s) w w' ∧ ∃ g', Rea a (min k b) g g' ∧ Own THost.cells 4 59 B w' s (tab n g') ∧ Srt (Tg lt) a (min k b) g') (fun i => b - i.toNat)
    ⟨a + 1, by omega, by omega, .inr rfl, Chg.refl _ _, g, Rea.refl _ _ _, hO, fun i j h1 h2 h3 => by omega⟩ ?_
  rintro i w1 K ⟨k, rfl, hak, hkb, hC, g1, hr, hO1, hs1⟩ hK
  by_cases hlt : k < b
  · rw [if_pos (by omega)]
    rw [Nat.min_eq_left (by omega)] at hr hs1
    have hQ1 : ∀ i, i < n → Q (g1 i).1 := hr.allN (p := fun x => Q x.1) (by omega) hQ
    have hx : g1 k = g k := hr.out (by omega)
    have hlow : ∀ i, a ≤ i → i < k → (g1 i).2 < (g k).2 := hr.all (p := fun x => x.2 < (g k).2) fun i h1 h2 => htag i k h1 h2 hlt
    refine Lp.mk (fun (j : Int) w' => ∃ q : Nat, j = q ∧ a ≤ q ∧ q ≤ k ∧ Chg (own? s) w w' ∧ ∃ g', Rea a (k + 1) g g' ∧ Own THost.cells 4 59 B w' s (tab n g') ∧ g' q = g k ∧
        (∀ i j, a ≤ i → i < j → j ≤ k → i ≠ q → j ≠ q → Tg lt (g' i) (g' j)) ∧ (∀ j, q < j → j ≤ k → Tg lt (g k) (g' j)) ∧ ∀ i, a ≤ i → i ≤ k → i ≠ q → (g' i).2 < (g k).2) (fun j => j.toNat)
      ⟨k, rfl, by omega, Nat.le_refl _, hC, g1, hr.mono (Nat.le_refl _) (by omega), hO1, hx, fun i j h1 h2 h3 h4 h5 => hs1 i j h1 h2 (by omega), fun j h1 h2 => by omega, fun i h1 h2 h3 => hlow i h1 (by omega)⟩ ?_
    clear hC hr hO1 hs1 hQ1 hx hlow
    rintro j w2 K2 ⟨q, rfl, haq, hqk, hC, g2, hr, hO2, hx, hso, hgt, hlow⟩ hK2
    have hQ2 : ∀ i, i < n → Q (g2 i).1 := hr.allN (p := fun x => Q x.1) (by omega) hQ
    refine ⟨fun x w' => Ext w2 w' ∧ x = (decide (a < q) && lt (g2 q).1 (g2 (q - 1)).1), ?_, ?_⟩
    · refine Dr.mk fun w3 e3 _ => ?_
      by_cases haq' : a < q
      · refine iteT (by omega) ?_
        rw [wrapI (x := (q : Int) - 1) (by omega) (by omega)]
        refine rnp_row sl51 (hO2.ext e3) (k := q) (by omega) rfl fun p hp => ?_
        refine rnl_ldN (x := (g2 q).1) many59 hp rfl rfl ?_
        refine rnp_row sl51 (hO2.ext e3) (k := q - 1) (by omega) (by omega) fun p hp => ?_
        refine rnl_ldN (x := (g2 (q - 1)).1) many59 hp rfl rfl ?_
        obtain ⟨f, fi, ca, e1, e2, hcal⟩ := hc (g2 q).1 (g2 (q - 1)).1 w3 (hQ2 q (by omega)) (hQ2 (q - 1) (by omega))
        refine ⟨f, fi, ca, e1, e2, hcal.mono ?_⟩
        rintro x w4 ⟨e4, hx⟩
        exact ⟨e3.trans e4, by rw [hx]; simp [haq']⟩
      · exact iteF (by omega) ⟨e3, by simp [haq']⟩
    rintro _ w3 ⟨e3, rfl⟩
    replace hC := hC.thenE e3; replace hO2 := hO2.ext e3
    by_cases hc1 : a < q ∧ lt (g2 q).1 (g2 (q - 1)).1 = true
    · refine iteT (by simp [hc1]) ?_
      refine Dr.mk fun w4 e4 _ => ?_
      replace hC := hC.thenE e4; replace hO2 := hO2.ext e4
      rw [wrapI (x := (q : Int) - 1) (by omega) (by omega)]
      refine rnp_row sl51 hO2 (k := q - 1) (by omega) (by omega) fun p hp => ?_
      refine rnl_ldN (x := (g2 (q - 1)).1) many59 hp rfl rfl ?_
      refine rnp_row sl51 hO2 (k := q) (by omega) rfl fun p hp => ?_
      refine rnl_ldN (x := (g2 q).1) many59 hp rfl rfl ?_
      refine Own.exchangeHost hO2 (p := q) (q := q - 1) (by omega) (by omega) rfl (by omega) fun w5 c5 O5 => ?_
      have hv : ∀ i, swp g2 q (q - 1) i = if i = q then g2 (q - 1) else if i = q - 1 then g k else g2 i := fun i => by unfold swp; rw [hx]
      have ht : Tg lt (g k) (g2 (q - 1)) := by rw [← hx]; exact .inl hc1.2
      refine hK2 _ _ ⟨q - 1, by omega, by omega, by omega, hC.trans c5, swp g2 q (q - 1), hr.trans (Rea.swp ⟨by omega, by omega⟩ ⟨by omega, by omega⟩), O5, ?_, ?_, ?_, ?_⟩ (by omega)
      · rw [hv, if_neg (by omega), if_pos rfl]
      · intro i j h1 h2 h3 h4 h5
        have e1 : ∀ i, i ≠ q - 1 → ∃ i', swp g2 q (q - 1) i = g2 i' ∧ (i = q → i' = q - 1) ∧ (i ≠ q → i' = i) := fun i hi => by
          by_cases c : i = q
          · exact ⟨q - 1, by rw [hv, if_pos c], fun _ => rfl, fun h => absurd c h⟩
          · exact ⟨i, by rw [hv, if_neg c, if_neg hi], fun h => absurd h c, fun _ => rfl⟩
        obtain ⟨i', ei, hi1, hi2⟩ := e1 i h4
        obtain ⟨j', ej, hj1, hj2⟩ := e1 j h5
        rw [ei, ej]
        by_cases ci : i = q <;> by_cases cj : j = q
        · omega
        · rw [hi1 ci, hj2 cj]; exact hso (q - 1) j (by omega) (by omega) h3 (by omega) cj
        · rw [hi2 ci, hj1 cj]; exact hso i (q - 1) h1 (by omega) (by omega) ci (by omega)
        · rw [hi2 ci, hj2 cj]; exact hso i j h1 h2 h3 ci cj
      · intro j h1 h2
        rw [hv]
        by_cases c : j = q
        · rw [if_pos c]; exact ht
        · rw [if_neg c, if_neg (by omega)]; exact hgt j (by omega) h2
      · intro i h1 h2 h3
        rw [hv]
        by_cases c : i = q
        · rw [if_pos c]; exact hlow (q - 1) (by omega) (by omega) (by omega)
        · rw [if_neg c, if_neg h3]; exact hlow i h1 h2 c
    · have hno : a < q → lt (g2 q).1 (g2 (q - 1)).1 = false := fun h => by
        cases c : lt (g2 q).1 (g2 (q - 1)).1 with
        | false => rfl
        | true => exact absurd ⟨h, c⟩ hc1
      refine iteF (by
        by_cases h : a < q
        · simp [h, hno h]
        · simp [h]) ?_
      rw [wrapI (x := (k : Int) + 1) (by omega) (by omega)]
      refine hK _ _ ⟨k + 1, by omega, by omega, .inl hlt, hC, g2, by rw [Nat.min_eq_left (by omega)]; exact hr, hO2, ?_⟩ (by omega)
      rw [Nat.min_eq_left (by omega)]
      -- what lies ahead of the one that was put is not greater
      have hbelow : ∀ i, a ≤ i → i < q → Tg lt (g2 i) (g k) := fun i h1 h2 => by
        have hl := hno (by omega)
        rw [hx] at hl
        have ht : Tg lt (g2 (q - 1)) (g k) := (Tg.late hwo (hlow (q - 1) (by omega) (by omega) (by omega))).2 hl
        by_cases c : i = q - 1
        · rw [c]; exact ht
        · exact Tg.tr hwo (hso i (q - 1) h1 (by omega) (by omega) (by omega) (by omega)) ht
      intro i j h1 h2 h3
      by_cases ci : i = q
      · subst ci; rw [hx]; exact hgt j h2 (by omega)
      · by_cases cj : j = q
        · subst cj; rw [hx]; exact hbelow i h1 h2
        · exact hso i j h1 h2 (by omega) ci cj
  · rw [if_neg (by omega)]
    refine ⟨hC, g1, ?_, hO1, ?_⟩
    · exact hr.mono (Nat.le_refl _) (Nat.min_le_right _ _)
    · by_cases h : k ≤ b
      · rw [Nat.min_eq_right (by omega)] at hs1; exact hs1
      · rw [Nat.min_eq_right (by omega)] at hs1; exact hs1
theorem swapRangeHost_ok {a b m : Nat} (hn : n ≤ 70368744177664) (hab : a + m ≤ b) (hb : b + m ≤ n) (hO : Own THost.cells 4 59 B w s (tab n g)) :
    Cal PP (fun _ : Unit => Value.tuple #[]) 164 #[s.v, .int .i64 (a : Int), .int .i64 (b : Int), .int .i64 (m : Int), fv] w fun _ w' =>
      SortsHost B n a (b + m) s g w (fun g' => ∀ i, g' i = if a ≤ i ∧ i < a + m then g (i + (b - a)) else if b ≤ i ∧ i < b + m then g (i - (b - a)) else g i) w' := by
  refine c164 ?_
  unfold f164
  refine Lp.mk (fun (i : Int) w' => ∃ k : Nat, i = k ∧ k ≤ m ∧ Chg (own? s) w w' ∧ ∃ g', Rea a (b + m) g g' ∧ Own THost.cells 4 59 B w' s (tab n g') ∧
      ∀ i, g' i = if a ≤ i ∧ i < a + k then g (i + (b - a)) else if b ≤ i ∧ i < b + k then g (i - (b - a)) else g i) (fun i => m - i.toNat)
    ⟨0, rfl, Nat.zero_le _, Chg.refl _ _, g, Rea.refl _ _ _, hO, fun i => by rw [if_neg (by omega), if_neg (by omega)]⟩ ?_
  rintro i w1 K ⟨k, rfl, hk, hC, g1, hr, hO1, hv⟩ hK
  by_cases hlt : k < m
  · rw [if_pos (by omega)]
    refine Dr.mk fun w2 e2 _ => ?_
    replace hC := hC.thenE e2; replace hO1 := hO1.ext e2
    rw [wrapI (x := (b : Int) + k) (by omega) (by omega), wrapI (x := (a : Int) + k) (by omega) (by omega)]
    refine rnp_row sl51 hO1 (k := b + k) (by omega) (by omega) fun p hp => ?_
    refine rnl_ldN (x := (g1 (b + k)).1) many59 hp rfl rfl ?_
    refine rnp_row sl51 hO1 (k := a + k) (by omega) (by omega) fun p hp => ?_
    refine rnl_ldN (x := (g1 (a + k)).1) many59 hp rfl rfl ?_
    refine Own.exchangeHost hO1 (p := a + k) (q := b + k) (by omega) (by omega) (by omega) (by omega) fun w3 c3 O3 => ?_
    rw [wrapI (x := (k : Int) + 1) (by omega) (by omega)]
    refine hK _ _ ⟨k + 1, by omega, hlt, hC.trans c3, swp g1 (a + k) (b + k), hr.trans (Rea.swp ⟨by omega, by omega⟩ ⟨by omega, by omega⟩), O3, fun i => ?_⟩ (by omega)
    unfold swp
    by_cases h1 : i = a + k
    · subst h1
      rw [if_pos rfl, if_pos (by omega), hv, if_neg (by omega), if_neg (by omega)]
      congr 1; omega
    · by_cases h2 : i = b + k
      · subst h2
        rw [if_neg h1, if_pos rfl, if_neg (by omega), if_pos (by omega), hv, if_neg (by omega), if_neg (by omega)]
        congr 1; omega
      · rw [if_neg h1, if_neg h2, hv]
        by_cases h3 : a ≤ i ∧ i < a + k
        · have e1 : a ≤ i ∧ i < a + (k + 1) := by omega
          rw [if_pos h3, if_pos e1]
        · have e1 : ¬ (a ≤ i ∧ i < a + (k + 1)) := by omega
          rw [if_neg h3, if_neg e1]
          by_cases h4 : b ≤ i ∧ i < b + k
          · have e2 : b ≤ i ∧ i < b + (k + 1) := by omega
            rw [if_pos h4, if_pos e2]
          · have e2 : ¬ (b ≤ i ∧ i < b + (k + 1)) := by omega
            rw [if_neg h4, if_neg e2]
  · rw [if_neg (by omega)]
    obtain rfl : k = m := by omega
    exact ⟨hC, g1, hr, hO1, hv⟩
theorem rotateHost_ok {a m b : Nat} (hn : n ≤ 70368744177664) (ham : a < m) (hmb : m < b) (hb : b ≤ n) (hO : Own THost.cells 4 59 B w s (tab n g)) :
    Cal PP (fun _ : Unit => Value.tuple #[]) 155 #[s.v, .int .i64 (a : Int), .int .i64 (m : Int), .int .i64 (b : Int), fv] w fun _ w' =>
      SortsHost B n a b s g w (fun g' => ∀ i, g' i = if a ≤ i ∧ i < a + (b - m) then g (i + (m - a)) else if a + (b - m) ≤ i ∧ i < b then g (i - (b - m)) else g i) w' := by
  refine c155 ?_
  unfold f155
  rw [wrapI (x := (m : Int) - a) (by omega) (by omega), wrapI (x := (b : Int) - m) (by omega) (by omega)]
  -- what is left to be turned: i of them ahead of m, j of them from m on
  refine Lp.mk (fun (y : Int × Int) w' => ∃ p q : Nat, y.1 = p ∧ y.2 = q ∧ 0 < p ∧ 0 < q ∧ a ≤ m - p ∧ p ≤ m ∧ m + q ≤ b ∧ Chg (own? s) w w' ∧ ∃ g', Rea a b g g' ∧ Own THost.cells 4 59 B w' s (tab n g') ∧
      ∀ i, (if a ≤ i ∧ i < a + (b - m) then g (i + (m - a)) else if a + (b - m) ≤ i ∧ i < b then g (i - (b - m)) else g i) =
        if m - p ≤ i ∧ i < m - p + q then g' (i + p) else if m - p + q ≤ i ∧ i < m + q then g' (i - q) else g' i) (fun y => y.1.toNat + y.2.toNat)
    ⟨m - a, b - m, by omega, by omega, by omega, by omega, by omega, by omega, by omega, Chg.refl _ _, g, Rea.refl _ _ _, hO, fun i => by
      have e1 : m - (m - a) = a := by omega
      have e2 : m + (b - m) = b := by omega
      rw [e1, e2]⟩ ?_
  rintro ⟨_, _⟩ w1 K ⟨p, q, rfl, rfl, hp0, hq0, hap, hpm, hqb, hC, g1, hr, hO1, hv⟩ hK
  dsimp only at *
  by_cases hne : p = q
  · subst hne
    refine iteF (by simp) ?_
    rw [wrapI (x := (m : Int) - p) (by omega) (by omega), show (m : Int) - p = ((m - p : Nat) : Int) by omega]
    refine (swapRangeHost_ok (fv := fv) hn (a := m - p) (b := m) (m := p) (by omega) (by omega) hO1).mono ?_
    rintro _ w2 ⟨c2, g2, hr2, hO2, hv2⟩
    refine ⟨hC.trans c2, g2, hr.trans (hr2.mono (by omega) (by omega)), hO2, fun i => ?_⟩
    rw [hv, hv2]
    have e1 : m - (m - p) = p := by omega
    have e2 : m - p + p = m := by omega
    rw [e1, e2]
  · refine iteT (by omega) ?_
    by_cases hlt : q < p
    · refine iteT (by omega) ?_
      rw [wrapI (x := (m : Int) - p) (by omega) (by omega), show (m : Int) - p = ((m - p : Nat) : Int) by omega]
      refine (swapRangeHost_ok (fv := fv) hn (a := m - p) (b := m) (m := q) (by omega) (by omega) hO1).mono ?_
      rintro _ w2 ⟨c2, g2, hr2, hO2, hv2⟩
      rw [wrapI (x := (p : Int) - q) (by omega) (by omega)]
      refine hK _ _ ⟨p - q, q, by dsimp only; omega, rfl, by omega, hq0, by omega, by omega, hqb, hC.trans c2, g2, hr.trans (hr2.mono (by omega) (by omega)), hO2, fun i => ?_⟩ (by dsimp only; omega)
      rw [hv]
      by_cases h1 : m - p ≤ i ∧ i < m - p + q
      · rw [if_pos h1, if_neg (by omega), if_neg (by omega), hv2, if_pos (by omega)]; congr 1; omega
      · rw [if_neg h1]
        by_cases h2 : m - p + q ≤ i ∧ i < m + q
        · rw [if_pos h2]
          by_cases h3 : i < m - p + q + q
          · rw [if_pos (by omega), hv2]
            by_cases h4 : i + (p - q) < m
            · rw [if_neg (by omega), if_neg (by omega)]
              exfalso; omega
            · rw [if_neg (by omega), if_pos (by omega)]; congr 1; omega
          · rw [if_neg (by omega), if_pos (by omega), hv2, if_neg (by omega), if_neg (by omega)]
        · rw [if_neg h2, if_neg (by omega), if_neg (by omega), hv2, if_neg (by omega), if_neg (by omega)]
    · refine iteF (by omega) ?_
      rw [wrapI (x := (m : Int) - p) (by omega) (by omega), wrapI (x := (m : Int) + q) (by omega) (by omega), wrapI (x := (m : Int) + q - p) (by omega) (by omega), show (m : Int) - p = ((m - p : Nat) : Int) by omega, show (m : Int) + q - p = ((m + q - p : Nat) : Int) by omega]
      refine (swapRangeHost_ok (fv := fv) hn (a := m - p) (b := m + q - p) (m := p) (by omega) (by omega) hO1).mono ?_
      rintro _ w2 ⟨c2, g2, hr2, hO2, hv2⟩
      rw [wrapI (x := (q : Int) - p) (by omega) (by omega)]
      refine hK _ _ ⟨p, q - p, rfl, by dsimp only; omega, hp0, by omega, by omega, by omega, by omega, hC.trans c2, g2, hr.trans (hr2.mono (by omega) (by omega)), hO2, fun i => ?_⟩ (by dsimp only; omega)
      rw [hv]
      by_cases h1 : m - p ≤ i ∧ i < m - p + q
      · rw [if_pos h1]
        by_cases h2 : i < m - p + (q - p)
        · rw [if_pos (by omega), hv2, if_neg (by omega), if_neg (by omega)]
        · rw [if_neg (by omega), if_pos (by omega), hv2]
          by_cases h3 : i - (q - p) < m
          · rw [if_pos (by omega)]; congr 1; omega
          · exfalso; omega
      · rw [if_neg h1]
        by_cases h2 : m - p + q ≤ i ∧ i < m + q
        · rw [if_pos h2]
          rw [if_neg (by omega), if_neg (by omega), hv2, if_neg (by omega), if_pos (by omega)]; congr 1; omega
        · rw [if_neg h2, if_neg (by omega), if_neg (by omega), hv2, if_neg (by omega), if_neg (by omega)]
theorem symMergeHost_ok (hc : CmpHost Q lt fv) (hwo : WO lt) (hn : n ≤ 70368744177664) : ∀ (N a m b : Nat) (w : World) (g : Nat → THost × Nat), b - a ≤ N → a < m → m < b → b ≤ n → Own THost.cells 4 59 B w s (tab n g) →
    (∀ i, i < n → Q (g i).1) → Srt (Tg lt) a m g → Srt (Tg lt) m b g → (∀ i j, a ≤ i → i < m → m ≤ j → j < b → (g i).2 < (g j).2) →
    Cal PP (fun _ : Unit => Value.tuple #[]) 136 #[s.v, .int .i64 (a : Int), .int .i64 (m : Int), .int .i64 (b : Int), fv] w fun _ w' => SortsHost B n a b s g w (Srt (Tg lt) a b) w' := by
  intro N
  induction N with
  | zero => intro a m b w g h1 h2 h3; omega
  | succ N ih =>
  intro a m b w g hN ham hmb hb hO hQ hA hB htg
  refine c136 ?_
  unfold f136
  -- a test of one of the second row against one of the first
  have test : ∀ {w' : World} {i j : Nat} {K : Int → World → Prop}, Ext w w' → a ≤ j → j < m → m ≤ i → i < b → (∀ x w'', Ext w w'' → (x < 0 → Tg lt (g i) (g j)) → (¬ x < 0 → Tg lt (g j) (g i)) → K x w'') →
      CalV PP (Value.int .i64) fv #[(THost.v (g i).1), (THost.v (g j).1)] w' K := fun {w' i j K} e h1 h2 h3 h4 hK => by
    obtain ⟨f, fi, ca, e1, e2, hcal⟩ := hc (g i).1 (g j).1 w' (hQ i (by omega)) (hQ j (by omega))
    refine ⟨f, fi, ca, e1, e2, hcal.mono ?_⟩
    rintro x w'' ⟨e', hx⟩
    have hl := Tg.late hwo (htg j i h1 h2 h3 h4)
    refine hK x w'' (e.trans e') (fun h => hl.1 (by rw [← hx]; simpa using h)) (fun h => hl.2 (by rw [← hx]; simpa using h))
  rw [wrapI (x := (m : Int) - a) (by omega) (by omega)]
  by_cases c1 : m - a = 1
  · refine iteT (by omega) ?_
    refine Lp.mk (fun (y : Int × Int) w' => ∃ p q : Nat, y.1 = p ∧ y.2 = q ∧ m ≤ p ∧ p ≤ q ∧ q ≤ b ∧ Ext w w' ∧ (∀ x, m ≤ x → x < p → Tg lt (g x) (g a)) ∧ ∀ x, q ≤ x → x < b → Tg lt (g a) (g x)) (fun y => y.2.toNat - y.1.toNat)
      ⟨m, b, rfl, rfl, Nat.le_refl _, by omega, Nat.le_refl _, Ext.refl _, fun x h1 h2 => by omega, fun x h1 h2 => by omega⟩ ?_
    rintro ⟨_, _⟩ w1 K ⟨p, q, rfl, rfl, hmp, hpq, hqb, hE, hlo, hhi⟩ hK
    dsimp only at *
    by_cases hlt : p < q
    · refine iteT (by omega) ?_
      rw [wrapI (x := (p : Int) + q) (by omega) (by omega), wrapU (x := (p : Int) + q) (by omega) (by omega)]
      refine rnp_half ?_
      have eh : ((p : Int) + q) / 2 = (((p + q) / 2 : Nat) : Int) := by omega
      rw [eh, wrapI (x := (((p + q) / 2 : Nat) : Int)) (by omega) (by omega)]
      have hh1 : p ≤ (p + q) / 2 := by omega
      have hh2 : (p + q) / 2 < q := by omega
      generalize (p + q) / 2 = h at hh1 hh2
      refine Dr.mk fun w2 e2 _ => ?_
      replace hE := hE.trans e2
      refine rnp_row sl51 (hO.ext hE) (k := h) (by omega) rfl fun pp hp => ?_
      refine rnl_ldN (x := (g h).1) many59 hp rfl rfl ?_
      refine rnp_row sl51 (hO.ext hE) (k := a) (by omega) rfl fun pp hp => ?_
      refine rnl_ldN (x := (g a).1) many59 hp rfl rfl ?_
      refine test hE (Nat.le_refl _) ham (by omega) (by omega) fun x w3 e3 hy hno => ?_
      by_cases cx : x < 0
      · refine iteT cx ?_
        rw [wrapI (x := (h : Int) + 1) (by omega) (by omega)]
        refine hK _ _ ⟨h + 1, q, by dsimp only; omega, rfl, by omega, by omega, hqb, e3, fun z h1 h2 => ?_, hhi⟩ (by dsimp only; omega)
        by_cases c : z = h
        · rw [c]; exact hy cx
        · exact Tg.tr hwo (hB z h (by omega) (by omega) (by omega)) (hy cx)
      · refine iteF cx ?_
        refine hK _ _ ⟨p, h, rfl, rfl, hmp, hh1, by omega, e3, hlo, fun z h1 h2 => ?_⟩ (by dsimp only; omega)
        by_cases c : z = h
        · rw [c]; exact hno cx
        · exact Tg.tr hwo (hno cx) (hB h z (by omega) (by omega) h2)
    · refine iteF (by omega) ?_
      obtain rfl : p = q := by omega
      rw [wrapI (x := (p : Int) - 1) (by omega) (by omega)]
      refine Lp.mk (fun (y : Int) w' => ∃ k : Nat, y = k ∧ a ≤ k ∧ k ≤ p - 1 ∧ Chg (own? s) w w' ∧ ∃ g', Rea a b g g' ∧ Own THost.cells 4 59 B w' s (tab n g') ∧ ∀ i, g' i = if a ≤ i ∧ i < k then g (i + 1) else if i = k then g a else g i) (fun y => p - y.toNat)
        ⟨a, rfl, Nat.le_refl _, by omega, hE.chg _, g, Rea.refl _ _ _, hO.ext hE, fun i => by
          rw [if_neg (by omega)]
          by_cases c : i = a
          · rw [if_pos c, c]
          · rw [if_neg c]⟩ ?_
      clear hK
      rintro y w2 K ⟨k, rfl, hak, hkp, hC, g1, hr, hO1, hv⟩ hK
      by_cases hk1 : k < p - 1
      · refine iteT (by omega) ?_
        refine Dr.mk fun w3 e3 _ => ?_
        replace hC := hC.thenE e3; replace hO1 := hO1.ext e3
        rw [wrapI (x := (k : Int) + 1) (by omega) (by omega)]
        refine rnp_row sl51 hO1 (k := k + 1) (by omega) (by omega) fun pp hp => ?_
        refine rnl_ldN (x := (g1 (k + 1)).1) many59 hp rfl rfl ?_
        refine rnp_row sl51 hO1 (k := k) (by omega) rfl fun pp hp => ?_
        refine rnl_ldN (x := (g1 k).1) many59 hp rfl rfl ?_
        refine Own.exchangeHost hO1 (p := k) (q := k + 1) (by omega) (by omega) rfl (by omega) fun w4 c4 O4 => ?_
        refine hK _ _ ⟨k + 1, by omega, by omega, by omega, hC.trans c4, swp g1 k (k + 1), hr.trans (Rea.swp ⟨by omega, by omega⟩ ⟨by omega, by omega⟩), O4, fun i => ?_⟩ (by omega)
        unfold swp
        by_cases h1 : i = k
        · subst h1
          rw [if_pos rfl, if_pos (by omega), hv, if_neg (by omega), if_neg (by omega)]
        · rw [if_neg h1]
          by_cases h2 : i = k + 1
          · rw [if_pos h2, if_neg (by omega), if_pos h2, hv, if_neg (by omega), if_pos rfl]
          · rw [if_neg h2, if_neg h2, hv, if_neg h1]
            by_cases h3 : a ≤ i ∧ i < k
            · rw [if_pos h3, if_pos (by omega)]
            · rw [if_neg h3, if_neg (by omega)]
      · refine iteF (by omega) ⟨hC, g1, hr, hO1, ?_⟩
        obtain rfl : k = p - 1 := by omega
        intro i j h1 h2 h3
        rw [hv, hv]
        by_cases hi : a ≤ i ∧ i < p - 1
        · rw [if_pos hi]
          by_cases hj : a ≤ j ∧ j < p - 1
          · rw [if_pos hj]; exact hB _ _ (by omega) (by omega) (by omega)
          · rw [if_neg hj]
            by_cases hj' : j = p - 1
            · rw [if_pos hj']; exact hlo _ (by omega) (by omega)
            · rw [if_neg hj']; exact hB _ _ (by omega) (by omega) h3
        · rw [if_neg hi]
          by_cases hi' : i = p - 1
          · rw [if_pos hi', if_neg (by omega), if_neg (by omega)]; exact hhi j (by omega) h3
          · rw [if_neg hi', if_neg (by omega), if_neg (by omega)]; exact hB i j (by omega) h2 h3
  refine iteF (by omega) ?_
  rw [wrapI (x := (b : Int) - m) (by omega) (by omega)]
  by_cases c2 : b - m = 1
  · refine iteT (by omega) ?_
    refine Lp.mk (fun (y : Int × Int) w' => ∃ p q : Nat, y.1 = p ∧ y.2 = q ∧ a ≤ p ∧ p ≤ q ∧ q ≤ m ∧ Ext w w' ∧ (∀ x, a ≤ x → x < p → Tg lt (g x) (g m)) ∧ ∀ x, q ≤ x → x < m → Tg lt (g m) (g x)) (fun y => y.2.toNat - y.1.toNat)
      ⟨a, m, rfl, rfl, Nat.le_refl _, by omega, Nat.le_refl _, Ext.refl _, fun x h1 h2 => by omega, fun x h1 h2 => by omega⟩ ?_
    rintro ⟨_, _⟩ w1 K ⟨p, q, rfl, rfl, hmp, hpq, hqb, hE, hlo, hhi⟩ hK
    dsimp only at *
    by_cases hlt : p < q
    · refine iteT (by omega) ?_
      rw [wrapI (x := (p : Int) + q) (by omega) (by omega), wrapU (x := (p : Int) + q) (by omega) (by omega)]
      refine rnp_half ?_
      have eh : ((p : Int) + q) / 2 = (((p + q) / 2 : Nat) : Int) := by omega
      rw [eh, wrapI (x := (((p + q) / 2 : Nat) : Int)) (by omega) (by omega)]
      have hh1 : p ≤ (p + q) / 2 := by omega
      have hh2 : (p + q) / 2 < q := by omega
      generalize (p + q) / 2 = h at hh1 hh2
      refine Dr.mk fun w2 e2 _ => ?_
      replace hE := hE.trans e2
      refine rnp_row sl51 (hO.ext hE) (k := m) (by omega) rfl fun pp hp => ?_
      refine rnl_ldN (x := (g m).1) many59 hp rfl rfl ?_
      refine rnp_row sl51 (hO.ext hE) (k := h) (by omega) rfl fun pp hp => ?_
      refine rnl_ldN (x := (g h).1) many59 hp rfl rfl ?_
      refine test hE (by omega) (by omega) (Nat.le_refl _) (by omega) fun x w3 e3 hy hno => ?_
      by_cases cx : x < 0
      · refine iteF (by simpa using cx) ?_
        refine hK _ _ ⟨p, h, rfl, rfl, hmp, hh1, by omega, e3, hlo, fun z h1 h2 => ?_⟩ (by dsimp only; omega)
        by_cases c : z = h
        · rw [c]; exact hy cx
        · exact Tg.tr hwo (hy cx) (hA h z (by omega) (by omega) h2)
      · refine iteT (by simpa using cx) ?_
        rw [wrapI (x := (h : Int) + 1) (by omega) (by omega)]
        refine hK _ _ ⟨h + 1, q, by dsimp only; omega, rfl, by omega, by omega, hqb, e3, fun z h1 h2 => ?_, hhi⟩ (by dsimp only; omega)
        by_cases c : z = h
        · rw [c]; exact hno cx
        · exact Tg.tr hwo (hA z h (by omega) (by omega) (by omega)) (hno cx)
    · refine iteF (by omega) ?_
      obtain rfl : p = q := by omega
      refine Lp.mk (fun (y : Int) w' => ∃ k : Nat, y = k ∧ p ≤ k ∧ k ≤ m ∧ Chg (own? s) w w' ∧ ∃ g', Rea a b g g' ∧ Own THost.cells 4 59 B w' s (tab n g') ∧ ∀ i, g' i = if k < i ∧ i ≤ m then g (i - 1) else if i = k then g m else g i) (fun y => y.toNat)
        ⟨m, rfl, by omega, Nat.le_refl _, hE.chg _, g, Rea.refl _ _ _, hO.ext hE, fun i => by
          rw [if_neg (by omega)]
          by_cases c : i = m
          · rw [if_pos c, c]
          · rw [if_neg c]⟩ ?_
      clear hK
      rintro y w2 K ⟨k, rfl, hak, hkp, hC, g1, hr, hO1, hv⟩ hK
      by_cases hk1 : p < k
      · refine iteT (by omega) ?_
        refine Dr.mk fun w3 e3 _ => ?_
        replace hC := hC.thenE e3; replace hO1 := hO1.ext e3
        rw [wrapI (x := (k : Int) - 1) (by omega) (by omega)]
        refine rnp_row sl51 hO1 (k := k - 1) (by omega) (by omega) fun pp hp => ?_
        refine rnl_ldN (x := (g1 (k - 1)).1) many59 hp rfl rfl ?_
        refine rnp_row sl51 hO1 (k := k) (by omega) rfl fun pp hp => ?_
        refine rnl_ldN (x := (g1 k).1) many59 hp rfl rfl ?_
        refine Own.exchangeHost hO1 (p := k) (q := k - 1) (by omega) (by omega) rfl (by omega) fun w4 c4 O4 => ?_
        refine hK _ _ ⟨k - 1, by omega, by omega, by omega, hC.trans c4, swp g1 k (k - 1), hr.trans (Rea.swp ⟨by omega, by omega⟩ ⟨by omega, by omega⟩), O4, fun i => ?_⟩ (by omega)
        unfold swp
        by_cases h1 : i = k
        · subst h1
          rw [if_pos rfl, if_pos (by omega), hv, if_neg (by omega), if_neg (by omega)]
        · rw [if_neg h1]
          by_cases h2 : i = k - 1
          · rw [if_pos h2, if_neg (by omega), if_pos h2, hv, if_neg (by omega), if_pos rfl]
          · rw [if_neg h2, if_neg h2, hv, if_neg h1]
            by_cases h3 : k < i ∧ i ≤ m
            · rw [if_pos h3, if_pos (by omega)]
            · rw [if_neg h3, if_neg (by omega)]
      · refine iteF (by omega) ⟨hC, g1, hr, hO1, ?_⟩
        obtain rfl : k = p := by omega
        intro i j h1 h2 h3
        rw [hv, hv]
        by_cases hi : k < i ∧ i ≤ m
        · rw [if_pos hi, if_pos (by omega)]; exact hA _ _ (by omega) (by omega) (by omega)
        · rw [if_neg hi]
          by_cases hi' : i = k
          · rw [if_pos hi', if_pos (by omega)]; exact hhi _ (by omega) (by omega)
          · rw [if_neg hi']
            by_cases hj : k < j ∧ j ≤ m
            · rw [if_pos hj]; exact hA _ _ (by omega) (by omega) (by omega)
            · rw [if_neg hj]
              by_cases hj' : j = k
              · rw [if_pos hj']; exact hlo _ (by omega) (by omega)
              · rw [if_neg hj']; exact hA _ _ (by omega) (by omega) (by omega)
  refine iteF (by omega) ?_
  rw [wrapI (x := (a : Int) + b) (by omega) (by omega), wrapU (x := (a : Int) + b) (by omega) (by omega)]
  refine rnp_half ?_
  have em : ((a : Int) + b) / 2 = (((a + b) / 2 : Nat) : Int) := by omega
  rw [em, wrapI (x := (((a + b) / 2 : Nat) : Int)) (by omega) (by omega)]
  have hmid : 2 * ((a + b) / 2) ≤ a + b ∧ a + b < 2 * ((a + b) / 2) + 2 := by omega
  generalize (a + b) / 2 = mid at hmid
  rw [wrapI (x := (mid : Int) + m) (by omega) (by omega), wrapI (x := (mid : Int) + m - 1) (by omega) (by omega)]
  -- where the search begins and ends
  refine ⟨fun (y : Int × Int) w' => w' = w ∧ ∃ p0 q0 : Nat, y = ((p0 : Int), (q0 : Int)) ∧ ((mid < m ∧ p0 + b = mid + m ∧ q0 = mid) ∨ (m ≤ mid ∧ p0 = a ∧ q0 = m)), ?_, ?_⟩
  · by_cases c : mid < m
    · refine iteT (by omega) ⟨rfl, mid + m - b, mid, ?_, .inl ⟨c, by omega, rfl⟩⟩
      rw [wrapI (x := (mid : Int) + m - b) (by omega) (by omega)]
      simp; omega
    · exact iteF (by omega) ⟨rfl, a, m, rfl, .inr ⟨by omega, rfl, rfl⟩⟩
  rintro _ w0 ⟨hw0, p0, q0, rfl, hpq0⟩
  obtain rfl : w = w0 := hw0.symm
  dsimp only
  have hp0 : a ≤ p0 ∧ p0 ≤ q0 ∧ q0 ≤ m ∧ q0 ≤ mid := by omega
  have hrange : ∀ c, p0 ≤ c → c < q0 → m ≤ mid + m - 1 - c ∧ mid + m - 1 - c < b := fun c h1 h2 => by omega
  refine Lp.mk (fun (y : Int × Int) w' => ∃ p q : Nat, y.1 = p ∧ y.2 = q ∧ p0 ≤ p ∧ p ≤ q ∧ q ≤ q0 ∧ Ext w w' ∧ (∀ c, p0 ≤ c → c < p → Tg lt (g c) (g (mid + m - 1 - c))) ∧ ∀ c, q ≤ c → c < q0 → Tg lt (g (mid + m - 1 - c)) (g c)) (fun y => y.2.toNat - y.1.toNat)
    ⟨p0, q0, rfl, rfl, Nat.le_refl _, hp0.2.1, Nat.le_refl _, Ext.refl _, fun x h1 h2 => by omega, fun x h1 h2 => by omega⟩ ?_
  rintro ⟨_, _⟩ w1 K ⟨st, q, rfl, rfl, hps, hpq, hqq, hE, hlo, hhi⟩ hK
  dsimp only at *
  by_cases hlt : st < q
  · refine iteT (by omega) ?_
    rw [wrapI (x := (st : Int) + q) (by omega) (by omega), wrapU (x := (st : Int) + q) (by omega) (by omega)]
    refine rnp_half ?_
    have eh : ((st : Int) + q) / 2 = (((st + q) / 2 : Nat) : Int) := by omega
    rw [eh, wrapI (x := (((st + q) / 2 : Nat) : Int)) (by omega) (by omega)]
    have hh1 : st ≤ (st + q) / 2 := by omega
    have hh2 : (st + q) / 2 < q := by omega
    generalize (st + q) / 2 = h at hh1 hh2
    have hrh := hrange h (by omega) (by omega)
    rw [wrapI (x := (mid : Int) + m - 1 - h) (by omega) (by omega)]
    refine Dr.mk fun w2 e2 _ => ?_
    replace hE := hE.trans e2
    refine rnp_row sl51 (hO.ext hE) (k := mid + m - 1 - h) (by omega) (by omega) fun pp hp => ?_
    refine rnl_ldN (x := (g (mid + m - 1 - h)).1) many59 hp rfl rfl ?_
    refine rnp_row sl51 (hO.ext hE) (k := h) (by omega) rfl fun pp hp => ?_
    refine rnl_ldN (x := (g h).1) many59 hp rfl rfl ?_
    refine test hE (by omega) (by omega) hrh.1 hrh.2 fun x w3 e3 hy hno => ?_
    by_cases cx : x < 0
    · refine iteF (by simpa using cx) ?_
      refine hK _ _ ⟨st, h, rfl, rfl, hps, hh1, by omega, e3, hlo, fun z h1 h2 => ?_⟩ (by dsimp only; omega)
      have hrz := hrange z (by omega) h2
      by_cases c : z = h
      · rw [c]; exact hy cx
      · exact Tg.tr hwo (Tg.tr hwo (hB (mid + m - 1 - z) (mid + m - 1 - h) hrz.1 (by omega) hrh.2) (hy cx)) (hA h z (by omega) (by omega) (by omega))
    · refine iteT (by simpa using cx) ?_
      rw [wrapI (x := (h : Int) + 1) (by omega) (by omega)]
      refine hK _ _ ⟨h + 1, q, by dsimp only; omega, rfl, by omega, by omega, hqq, e3, fun z h1 h2 => ?_, hhi⟩ (by dsimp only; omega)
      have hrz := hrange z h1 (by omega)
      by_cases c : z = h
      · rw [c]; exact hno cx
      · exact Tg.tr hwo (Tg.tr hwo (hA z h (by omega) (by omega) (by omega)) (hno cx)) (hB (mid + m - 1 - h) (mid + m - 1 - z) hrh.1 (by omega) hrz.2)
  refine iteF (by omega) ?_
  obtain rfl : st = q := by omega
  clear hK test
  rw [wrapI (x := (mid : Int) + m - st) (by omega) (by omega)]
  obtain ⟨en, hen⟩ : ∃ en, en + st = mid + m := ⟨mid + m - st, by omega⟩
  rw [show (mid : Int) + m - st = (en : Int) by omega]
  have hE0 : st ≤ m ∧ st ≤ mid ∧ a ≤ st ∧ m ≤ en ∧ mid ≤ en ∧ en ≤ b := by omega
  have F1 : ∀ x y, a ≤ x → x < st → en ≤ y → y < b → Tg lt (g x) (g y) := fun x y h1 h2 h3 h4 => by
    by_cases c : st = p0
    · omega
    · have ht := hlo (st - 1) (by omega) (by omega)
      rw [show mid + m - 1 - (st - 1) = en by omega] at ht
      have h5 : Tg lt (g x) (g en) := by
        by_cases cx : x = st - 1
        · rw [cx]; exact ht
        · exact Tg.tr hwo (hA x (st - 1) h1 (by omega) (by omega)) ht
      by_cases cy : y = en
      · rw [cy]; exact h5
      · exact Tg.tr hwo h5 (hB en y (by omega) (by omega) h4)
  have F2 : ∀ x y, st ≤ x → x < m → m ≤ y → y < en → Tg lt (g y) (g x) := fun x y h1 h2 h3 h4 => by
    by_cases c : st = q0
    · omega
    · have ht := hhi st (Nat.le_refl _) (by omega)
      rw [show mid + m - 1 - st = en - 1 by omega] at ht
      have h5 : Tg lt (g y) (g st) := by
        by_cases cy : y = en - 1
        · rw [cy]; exact ht
        · exact Tg.tr hwo (hB y (en - 1) h3 (by omega) (by omega)) ht
      by_cases cx : x = st
      · rw [cx]; exact h5
      · exact Tg.tr hwo h5 (hA st x (by omega) (by omega) h2)
  refine ⟨fun _ w' => SortsHost B n a b s g w (fun g' => ∀ i, g' i = if st ≤ i ∧ i < st + (en - m) then g (i + (m - st)) else if st + (en - m) ≤ i ∧ i < en then g (i - (en - m)) else g i) w', ?_, ?_⟩
  · refine ⟨fun x w' => w' = w1 ∧ x = decide (st < m ∧ m < en), ?_, ?_⟩
    · by_cases c : st < m
      · exact iteT (by omega) ⟨rfl, by
          by_cases c' : m < en
          · simp [c, c']
          · simp [c, c']⟩
      · exact iteF (by omega) ⟨rfl, by simp [c]⟩
    rintro _ wq ⟨hwq, rfl⟩
    obtain rfl : w1 = wq := hwq.symm
    by_cases c : st < m ∧ m < en
    · refine iteT (by simpa using c) ?_
      refine (rotateHost_ok (fv := fv) hn c.1 c.2 (by omega) (hO.ext hE)).mono ?_
      rintro _ w2 ⟨c2, g1, hr, hO1, hv⟩
      exact ⟨(hE.chg _).trans c2, g1, hr.mono (by omega) (by omega), hO1, hv⟩
    · refine iteF (by simpa using c) ⟨hE.chg _, g, Rea.refl _ _ _, hO.ext hE, fun i => ?_⟩
      by_cases c' : st < m
      · have : en = m := by omega
        rw [this, if_neg (by omega)]
        by_cases h2 : st + (m - m) ≤ i ∧ i < m
        · rw [if_pos h2]; congr 1; omega
        · rw [if_neg h2]
      · have : st = m := by omega
        rw [this]
        by_cases h2 : m ≤ i ∧ i < m + (en - m)
        · rw [if_pos h2]; congr 1; omega
        · rw [if_neg h2, if_neg (by omega)]
  rintro _ w2 ⟨hC, g1, hr, hO1, hv⟩
  have hQ1 : ∀ i, i < n → Q (g1 i).1 := hr.allN (p := fun x => Q x.1) (by omega) hQ
  -- the four pieces
  have v1 : ∀ i, a ≤ i → i < st → g1 i = g i := fun i h1 h2 => by rw [hv, if_neg (by omega), if_neg (by omega)]
  have v2 : ∀ i, st ≤ i → i < mid → g1 i = g (i + (m - st)) := fun i h1 h2 => by rw [hv, if_pos (by omega)]
  have v3 : ∀ i, mid ≤ i → i < en → g1 i = g (i - (en - m)) := fun i h1 h2 => by rw [hv, if_neg (by omega), if_pos (by omega)]
  have v4 : ∀ i, en ≤ i → i < b → g1 i = g i := fun i h1 h2 => by rw [hv, if_neg (by omega), if_neg (by omega)]
  have hcross : ∀ i j, a ≤ i → i < mid → mid ≤ j → j < b → Tg lt (g1 i) (g1 j) := fun i j h1 h2 h3 h4 => by
    by_cases ci : i < st
    · rw [v1 i h1 ci]
      by_cases cj : j < en
      · rw [v3 j h3 cj]; exact hA _ _ h1 (by omega) (by omega)
      · rw [v4 j (by omega) h4]; exact F1 i j h1 ci (by omega) h4
    · rw [v2 i (by omega) h2]
      by_cases cj : j < en
      · rw [v3 j h3 cj]; exact F2 _ _ (by omega) (by omega) (by omega) (by omega)
      · rw [v4 j (by omega) h4]; exact hB _ _ (by omega) (by omega) h4
  have sL1 : Srt (Tg lt) a st g1 := (hA.mono (Nat.le_refl _) hE0.1).eq v1
  have sL2 : Srt (Tg lt) st mid g1 := fun i j h1 h2 h3 => by rw [v2 i h1 (by omega), v2 j (by omega) h3]; exact hB _ _ (by omega) (by omega) (by omega)
  have sR1 : Srt (Tg lt) mid en g1 := fun i j h1 h2 h3 => by rw [v3 i h1 (by omega), v3 j (by omega) h3]; exact hA _ _ (by omega) (by omega) (by omega)
  have sR2 : Srt (Tg lt) en b g1 := (hB.mono hE0.2.2.2.1 (Nat.le_refl _)).eq v4
  refine ⟨fun _ w' => Chg (own? s) w w' ∧ ∃ g2, Rea a mid g1 g2 ∧ Own THost.cells 4 59 B w' s (tab n g2) ∧ Srt (Tg lt) a mid g2, ?_, ?_⟩
  · refine ⟨fun x w' => w' = w2 ∧ x = decide (a < st ∧ st < mid), ?_, ?_⟩
    · by_cases c : a < st
      · exact iteT (by omega) ⟨rfl, by
          by_cases c' : st < mid
          · simp [c, c']
          · simp [c, c']⟩
      · exact iteF (by omega) ⟨rfl, by simp [c]⟩
    rintro _ wq ⟨hwq, rfl⟩
    obtain rfl : w2 = wq := hwq.symm
    by_cases c : a < st ∧ st < mid
    · refine iteT (by simpa using c) ?_
      refine (ih a st mid w2 g1 (by omega) c.1 c.2 (by omega) hO1 hQ1 sL1 sL2 fun i j h1 h2 h3 h4 => ?_).mono ?_
      · rw [v1 i h1 h2, v2 j h3 h4]; exact htg _ _ h1 (by omega) (by omega) (by omega)
      · rintro _ w3 ⟨c3, g2, hr2, hO2, hs2⟩
        exact ⟨hC.trans c3, g2, hr2, hO2, hs2⟩
    · refine iteF (by simpa using c) ⟨hC, g1, Rea.refl _ _ _, hO1, ?_⟩
      by_cases c' : a < st
      · exact sL1.mono (Nat.le_refl _) (by omega)
      · exact sL2.mono (by omega) (Nat.le_refl _)
  rintro _ w3 ⟨hC3, g2, hr2, hO2, hs2⟩
  have hQ2 : ∀ i, i < n → Q (g2 i).1 := hr2.allN (p := fun x => Q x.1) (by omega) hQ1
  have v5 : ∀ i, mid ≤ i → g2 i = g1 i := fun i h => hr2.out (.inr h)
  have fin : ∀ {w' : World} {g3 : Nat → THost × Nat}, Chg (own? s) w w' → Rea mid b g2 g3 → Own THost.cells 4 59 B w' s (tab n g3) → Srt (Tg lt) mid b g3 → SortsHost B n a b s g w (Srt (Tg lt) a b) w' := fun {w' g3} hc3 hr3 hO3 hs3 => by
    refine ⟨hc3, g3, (hr.trans (hr2.mono (Nat.le_refl _) (by omega))).trans (hr3.mono (by omega) (Nat.le_refl _)), hO3, fun i j h1 h2 h3 => ?_⟩
    by_cases ci : mid ≤ i
    · exact hs3 i j ci h2 h3
    · rw [hr3.out (i := i) (by omega)]
      by_cases cj : mid ≤ j
      · obtain ⟨j', k1, k2, ej⟩ := hr3.src cj h3
        obtain ⟨i', l1, l2, ei⟩ := hr2.src h1 (by omega)
        rw [ej, ei, v5 j' k1]
        exact hcross i' j' l1 l2 k1 k2
      · rw [hr3.out (i := j) (by omega)]; exact hs2 i j h1 h2 (by omega)
  refine ⟨fun x w' => w' = w3 ∧ x = decide (mid < en ∧ en < b), ?_, ?_⟩
  · by_cases c : mid < en
    · exact iteT (by omega) ⟨rfl, by
        by_cases c' : en < b
        · simp [c, c']
        · simp [c, c']⟩
    · exact iteF (by omega) ⟨rfl, by simp [c]⟩
  rintro _ wq ⟨hwq, rfl⟩
  obtain rfl : w3 = wq := hwq.symm
  by_cases c : mid < en ∧ en < b
  · refine iteT (by simpa using c) ?_
    refine (ih mid en b w3 g2 (by omega) c.1 c.2 hb hO2 hQ2 (sR1.eq fun i h _ => v5 i h) (sR2.eq fun i h _ => v5 i (by omega)) fun i j h1 h2 h3 h4 => ?_).mono ?_
    · rw [v5 i h1, v5 j (by omega), v3 i h1 h2, v4 j h3 h4]; exact htg _ _ (by omega) (by omega) (by omega) h4
    · rintro _ w4 ⟨c4, g3, hr3, hO3, hs3⟩
      exact fin (hC3.trans c4) hr3 hO3 hs3
  · refine iteF (by simpa using c) (fin hC3 (Rea.refl _ _ _) hO2 ?_)
    by_cases c' : mid < en
    · exact (sR1.mono (Nat.le_refl _) (by omega)).eq fun i h _ => v5 i h
    · exact (sR2.mono (by omega) (Nat.le_refl _)).eq fun i h _ => v5 i h
theorem stableHost_ok (hc : CmpHost Q lt fv) (hwo : WO lt) (hn : n ≤ 70368744177664) (hO : Own THost.cells 4 59 B w s (tab n g)) (hQ : ∀ i, i < n → Q (g i).1) (htag : ∀ i j, i < j → j < n → (g i).2 < (g j).2) :
    Cal PP (fun _ : Unit => Value.tuple #[]) 113 #[s.v, .int .i64 (n : Int), fv] w fun _ w' => SortsHost B n 0 n s g w (Srt (Tg lt) 0 n) w' := by
  refine c113 ?_
  unfold f113
  refine Lp.mk (fun (y : Int × Int) w' => ∃ a : Nat, y.1 = a ∧ y.2 = (a : Int) + 20 ∧ Mul 20 a ∧ a ≤ n ∧ Chg (own? s) w w' ∧ ∃ g', Rea 0 a g g' ∧ Own THost.cells 4 59 B w' s (tab n g') ∧ (∀ c, Mul 20 c → Bdry n c g') ∧
      ∀ c, Mul 20 c → c + 20 ≤ a → Srt (Tg lt) c (c + 20) g') (fun y => n - y.1.toNat)
    ⟨0, rfl, rfl, Mul.zero _, Nat.zero_le _, Chg.refl _ _, g, Rea.refl _ _ _, hO, fun c _ x y h1 h2 h3 => htag x y (by omega) h3, fun c _ h => by omega⟩ ?_
  rintro ⟨_, _⟩ w1 K ⟨a, rfl, rfl, hma, han, hC, g1, hr, hO1, hbd, hso⟩ hK
  dsimp only at *
  have hQ1 : ∀ i, i < n → Q (g1 i).1 := hr.allN (p := fun x => Q x.1) han hQ
  have hup : ∀ i j, a ≤ i → i < j → j < n → (g1 i).2 < (g1 j).2 := fun i j h1 h2 h3 => by rw [hr.out (.inr h1), hr.out (.inr (by omega))]; exact htag i j h2 h3
  by_cases hlt : a + 20 ≤ n
  · refine iteT (by omega) ?_
    rw [show (a : Int) + 20 = ((a + 20 : Nat) : Int) by omega, wrapI (x := ((a + 20 : Nat) : Int) + 20) (by omega) (by omega)]
    refine (insertionHost_ok hc hwo (a := a) (b := a + 20) hn (by omega) hlt hO1 hQ1 fun i j h1 h2 h3 => hup i j h1 h2 (by omega)).mono ?_
    rintro _ w2 ⟨c2, g2, hr2, hO2, hs2⟩
    refine hK _ _ ⟨a + 20, rfl, by dsimp only, hma.add, hlt, hC.trans c2, g2, (hr.mono (Nat.le_refl _) (by omega)).trans (hr2.mono (by omega) (Nat.le_refl _)), hO2, fun c hmc => ?_, fun c hmc h => ?_⟩ (by dsimp only; omega)
    · refine (hbd c hmc).rea hr2 (by omega) ?_
      by_cases h : c ≤ a
      · exact .inl h
      · exact .inr (hma.gap hmc (by omega))
    · by_cases h' : c = a
      · rw [h']; exact hs2
      · have hlt' : c < a := by omega
        exact (hso c hmc (hmc.gap hma hlt')).rea hr2 (.inl (hmc.gap hma hlt'))
  refine iteF (by omega) ?_
  refine (insertionHost_ok hc hwo (a := a) (b := n) hn han (Nat.le_refl _) hO1 hQ1 fun i j h1 h2 h3 => hup i j h1 h2 h3).mono ?_
  rintro _ w2 ⟨c2, g2, hr2, hO2, hs2⟩
  -- sizes doubled
  have start : ∀ c, Mul 20 c → Bdry n c g2 ∧ Srt (Tg lt) c (min (c + 20) n) g2 := fun c hmc => by
    refine ⟨(hbd c hmc).rea hr2 (Nat.le_refl _) ?_, ?_⟩
    · by_cases h : c ≤ a
      · exact .inl h
      · right; have := hma.gap hmc (by omega); omega
    · by_cases h' : c = a
      · rw [h']; exact hs2.mono (Nat.le_refl _) (Nat.min_le_right _ _)
      · by_cases h : c < a
        · have hg := hmc.gap hma h
          exact ((hso c hmc hg).rea hr2 (.inl hg)).mono (Nat.le_refl _) (Nat.min_le_left _ _)
        · have := hma.gap hmc (by omega)
          intro i j h1 h2 h3; omega
  have hr02 : Rea 0 n g g2 := (hr.mono (Nat.le_refl _) han).trans (hr2.mono (Nat.zero_le _) (Nat.le_refl _))
  refine Lp.mk (fun (y : Int) w' => ∃ bs : Nat, y = bs ∧ 0 < bs ∧ bs ≤ 140737488355328 ∧ Chg (own? s) w w' ∧ ∃ g', Rea 0 n g g' ∧ Own THost.cells 4 59 B w' s (tab n g') ∧ ∀ c, Mul bs c → Bdry n c g' ∧ Srt (Tg lt) c (min (c + bs) n) g') (fun y => n - y.toNat)
    ⟨20, rfl, by omega, by omega, hC.trans c2, g2, hr02, hO2, start⟩ ?_
  clear hK start hr02 hs2 hO2 hr2 c2 hup hQ1 hso hbd hO1 hr hC
  rintro y w3 K ⟨bs, rfl, hbs, hbl, hC, g3, hr, hO3, hG⟩ hK
  by_cases hlt : bs < n
  · refine iteT (by omega) ?_
    rw [wrapI (x := 2 * (bs : Int)) (by omega) (by omega)]
    refine Lp.mk (fun (y : Int × Int) w' => ∃ a : Nat, y.1 = a ∧ y.2 = (a : Int) + 2 * bs ∧ Mul (2 * bs) a ∧ a ≤ n ∧ Chg (own? s) w w' ∧ ∃ g', Rea 0 n g g' ∧ Own THost.cells 4 59 B w' s (tab n g') ∧
        (∀ c, Mul bs c → a ≤ c → Bdry n c g' ∧ Srt (Tg lt) c (min (c + bs) n) g') ∧ (∀ c, Mul (2 * bs) c → Bdry n c g') ∧ ∀ c, Mul (2 * bs) c → c + 2 * bs ≤ a → Srt (Tg lt) c (c + 2 * bs) g') (fun y => n - y.1.toNat)
      ⟨0, rfl, by simp, Mul.zero _, Nat.zero_le _, hC, g3, hr, hO3, fun c hmc _ => hG c hmc, fun c hmc => (hG c hmc.two).1, fun c _ h => by omega⟩ ?_
    clear hG hO3 hr hC
    rintro ⟨_, _⟩ w4 K2 ⟨a, rfl, rfl, hma, han, hC, g4, hr, hO4, hG, hbd, hso⟩ hK2
    dsimp only at *
    have hQ4 : ∀ i, i < n → Q (g4 i).1 := hr.allN (p := fun x => Q x.1) (Nat.le_refl _) hQ
    rw [wrapI (x := (a : Int) + bs) (by omega) (by omega), show (a : Int) + bs = ((a + bs : Nat) : Int) by omega]
    by_cases hb : a + 2 * bs ≤ n
    · refine iteT (by omega) ?_
      rw [show (a : Int) + 2 * bs = ((a + 2 * bs : Nat) : Int) by omega]
      have s1 := (hG a hma.two (Nat.le_refl _)).2
      have g2' := hG (a + bs) hma.two.add (by omega)
      rw [Nat.min_eq_left (by omega)] at s1
      have s2 := g2'.2
      rw [show min (a + bs + bs) n = a + 2 * bs by omega] at s2
      refine (symMergeHost_ok hc hwo hn (2 * bs) a (a + bs) (a + 2 * bs) w4 g4 (by omega) (by omega) (by omega) hb hO4 hQ4 s1 s2 fun i j h1 h2 h3 h4 => g2'.1 i j h2 h3 (by omega)).mono ?_
      rintro _ w5 ⟨c5, g5, hr5, hO5, hs5⟩
      rw [wrapI (x := ((a + 2 * bs : Nat) : Int) + 2 * bs) (by omega) (by omega)]
      refine hK2 _ _ ⟨a + 2 * bs, rfl, by dsimp only, hma.add, hb, hC.trans c5, g5, hr.trans (hr5.mono (Nat.zero_le _) hb), hO5, fun c hmc h => ?_, fun c hmc => ?_, fun c hmc h => ?_⟩ (by dsimp only; omega)
      · obtain ⟨h1, h2⟩ := hG c hmc (by omega)
        exact ⟨h1.rea hr5 hb (.inr h), h2.rea hr5 (.inr h)⟩
      · refine (hbd c hmc).rea hr5 hb ?_
        by_cases h : c ≤ a
        · exact .inl h
        · exact .inr (hma.gap hmc (by omega))
      · by_cases h' : c = a
        · rw [h']; exact hs5
        · have hlt' : c < a := by
            have := hma
            by_cases h'' : a < c
            · have := hma.gap hmc h''; omega
            · omega
          exact (hso c hmc (hmc.gap hma hlt')).rea hr5 (.inl (hmc.gap hma hlt'))
    · refine iteF (by omega) ?_
      refine ⟨fun _ w' => Chg (own? s) w w' ∧ ∃ g5, Rea 0 n g g5 ∧ Own THost.cells 4 59 B w' s (tab n g5) ∧ ∀ c, Mul (2 * bs) c → Bdry n c g5 ∧ Srt (Tg lt) c (min (c + 2 * bs) n) g5, ?_, ?_⟩
      · have fin : ∀ {w' : World} {g5 : Nat → THost × Nat}, Chg (own? s) w w' → Rea a n g4 g5 → Own THost.cells 4 59 B w' s (tab n g5) → Srt (Tg lt) a n g5 →
            Chg (own? s) w w' ∧ ∃ g5, Rea 0 n g g5 ∧ Own THost.cells 4 59 B w' s (tab n g5) ∧ ∀ c, Mul (2 * bs) c → Bdry n c g5 ∧ Srt (Tg lt) c (min (c + 2 * bs) n) g5 := fun {w' g5} hc5 hr5 hO5 hs5 => by
          refine ⟨hc5, g5, hr.trans (hr5.mono (Nat.zero_le _) (Nat.le_refl _)), hO5, fun c hmc => ⟨?_, ?_⟩⟩
          · refine (hbd c hmc).rea hr5 (Nat.le_refl _) ?_
            by_cases h : c ≤ a
            · exact .inl h
            · right; have := hma.gap hmc (by omega); omega
          · by_cases h' : c = a
            · rw [h']; exact hs5.mono (Nat.le_refl _) (Nat.min_le_right _ _)
            · by_cases h : c < a
              · have hg := hmc.gap hma h
                exact ((hso c hmc hg).rea hr5 (.inl hg)).mono (Nat.le_refl _) (Nat.min_le_left _ _)
              · have := hma.gap hmc (by omega)
                intro i j h1 h2 h3; omega
        have s1 := (hG a hma.two (Nat.le_refl _)).2
        by_cases hm : a + bs < n
        · refine iteT (by omega) ?_
          have g2' := hG (a + bs) hma.two.add (by omega)
          rw [Nat.min_eq_left (by omega)] at s1
          have s2 := g2'.2
          rw [Nat.min_eq_right (by omega)] at s2
          refine (symMergeHost_ok hc hwo hn n a (a + bs) n w4 g4 (by omega) (by omega) hm (Nat.le_refl _) hO4 hQ4 s1 s2 fun i j h1 h2 h3 h4 => g2'.1 i j h2 h3 h4).mono ?_
          rintro _ w5 ⟨c5, g5, hr5, hO5, hs5⟩
          exact fin (hC.trans c5) hr5 hO5 hs5
        · refine iteF (by omega) ?_
          rw [Nat.min_eq_right (by omega)] at s1
          exact fin hC (Rea.refl _ _ _) hO4 s1
      rintro _ w5 ⟨hC5, g5, hr5, hO5, hG5⟩
      rw [wrapI (x := (bs : Int) * 2) (by omega) (by omega)]
      exact hK _ _ ⟨2 * bs, by omega, by omega, by omega, hC5, g5, hr5, hO5, hG5⟩ (by omega)
  · refine iteF (by omega) ⟨hC, g3, hr, hO3, ?_⟩
    have := (hG 0 (Mul.zero _)).2
    rw [Nat.min_eq_right (by omega)] at this; exact this
theorem sortStableHost_ok {ys : List THost} (hc : CmpHost Q lt fv) (hwo : WO lt) (hn : ys.length ≤ 70368744177664) (hO : Own THost.cells 4 59 B w s ys) (hQ : ∀ y ∈ ys, Q y) :
    Cal PP (fun _ : Unit => Value.tuple #[]) 77 #[s.v, fv] w fun _ w' => Chg (own? s) w w' ∧ Own THost.cells 4 59 B w' s (stb lt ys) := by
  refine c77 ?_
  unfold f77
  have e := tab_rowOf ys (⟨⟨#[]⟩, ⟨#[]⟩, Sl.nil, Sl.nil⟩ : THost)
  rw [hO.len]
  refine (stableHost_ok (n := ys.length) (g := rowOf ys ⟨⟨#[]⟩, ⟨#[]⟩, Sl.nil, Sl.nil⟩) hc hwo hn (by rw [e]; exact hO) (fun i hi => ?_) (fun i j h1 h2 => h1)).mono ?_
  · simp only [rowOf, List.getD_eq_getElem?_getD, List.getElem?_eq_getElem hi, Option.getD_some]
    exact hQ _ (List.getElem_mem hi)
  · rintro _ w' ⟨c, g', hr, hO', hs⟩
    rw [stb_of hwo hr hs] at hO'
    exact ⟨c, hO'⟩
end
end Go.Proofs.Ytdoeegfcmbcbkaa.Ct


