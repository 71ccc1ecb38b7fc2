/- A part of the proof whose last text is YtdoeegfcmbcbkaaAZ6. -/
import Derived.Test.YtdoeegfcmbcbkaaAZ4
set_option linter.all false
/- Contracts: the shares of all splits, and the shares of one, by the program. -/
namespace Go.Proofs.Ytdoeegfcmbcbkaa.Ct
open Go Go.Eng Tr
set_option linter.unusedVariables false
set_option maxRecDepth 100000

section
variable {w : World} {F : Nat → Prop} {s : Sl} {rs : List TResource} {l : List DRes}
/-- a configuration whose splits may be reckoned -/
structure Fine (l : List DRes) : Prop where
  ord : ∀ i, i < l.length → outAt l i = false
  few : l.length ≤ 64
  stand : Stand l
  kids : ∀ n d t, splitOf l n = some d → t ∈ kidsOf d → (splitOf l t).isSome = true
  deep : ∀ n d, splitOf l n = some d → hd l 8 n ≤ 8
theorem fault_err (h : (faultM l).Err = 0) : Fine l := by
  by_cases c1 : 0 ≤ fst? (outAt l) l.length
  · rw [fs_out c1] at h; cases h
  by_cases c2 : 64 < l.length
  · rw [fs_big c1 c2] at h; cases h
  have key : ∀ p : Nat → Bool, (∀ k, k < l.length → p k = true → (∀ j, j < k → p j = false) → False) → ∀ j, j < l.length → p j = false := fun p hp => by
    intro j
    induction j using Nat.strongRecOn with
    | ind j ih =>
      intro hj
      cases c : p j with
      | false => rfl
      | true => exact (hp j hj c fun i hi => ih i hi (by omega)).elim
  have hd1 := key (dangAt l) fun k hk hp ha => by rw [fs_dang c1 c2 hk hp ha] at h; cases h
  have hd2 := key (twinAt l) fun k hk hp ha => by rw [fs_twin c1 c2 hd1 hk hp ha] at h; cases h
  have hd3 := key (heavyAt l) fun k hk hp ha => by rw [fs_heavy c1 c2 hd1 hd2 hk hp ha] at h; cases h
  have hd4 := key (deepAt l) fun k hk hp ha => by rw [fs_deep c1 c2 hd1 hd2 hd3 hk hp ha] at h; cases h
  refine ⟨fst?_neg (by omega), by omega, stand_of hd1, fun n d t hs ht => has_split (no_dang hd1 n d t hs ht), fun n d hs => ?_⟩
  obtain ⟨h1, h2, h3⟩ := splitOf_mem hs
  obtain ⟨i, hi, rfl⟩ := List.mem_iff_getElem.1 h1
  have := hd4 i hi
  rw [deepAt_eq hi] at this
  simp only [h2, decide_true, Bool.true_and, decide_eq_false_iff_not] at this
  rw [h3] at this; omega
/-- splits among the resources and among what they say -/
theorem split_at (h : ConfD F w s rs l) (hf : ∀ i, i < l.length → outAt l i = false) {n : ByteArray} {d : DRes} (hs : splitOf l n = some d) : ∃ (i : Nat) (hi : i < rs.length) (hi' : i < l.length), l[i] = d ∧ rs[i].Kind = 2 ∧ rs[i].Name = n := by
  obtain ⟨h1, h2, h3⟩ := splitOf_mem hs
  obtain ⟨i, hi, rfl⟩ := List.mem_iff_getElem.1 h1
  have hi' : i < rs.length := by rw [h.len]; exact hi
  have hr := h.el i hi' hi
  exact ⟨i, hi', hi, rfl, by rw [hr.kind, h2], by rw [hr.name, h3]⟩
theorem split_of (h : ConfD F w s rs l) (hf : ∀ i, i < l.length → outAt l i = false) {i : Nat} (hi : i < rs.length) (hk : rs[i].Kind = 2) : ∃ hi' : i < l.length, splitOf l rs[i].Name = some l[i] := by
  have hi' : i < l.length := by rw [← h.len]; exact hi
  have hr := h.el i hi hi'
  exact ⟨hi', by rw [hr.name]; exact splitOf_self hf _ (List.getElem_mem hi') (by rw [← hr.kind]; exact hk)⟩
theorem hasR_split (h : ConfD F w s rs l) (hf : ∀ i, i < l.length → outAt l i = false) (n : ByteArray) : hasR (ofKind 2 rs) n = (splitOf l n).isSome := by
  rw [Bool.eq_iff_iff, hasR_iff]
  constructor
  · rintro ⟨r, hr, hn⟩
    obtain ⟨hr, hk⟩ := List.mem_filter.1 hr
    obtain ⟨i, hi, rfl⟩ := List.mem_iff_getElem.1 hr
    obtain ⟨_, hs⟩ := split_of h hf hi (by simpa using hk)
    rw [← hn, hs]; rfl
  · intro hs
    obtain ⟨d, hs⟩ := Option.isSome_iff_exists.1 hs
    obtain ⟨i, hi, _, _, hk, hn⟩ := split_at h hf hs
    exact ⟨rs[i], List.mem_filter.2 ⟨List.getElem_mem hi, by simpa using hk⟩, hn⟩
/-- what is answered for a split: an error, and shares -/
def errS (l : List DRes) (n : ByteArray) : Int := if (faultM l).Err ≠ 0 then (faultM l).Err else if (splitOf l n).isSome = true then 0 else 2
def ansS (l : List DRes) (n : ByteArray) : List SH := if (faultM l).Err = 0 ∧ (splitOf l n).isSome = true then shF l n else []
theorem allMap_ok (h : ConfD F w s rs l) (hf : Fine l) : Cal PP Value.map 57 #[s.v] w fun v w' => Ext w w' ∧ ∃ b m, v = some b ∧ w.heap.size ≤ b ∧ DoneI (fun _ => False) l b w' m ∧ ∀ n, (splitOf l n).isSome = true → n ∈ mkeys m := by
  refine c57 ?_
  unfold f57
  have hrl : rs.length ≤ 64 := by rw [h.len]; exact hf.few
  refine NewM.mk fun b9 w1 e1 h9 n9 s9 => ?_
  replace h9 : Mp Value.string Sl.v w1 b9 ([] : List (ByteArray × Sl)) := Mp.new h9
  refine New.var [.map (some b9)] sz153 rfl (by simp [Value.oneCell']) rfl fun b3 w2 e2 h3 nb3 => ?_
  replace h9 := h9.ext e2
  have E2 := e1.trans e2
  refine (named_ok (h.rd.ext E2) 2 (by omega)).mono ?_
  rintro t11 w3 ⟨e3, hO3⟩
  have hT := hO3.rd (F := fun b => w2.heap.size ≤ b ∧ b < w3.heap.size) (fun b hb => hO3.ge hb)
  have hTl : (ofKind 2 rs).length ≤ rs.length := ofKind_len 2 rs
  have hmem : ∀ r ∈ ofKind 2 rs, ∃ (i : Nat) (hi : i < rs.length), rs[i] = r ∧ rs[i].Kind = 2 := fun r hr => by
    obtain ⟨hr, hk⟩ := List.mem_filter.1 hr
    obtain ⟨i, hi, rfl⟩ := List.mem_iff_getElem.1 hr
    exact ⟨i, hi, rfl, by simpa using hk⟩
  generalize hts : ofKind 2 rs = ts at hT hTl hmem
  clear hO3
  have E3 := E2.trans e3
  have g3 := e3.size; have g2 := e2.size
  refine Lp.mk (fun (i : Int) w' => ∃ (k : Nat) (ms : List (ByteArray × Sl)), i = k ∧ k ≤ ts.length ∧ Ext w w' ∧ Ext w1 w1 ∧ w3.heap.size ≤ w'.heap.size ∧ Rd TResource.cells 8 (fun b => w2.heap.size ≤ b ∧ b < w3.heap.size) w' t11 ts ∧ Blk w' b3 153 [.map (some b9)] ∧ Mp Value.string Sl.v w' b9 ms ∧
      (∀ n t, mget ms n = some t → ∃ r ∈ ts, r.Name = n ∧ r.Targets = t) ∧ ∀ r ∈ ts.take k, r.Name ∈ mkeys ms) (fun i => ts.length - i.toNat)
    ⟨0, [], rfl, Nat.zero_le _, E3, Ext.refl _, Nat.le_refl _, hT, h3.ext e3, h9.ext e3, (fun n t ht => by cases ht), (fun r hr => by simp at hr)⟩ ?_
  clear hT h3 h9 E3 E2
  rintro i w4 K ⟨k, ms, rfl, hk, hE, _, g4, hT, h3, h9, hA, hB⟩ hK
  by_cases hlt : k < ts.length
  · rw [if_pos (by rw [hT.len]; omega)]
    refine rnp_idx sl22 hT hlt rfl fun p _ hp => ?_
    refine rn_ldN (x := ts[k]) many48 hp rfl rfl ?_
    refine New.var (TResource.cells ts[k]) sz48 rfl (oc_res _) rfl fun b5 w5 e5 h5 _ => ?_
    refine rn_blk (x := some b9) one153 (h3.ext e5) rfl rfl ?_
    refine rn_blk (x := ts[k].Name) one9 h5 rfl rfl ?_
    refine rn_blk (x := ts[k].Targets) one45 h5 rfl rfl ?_
    refine rnu_put (k := ts[k].Name) (v := ts[k].Targets) mapT153 (h9.ext e5) fun w6 c6 h9' s6 => ?_
    rw [hT.wr hlt]
    have g5 := e5.size
    have h9lt := h9.lt
    refine hK _ _ ⟨k + 1, _, rfl, hlt, (hE.trans e5).then c6 (fun b hb => by omega), Ext.refl _, by omega, (hT.ext e5).chg c6 (fun b hb _ => by omega), (h3.ext e5).chg c6 (by omega), h9', fun n t ht => ?_, fun r hr => ?_⟩ (by omega)
    · rw [mget_put] at ht
      by_cases e : ts[k].Name = n
      · rw [if_pos e] at ht; cases ht; exact ⟨ts[k], List.getElem_mem hlt, e, rfl⟩
      · rw [if_neg e] at ht; exact hA n t ht
    · rw [List.take_add_one, List.getElem?_eq_getElem hlt] at hr
      rcases List.mem_append.1 hr with hr | hr
      · exact mem_mkeys_put.2 (.inr (hB r hr))
      · simp at hr; subst hr; exact mem_mkeys_put.2 (.inl rfl)
  rw [if_neg (by rw [hT.len]; omega)]
  obtain rfl : k = ts.length := by omega
  rw [List.take_length] at hB
  clear hK
  refine NewM.mk fun b23 w5 e5 h23 n23 s23 => ?_
  replace h23 : Mp Value.string Sl.v w5 b23 ([] : List (ByteArray × Sl)) := Mp.new h23
  refine New.var [.map (some b23)] sz97 rfl (by simp [Value.oneCell']) rfl fun b6 w6 e6 h6 nb6 => ?_
  refine New.mk fun b7 w7 e7 h7 n7 s7 => ?_
  refine rnu_st (b := b7) (o := 0) rfl h7 [ofV b6 b3 b7] sz154 rfl (by simp [Value.oneCell', ofV]) (by simp) fun w8 c8 s8 h7 => ?_
  replace h7 : Blk w8 b7 154 [ofV b6 b3 b7] := h7
  have E5 : Ext w4 w6 := e5.trans e6
  have g6 := e6.size; have g7 := e7.size; have g5 := e5.size
  have E8 : Ext w4 w8 := (E5.trans e7).then c8 (fun b hb => by omega)
  have E8' : Ext w6 w8 := e7.then c8 (fun b hb => by omega)
  have h3lt := h3.lt; have h9lt := h9.lt; have h6lt := h6.lt; have h7lt := h7.lt
  have hdet : ∀ n t, mget ms n = some t → ∃ (i : Nat) (hi : i < rs.length) (hi' : i < l.length), rs[i].Targets = t ∧ splitOf l n = some l[i] := fun n t ht => by
    obtain ⟨r, hr, h1, h2⟩ := hA n t ht
    obtain ⟨i, hi, rfl, hk⟩ := hmem r hr
    obtain ⟨hi', hs⟩ := split_of h hf.ord hi hk
    exact ⟨i, hi, hi', h2, by rw [← h1]; exact hs⟩
  have hkeys : ∀ n d, splitOf l n = some d → n ∈ mkeys ms := fun n d hs => by
    obtain ⟨i, hi, _, _, hk, hn⟩ := split_at h hf.ord hs
    rw [← hn]
    exact hB _ (by rw [← hts]; exact List.mem_filter.2 ⟨List.getElem_mem hi, by simpa using hk⟩)
  have hW : AllW (fun b => F b ∧ b < w.heap.size) l b3 b6 b7 b9 b23 ms w8 := by
    have glow := hE.size
    refine ⟨h3.ext E8, h6.ext E8', h7, h9.ext E8, fun n d hs => ?_, fun n hs => ?_, ⟨by omega, by omega, by omega, by omega⟩, fun b hb => by have := hb.2; omega⟩
    · cases hg : mget ms n with
      | none => exact absurd (hkeys n d hs) (mget_none.1 hg)
      | some t =>
        obtain ⟨i, hi, hi', ht, hs'⟩ := hdet n t hg
        rw [hs] at hs'; cases hs'
        refine ⟨t, rfl, ?_⟩
        rw [← ht]
        exact ((h.low).el i hi hi').targets.ext (hE.trans E8)
    · cases hg : mget ms n with
      | none => rfl
      | some t => obtain ⟨i, hi, hi', ht, hs'⟩ := hdet n t hg; rw [hs] at hs'; cases hs'
  have hD : DoneI (fun _ => False) l b23 w8 [] := ⟨(h23.ext e6).ext E8', fun n v hv => by cases hv⟩
  refine rn_blk (x := some b9) one153 hW.hb3 rfl rfl ?_
  refine rn_range mapT153 hW.hms fun r w9 e9 hr9 hR => ?_
  have hb23 := hD.mp.lt
  have hW9 := hW.chg (e9.chg _)
  have glow := hE.size
  have g8 := E8.size
  have hE9 : Ext w w9 := (hE.trans E8).trans e9
  have hr23 : r ≠ b23 := by omega
  have hD9 : DoneI (fun b => b = r) l b23 w9 [] := ⟨(hD.ext e9).mp, fun n v hv => by cases hv⟩
  refine ⟨fun (_ : Unit) w' => ∃ (left : List (ByteArray × Sl)) (m : List (ByteArray × Sl)), Ext w w' ∧ r < w'.heap.size ∧ Rg Value.string Sl.v w' r b9 left ∧ AllW (fun b => F b ∧ b < w.heap.size) l b3 b6 b7 b9 b23 ms w' ∧ DoneI (fun b => b = r) l b23 w' m ∧
      (∀ x ∈ left, x ∈ ms) ∧ (∀ n ∈ mkeys ms, n ∈ mkeys left ∨ n ∈ mkeys m), fun _ w' => rgLeft w' r b9,
    ⟨ms, [], hE9, by have := hR.lt; omega, hR, hW9, hD9, fun x hx => hx, fun n hn => .inl hn⟩, ?_⟩
  rintro _ w10 ⟨left, m, hE10, hrl, hR10, hW10, hD10, hin, hall⟩
  have hlow : w.heap.size ≤ r := by omega
  refine rn_next hR10 (fun h0 => ?_) fun j n t w11 hj c11 s11 hR11 hent => ?_
  · refine rnp_extract (x := false) rfl ?_
    refine iteF (by simp) ?_
    refine rn_blk (x := some b23) one97 hW10.hb6 rfl rfl ?_
    refine ⟨hE10, b23, m, rfl, by omega, hD10.weaken (fun _ _ h => h.elim), fun n hn => ?_⟩
    obtain ⟨d, hs⟩ := Option.isSome_iff_exists.1 hn
    rcases hall n (hkeys n d hs) with h | h
    · rw [h0] at h; cases h
    · exact h
  · refine rnp_extract (x := true) rfl ?_
    refine iteT rfl ?_
    refine ⟨_, w11, hent, ?_⟩
    refine rnp_extract (x := n) rfl ?_
    have hW11 := hW10.chgR c11 (by omega) (by omega) (by omega) (by omega) (fun b hb he => by have := hb.2; omega)
    refine rn_blk (x := ofV b6 b3 b7) one154 hW11.hb7 rfl rfl ?_
    refine ⟨99, #[], #[Ptr ⟨b6, 0, none⟩, Ptr ⟨b3, 0, none⟩, Ptr ⟨b7, 0, none⟩], rfl, fun vs w => enters Try.func99 rfl rfl vs w, ?_⟩
    have hD11 : DoneI (fun b => b = r) l b23 w11 m := hD10.chg c11 (fun h => hr23 h.symm) (fun b _ h => h) (fun b _ h => h)
    have hnm : (n, t) ∈ ms := hin _ (List.mem_of_getElem? hj)
    have hnt : mget ms n = some t := mget_of_mem hW11.hms.keys hnm
    obtain ⟨i, hi, hi', _, hs⟩ := hdet n t hnt
    have h8 := hf.deep n _ hs
    refine Cal.mono (of_shares hf.stand hf.few 8 w11 (fun b => b = r) m n h8 h8 hW11 hD11 (fun b hb => by omega)) ?_
    rintro v w12 ⟨c12, _, m', hD12, hn', hg⟩
    have hR12 : Rg Value.string Sl.v w12 r b9 (left.eraseIdx j) := hR11.chg c12 hr23 (by have := hW11.ne.2.2.2; exact this)
    refine ⟨⟨left.eraseIdx j, m', (hE10.then c11 (fun b hb => by omega)).then c12 (fun b hb => by omega), by have := c12.size; omega, hR12, hW11.chg c12, hD12, fun x hx => hin x (List.mem_of_mem_eraseIdx hx), fun n2 hn2 => ?_⟩, ?_⟩
    · rcases hall n2 hn2 with h | h
      · obtain ⟨x, hx, rfl⟩ := List.mem_map.1 h
        obtain ⟨q, hq, rfl⟩ := List.mem_iff_getElem.1 hx
        obtain ⟨hjl, hje⟩ := List.getElem?_eq_some_iff.1 hj
        by_cases e : q = j
        · subst e; rw [hje]; exact .inr hn'
        · left
          refine List.mem_map.2 ⟨left[q], ?_, rfl⟩
          rw [List.mem_eraseIdx_iff_getElem]
          exact ⟨q, hq, e, rfl⟩
      · exact .inr (hg n2 h)
    · show rgLeft w12 r b9 < rgLeft w10 r b9
      rw [hR12.left, hR10.left, List.length_eraseIdx]
      have hjl := (List.getElem?_eq_some_iff.1 hj).1
      rw [if_pos hjl]; omega
/-- the shares of one split -/
theorem prog_shares_ok (h : ConfD F w s rs l) (hft : Fit l) (hb : (rs.length + 1) * 136 ≤ 140737488355328) (n : ByteArray) :
    Cal PP (fun x : Sl × Int => Value.tuple #[Sl.v x.1, .int .i64 x.2]) 17 #[s.v, .string n] w fun x w' => Ext w w' ∧ x.2 = errS l n ∧ ∃ xs, Rd TShare.cells 2 (fun b => w.heap.size ≤ b ∧ b < w'.heap.size) w' x.1 xs ∧ ShD xs (ansS l n) := by
  refine c17 ?_
  unfold f17
  refine New.mk fun b3 w1 e1 h3 n3 s3 => ?_
  refine (check_ok (h.ext e1) hft).mono ?_
  rintro ⟨x, f⟩ w2 ⟨e2, hfl⟩
  dsimp only at hfl ⊢
  subst hfl
  refine New.var (TFault.cells (faultM l)) sz80 rfl (oc_fault _) rfl fun b7 w3 e3 h7 nb7 => ?_
  have E3 := (e1.trans e2).trans e3
  refine rn_blk (x := (faultM l).Err) one25 h7 rfl rfl ?_
  by_cases c : (faultM l).Err = 0
  · refine iteF (by simpa using c) ?_
    have hf := fault_err c
    refine (named_ok (h.rd.ext E3) 2 hb).mono ?_
    rintro t w4 ⟨e4, hO⟩
    have E4 := E3.trans e4
    have h3' := h3.ext ((e2.trans e3).trans e4)
    refine (contains_ok (hO.rd (F := fun _ => True) (fun _ _ => trivial)) h3').mono ?_
    rintro _ w5 ⟨e5, rfl⟩
    have E5 := E4.trans e5
    rw [hasR_split h hf.ord]
    cases hs : (splitOf l n).isSome with
    | false =>
      refine iteT rfl ⟨E5, ?_, [], Rd.nil_ _ _, ?_⟩
      · unfold errS; rw [if_neg (by simpa using c), hs]; rfl
      · unfold ansS; rw [if_neg (by simp [hs])]; exact ShD.nil
    | true =>
      refine iteF (by simp) ?_
      refine Dr.mk fun w6 e6 _ => ?_
      have E6 := E5.trans e6
      refine rnl_blk (x := n) one9 ((h3'.ext e5).ext e6) rfl rfl ?_
      refine (allMap_ok (h.ext E6) hf).mono ?_
      rintro v w7 ⟨e7, b, m, rfl, hbl, hD, hall⟩
      refine ⟨e7, ?_⟩
      refine rn_get (k := n) mapT97 hD.mp ?_
      have hn := hall n hs
      cases hg : mget m n with
      | none => exact absurd hn (mget_none.1 hg)
      | some u =>
        obtain ⟨xs, r, d⟩ := hD.el n u hg
        have hok := (sh_ok hf.stand 9 n).len
        have hfew := hf.few
        have hxl : xs.length ≤ l.length := by rw [d.len]; exact hok
        refine (cloneShares_ok r (by omega)).mono ?_
        rintro y w8 ⟨e8, r8⟩
        have E7 := E6.trans e7
        have g7 := E7.size
        refine ⟨E7.trans e8, ?_, xs, r8.mono fun b hb => ⟨by omega, hb.2⟩, ?_⟩
        · unfold errS; rw [if_neg (by simpa using c), hs]; rfl
        · unfold ansS; rw [if_pos ⟨c, hs⟩]; exact d
  · refine iteT (by simpa using c) ?_
    refine Dr.mk fun w4 e4 _ => ?_
    refine rnl_blk (x := (faultM l).Err) one25 (h7.ext e4) rfl rfl ?_
    refine ⟨E3.trans e4, ?_, [], Rd.nil_ _ _, ?_⟩
    · unfold errS; rw [if_pos c]
    · unfold ansS; rw [if_neg (by simp [c])]; exact ShD.nil
end
end Go.Proofs.Ytdoeegfcmbcbkaa.Ct

/- Contracts: the shares of all splits, and the shares of one, by the document's package. -/
namespace Go.Proofs.Ytdoeegfcmbcbkaa.Ct
open Go Go.Eng Tr
set_option linter.unusedVariables false
set_option maxRecDepth 100000

def sls (x : Sl) : List Value := [Sl.v x]
theorem oc_sls (x : Sl) : ∀ u ∈ sls x, u.oneCell' = true := by simp [sls, Value.oneCell', Sl.v]
/-- what has been reckoned, as it is read -/
structure KnR (l : List DRes) (b9 : Nat) (w : World) (sn sq : Sl) (ns : List ByteArray) (qs : List Sl) : Prop where
  hb9 : Blk w b9 109 (TKnown15.cells ⟨sn, sq⟩)
  hns : Rd bs 1 (fun _ => True) w sn ns
  hqs : Rd sls 1 (fun _ => True) w sq qs
  len : ns.length = qs.length
  el : ∀ i (h : i < ns.length) (h' : i < qs.length), ∃ xs, Rd TShare.cells 2 (fun _ => True) w qs[i] xs ∧ ShD xs (shF l ns[i])
section
variable {w w' : World} {F : Nat → Prop} {s sn sq : Sl} {rs : List TResource} {l : List DRes} {b9 : Nat} {ns : List ByteArray} {qs : List Sl}
theorem KnR.ext (h : KnR l b9 w sn sq ns qs) (k : Ext w w') : KnR l b9 w' sn sq ns qs := ⟨h.hb9.ext k, h.hns.ext k, h.hqs.ext k, h.len, fun i a b => let ⟨xs, r, d⟩ := h.el i a b; ⟨xs, r.ext k, d⟩⟩
def atN (ns : List ByteArray) (n : ByteArray) (i : Nat) : Bool := match ns[i]? with
  | some x => decide (x = n)
  | none => false
theorem atN_eq {n : ByteArray} {i : Nat} (h : i < ns.length) : atN ns n i = decide (ns[i] = n) := by simp [atN, h]
theorem at_ok (h : KnR l b9 w sn sq ns qs) (n : ByteArray) : Cal PP (Value.int .i64) 60 #[.pointer (some ⟨b9, 0, none⟩), .string n] w fun x w' => w' = w ∧ x = fst? (atN ns n) ns.length := by
  refine c60 ?_
  unfold f60
  refine Lp.mk (fun (i : Int) w' => ∃ k : Nat, i = k ∧ k ≤ ns.length ∧ w' = w ∧ ∀ j, j < k → atN ns n j = false) (fun i => ns.length - i.toNat) ⟨0, rfl, Nat.zero_le _, rfl, fun j hj => absurd hj (Nat.not_lt_zero _)⟩ ?_
  rintro i _ K ⟨k, rfl, hk, rfl, hall⟩ hK
  refine ⟨_, rfl, ?_⟩
  refine rn_blk (x := sn) one44 h.hb9 rfl rfl ?_
  by_cases hlt : k < ns.length
  · refine iteT (by rw [h.hns.len]; omega) ?_
    refine ⟨_, rfl, ?_⟩
    refine rn_blk (x := sn) one44 h.hb9 rfl rfl ?_
    refine rnp_idx sl44 h.hns hlt rfl fun p _ hp => ?_
    refine rn_at0 one9 hp ?_
    have ha := atN_eq (n := n) hlt
    by_cases c : ns[k] = n
    · exact iteT c ⟨rfl, (fst?_some hlt (by rw [ha]; simpa using c) hall).symm⟩
    · refine iteF c ?_
      rw [h.hns.wr hlt]
      exact hK _ _ ⟨k + 1, rfl, hlt, rfl, all_succ hall (by rw [ha]; simpa using c)⟩ (by omega)
  · refine iteF (by rw [h.hns.len]; omega) ⟨rfl, (fst?_none fun j hj => hall j (by omega)).symm⟩
theorem atN_cases (ns : List ByteArray) (n : ByteArray) : (fst? (atN ns n) ns.length = -1 ∧ n ∉ ns) ∨ ∃ (k : Nat) (hk : k < ns.length), fst? (atN ns n) ns.length = k ∧ ns[k] = n := by
  rcases fst?_le (p := atN ns n) (n := ns.length) with h | ⟨k, h, hk, hp⟩
  · refine .inl ⟨h, fun hm => ?_⟩
    obtain ⟨i, hi, rfl⟩ := List.mem_iff_getElem.1 hm
    have := fst?_neg (by omega : fst? (atN ns ns[i]) ns.length < 0) i hi
    rw [atN_eq hi] at this; simp at this
  · exact .inr ⟨k, hk, h, by rw [atN_eq hk] at hp; simpa using hp⟩
theorem one_ok (hk : KnR l b9 w sn sq ns qs) {r : TResource} {d : DRes} (hr : ResD F w r d) (hok : ∀ k, OkS l (sumS (shF l) (d.targets.take k))) (hS : Stand l) (hlen : l.length ≤ 64) :
    Cal PP (fun x : Sl × Bool => Value.tuple #[Sl.v x.1, .bool x.2]) 104 #[.pointer (some ⟨b9, 0, none⟩), r.v] w fun x w' => Ext w w' ∧ (x.2 = true → ∃ xs, Own TShare.cells 2 32 w.heap.size w' x.1 xs ∧ ShD xs (sumS (shF l) d.targets)) ∧ ((∀ c ∈ kidsOf d, c ∈ ns) → x.2 = true) := by
  refine c104 ?_
  unfold f104
  have ht0 := hr.targets
  generalize hts : d.targets = ts at ht0 hok
  refine New.mk fun b3 w1 e1 h3 n3 s3 => ?_
  refine Lp.mk (fun (y : Sl × Int) w' => ∃ (k : Nat) (xs : List TShare), y.2 = k ∧ k ≤ ts.length ∧ Ext w w' ∧ Own TShare.cells 2 32 w.heap.size w' y.1 xs ∧ (∀ b, own? y.1 b → b ≠ b3) ∧ ShD xs (sumS (shF l) (ts.take k)) ∧ Blk w' b3 48 (TResource.cells r)) (fun y => ts.length - y.2.toNat)
    ⟨0, [], rfl, Nat.zero_le _, e1, Own.nil_ _ _, (fun b ⟨a, ha, _⟩ => by cases ha), ShD.nil, h3⟩ ?_
  rintro ⟨z, _⟩ w2 K ⟨k, xs, rfl, hkl, hE, hO, hne, hd, h3⟩ hK
  dsimp only at hO hne ⊢
  have ht := ht0.ext hE
  refine rn_blk (x := r.Targets) one45 h3 rfl rfl ?_
  by_cases hlt : k < ts.length
  · refine iteT (by rw [ht.len]; omega) ?_
    refine ⟨fun z w' => ∃ xs, Ext w w' ∧ Own TShare.cells 2 32 w.heap.size w' z xs ∧ (∀ b, own? z b → b ≠ b3) ∧ ShD xs (sumS (shF l) (ts.take (k + 1))) ∧ Blk w' b3 48 (TResource.cells r), ?_, ?_⟩
    · have hok1 := hok (k + 1)
      rw [sumS_succ hlt] at hok1 ⊢
      refine rn_blk (x := r.Targets) one45 h3 rfl rfl ?_
      refine rnp_idx sl45 ht hlt rfl fun p _ hp => ?_
      refine rn_at (x := ts[k].Weight) one30 hp rfl ?_
      refine arith_run .quo _ rfl fun wv w3 hwv e3 _ => ?_
      replace hwv : Fl (wt ts[k]) wv := hwv
      replace hE := hE.trans e3; replace hO := hO.ext e3; replace h3 := h3.ext e3
      replace ht := ht0.ext hE
      refine rn_blk (x := r.Targets) one45 h3 rfl rfl ?_
      refine rnp_idx sl45 ht hlt rfl fun p _ hp => ?_
      refine rn_at (x := ts[k].Service) one9 hp rfl ?_
      have g3 := h3.lt
      have gE := hE.size
      unfold partS at hok1 ⊢
      by_cases c : ts[k].Service = ⟨#[]⟩
      · rw [if_pos c] at hok1 ⊢
        refine iteF (by simpa using c) ?_
        refine rn_blk (x := r.Targets) one45 h3 rfl rfl ?_
        refine rnp_idx sl45 ht hlt rfl fun p _ hp => ?_
        refine rn_at (x := ts[k].Split) one9 hp rfl ?_
        refine (at_ok (hk.ext hE) ts[k].Split).mono ?_
        rintro _ w4 ⟨rfl, rfl⟩
        rcases atN_cases ns ts[k].Split with ⟨hx, hno⟩ | ⟨i, hi, hx, hni⟩
        · rw [hx]
          refine iteT (by decide) ⟨hE, (fun h => by cases h), fun h => ?_⟩
          refine absurd (h _ ?_) hno
          unfold kidsOf; rw [hts]
          exact List.mem_map.2 ⟨ts[k], List.mem_filter.2 ⟨List.getElem_mem hlt, by simpa using c⟩, rfl⟩
        · rw [hx]
          refine iteF (by omega) ?_
          have hiq : i < qs.length := by rw [← hk.len]; exact hi
          obtain ⟨vs, hv, hvd⟩ := hk.el i hi hiq
          rw [hni] at hvd
          have hvl := hvd.len
          refine Lp.mk (fun (y : Sl × Int) w' => ∃ (q : Nat) (xs : List TShare), y.2 = q ∧ q ≤ vs.length ∧ Ext w w' ∧ Own TShare.cells 2 32 w.heap.size w' y.1 xs ∧ (∀ b, own? y.1 b → b ≠ b3) ∧ ShD xs (mixS (wt ts[k]) (sumS (shF l) (ts.take k)) ((shF l ts[k].Split).take q)) ∧ Blk w' b3 48 (TResource.cells r)) (fun y => vs.length - y.2.toNat)
            ⟨0, xs, rfl, Nat.zero_le _, hE, hO, hne, hd, h3⟩ ?_
          clear hE hO hne hd h3 ht g3 gE
          rintro ⟨y, _⟩ w5 K2 ⟨q, xs5, rfl, hq, hE, hO, hne, hd, h3⟩ hK2
          dsimp only at hO hne ⊢
          have hk5 := hk.ext hE
          have hv5 := hv.ext hE
          have rdq : ∀ {K : Sl → World → Prop}, K qs[i] w5 → NotNil (some ⟨b9, 0, none⟩) fun t54 => Rn PP Sl.v (Instr.loadAt 107 (Ptr (t54.add 1))) w5 fun t56 w => RnP PP Ptr (Instr.indexAt 107 (Sl.v t56) (.int .i64 (i : Int))) fun t58 => Rn PP Sl.v (Instr.loadAt 23 (Ptr t58)) w K := fun hKK => by
            refine ⟨_, rfl, ?_⟩
            refine rn_blk (x := sq) one107 hk5.hb9 rfl rfl ?_
            refine rnp_idx sl107 hk5.hqs hiq rfl fun p _ hp => ?_
            exact rn_at0 one23 hp hKK
          refine rdq ?_
          by_cases hqv : q < vs.length
          · refine iteT (by rw [hv5.len]; omega) ?_
            have hqs : q < (shF l ts[k].Split).length := by omega
            have hel := hvd.el q hqv hqs
            refine rdq ?_
            refine rnp_idx sl23 hv5 hqv rfl fun p _ hp => ?_
            refine rn_at (x := vs[q].Upto) one30 hp rfl ?_
            refine rn_mul2 hwv hel.2 fun pv w6 hpv e6 _ => ?_
            have hk6 := hk5.ext e6
            refine ⟨_, rfl, ?_⟩
            refine rn_blk (x := sq) one107 hk6.hb9 rfl rfl ?_
            refine rnp_idx sl107 hk6.hqs hiq rfl fun p _ hp => ?_
            refine rn_at0 one23 hp ?_
            refine rnp_idx sl23 (hv5.ext e6) hqv rfl fun p _ hp => ?_
            refine rn_at (x := vs[q].Service) one9 hp rfl ?_
            have hb := OkS.len (OkS.mix (x := wt ts[k]) (zs := (shF l ts[k].Split).take q) (hok k) fun p hp => (sh_ok hS 9 ts[k].Split).has p (List.mem_of_mem_take hp))
            have gsz := hE.size
            have gs := e6.size
            have g3 := h3.lt
            refine Cal.mono (refAdd_ok (n := vs[q].Service) (hO.ext e6) hd (by omega) hpv (by omega)) ?_
            rintro z' w8 ⟨c8, n8, xs8, hO8, hd8⟩
            rw [hv5.wr hqv]
            have own5 : ∀ b, own? y b → w.heap.size ≤ b ∧ b < w5.heap.size := fun b hb => hO.ge hb
            refine hK2 _ _ ⟨q + 1, xs8, rfl, hqv, (hE.trans e6).then c8 (fun b hb => (own5 b hb).1), hO8, fun b hb => ?_, ?_, (h3.ext e6).chg c8 (fun ho => hne _ ho rfl)⟩ (by dsimp only; omega)
            · rcases n8 b hb with h | h
              · exact hne b h
              · omega
            · rw [mixS_succ hqs]; rw [hel.1] at hd8; exact hd8
          · refine iteF (by rw [hv5.len]; omega) ?_
            obtain rfl : q = vs.length := by omega
            rw [hvl, List.take_length] at hd
            exact ⟨xs5, hE, hO, hne, hd, h3⟩
      · rw [if_neg c] at hok1 ⊢
        refine iteT (by simpa using c) ?_
        refine rn_blk (x := r.Targets) one45 h3 rfl rfl ?_
        refine rnp_idx sl45 ht hlt rfl fun p _ hp => ?_
        refine rn_at (x := ts[k].Service) one9 hp rfl ?_
        have hb := (hok k).len
        refine Cal.mono (refAdd_ok (n := ts[k].Service) hO hd (by omega) hwv (by omega)) ?_
        rintro z' w8 ⟨c8, n8, xs8, hO8, hd8⟩
        refine ⟨xs8, hE.then c8 (fun b hb => (hO.ge hb).1), hO8, fun b hb => ?_, hd8, h3.chg c8 (fun ho => hne _ ho rfl)⟩
        · rcases n8 b hb with h | h
          · exact hne b h
          · omega
    · rintro z' w4 ⟨xs4, hE, hO, hne, hd, h3⟩
      rw [ht.wr hlt]
      exact hK _ _ ⟨k + 1, xs4, rfl, hlt, hE, hO, hne, hd, h3⟩ (by dsimp only; omega)
  · refine iteF (by rw [ht.len]; omega) ?_
    obtain rfl : k = ts.length := by omega
    rw [List.take_length] at hd
    exact ⟨hE, fun _ => ⟨xs, hO, hd⟩, fun _ => rfl⟩
end
end Go.Proofs.Ytdoeegfcmbcbkaa.Ct

/- Contracts: all splits reckoned round by round, and the shares of one, by the document's package. -/
namespace Go.Proofs.Ytdoeegfcmbcbkaa.Ct
open Go Go.Eng Tr
set_option linter.unusedVariables false
set_option maxRecDepth 100000

/-- what has been reckoned, in memory of its own -/
structure KnO (l : List DRes) (B b9 : Nat) (w : World) (sn sq : Sl) (ns : List ByteArray) (qs : List Sl) : Prop where
  hb9 : Blk w b9 109 (TKnown15.cells ⟨sn, sq⟩)
  low : B ≤ b9
  on : Own bs 1 9 B w sn ns
  oq : Own sls 1 23 B w sq qs
  n9 : ∀ b, own? sn b → b ≠ b9
  q9 : ∀ b, own? sq b → b ≠ b9
  nq : ∀ b, own? sn b → ¬ own? sq b
  len : ns.length = qs.length
  el : ∀ i (h : i < ns.length) (h' : i < qs.length), ∃ xs, Rd TShare.cells 2 (fun b => (b ≠ b9 ∧ ¬ own? sn b ∧ ¬ own? sq b) ∧ b < w.heap.size) w qs[i] xs ∧ ShD xs (shF l ns[i])
  nd : ns.Nodup
  sub : ∀ n ∈ ns, (splitOf l n).isSome = true
section
variable {w w' : World} {F : Nat → Prop} {s sn sq : Sl} {rs : List TResource} {l : List DRes} {B b9 : Nat} {ns : List ByteArray} {qs : List Sl}
theorem KnO.ext (h : KnO l B b9 w sn sq ns qs) (k : Ext w w') : KnO l B b9 w' sn sq ns qs :=
  ⟨h.hb9.ext k, h.low, h.on.ext k, h.oq.ext k, h.n9, h.q9, h.nq, h.len, fun i a b => let ⟨xs, r, d⟩ := h.el i a b; ⟨xs, (r.ext k).mono fun b hb => ⟨hb.1, by have := k.size; omega⟩, d⟩, h.nd, h.sub⟩
theorem KnO.r (h : KnO l B b9 w sn sq ns qs) : KnR l b9 w sn sq ns qs :=
  ⟨h.hb9, h.on.rd (fun _ _ => trivial), h.oq.rd (fun _ _ => trivial), h.len, fun i a b => let ⟨xs, r, d⟩ := h.el i a b; ⟨xs, r.mono fun _ _ => trivial, d⟩⟩
theorem KnO.few (h : KnO l B b9 w sn sq ns qs) : ns.length ≤ l.length := by
  have := sub_len (ys := l.map (·.name)) h.nd fun n hn => by
    obtain ⟨d, hs⟩ := Option.isSome_iff_exists.1 (h.sub n hn)
    obtain ⟨h1, _, h3⟩ := splitOf_mem hs
    exact List.mem_map.2 ⟨d, h1, h3⟩
  simpa using this
def unkS (ns : List ByteArray) (d : DRes) : Bool := decide (d.kind = 2) && !(ns.any fun x => decide (x = d.name))
theorem unkS_iff {ns : List ByteArray} {d : DRes} : unkS ns d = true ↔ d.kind = 2 ∧ d.name ∉ ns := by
  simp only [unkS, Bool.and_eq_true, decide_eq_true_eq, Bool.not_eq_true', List.any_eq_false]
  exact ⟨fun ⟨h1, h2⟩ => ⟨h1, fun hm => h2 _ hm rfl⟩, fun ⟨h1, h2⟩ => ⟨h1, fun x hx e => h2 (e ▸ hx)⟩⟩
theorem unkS_no {ns : List ByteArray} {d : DRes} (h : d.name ∈ ns ∨ d.kind ≠ 2) : unkS ns d = false := by
  cases c : unkS ns d with
  | false => rfl
  | true => obtain ⟨h1, h2⟩ := unkS_iff.1 c; rcases h with h | h; exact absurd h h2; exact absurd h1 h
theorem unkS_in {ns : List ByteArray} {d : DRes} (h : unkS ns d = false) (h2 : d.kind = 2) : d.name ∈ ns := Classical.byContradiction fun hn => by rw [unkS_iff.2 ⟨h2, hn⟩] at h; cases h
theorem refAll_ok (h : ConfD F w s rs l) (hf : Fine l) : Cal PP Value.pointer 59 #[s.v] w fun v w' => Ext w w' ∧ ∃ b9 sn sq ns qs, v = some ⟨b9, 0, none⟩ ∧ w.heap.size ≤ b9 ∧ KnR l b9 w' sn sq ns qs ∧ (∀ n, (splitOf l n).isSome = true → n ∈ ns) ∧ ∀ n ∈ ns, (splitOf l n).isSome = true := by
  refine c59 ?_
  unfold f59
  have hfew := hf.few
  refine New.mk fun b9 w1 e1 h9 n9 s9 => ?_
  have hK0 : KnO l w.heap.size b9 w1 Sl.nil Sl.nil [] [] := ⟨h9, by omega, Own.nil_ _ _, Own.nil_ _ _, (fun b ⟨a, ha, _⟩ => by cases ha), (fun b ⟨a, ha, _⟩ => by cases ha), (fun b ⟨a, ha, _⟩ => by cases ha), rfl, (fun i h => absurd h (Nat.not_lt_zero _)), List.nodup_nil, (fun n hn => by cases hn)⟩
  refine Lp.mk (fun (i : Int) w' => ∃ (k : Nat) (sn sq : Sl) (ns : List ByteArray) (qs : List Sl), i = k ∧ k ≤ l.length ∧ Ext w w' ∧ KnO l w.heap.size b9 w' sn sq ns qs ∧ l.countP (unkS ns) + k ≤ l.length) (fun i => l.length - i.toNat)
    ⟨0, _, _, _, _, rfl, Nat.zero_le _, e1, hK0, List.countP_le_length⟩ ?_
  clear hK0
  rintro i w2 K ⟨r, sn, sq, N0, qs, rfl, hr, hE, hKn, hcnt⟩ hK
  by_cases hlt : r < l.length
  · rw [if_pos (by rw [h.n]; omega)]
    refine Lp.mk (fun (i : Int) w' => ∃ (k : Nat) (sn sq : Sl) (ns : List ByteArray) (qs : List Sl), i = k ∧ k ≤ l.length ∧ Ext w w' ∧ KnO l w.heap.size b9 w' sn sq ns qs ∧ (∀ n ∈ N0, n ∈ ns) ∧ ∀ j (hj : j < l.length), j < k → l[j].kind = 2 → (∀ c ∈ kidsOf l[j], c ∈ N0) → l[j].name ∈ ns) (fun i => l.length - i.toNat)
      ⟨0, sn, sq, N0, qs, rfl, Nat.zero_le _, hE, hKn, fun _ h => h, fun j _ hj => absurd hj (Nat.not_lt_zero _)⟩ ?_
    clear hE hKn
    rintro i w3 K2 ⟨k, sn, sq, ns, qs, rfl, hk, hE, hKn, hsub, hall⟩ hK2
    by_cases hlk : k < l.length
    · rw [if_pos (by rw [h.n]; omega)]
      have hlr : k < rs.length := by rw [h.len]; exact hlk
      refine ⟨fun _ w' => ∃ (sn sq : Sl) (ns : List ByteArray) (qs : List Sl), Ext w w' ∧ KnO l w.heap.size b9 w' sn sq ns qs ∧ (∀ n ∈ N0, n ∈ ns) ∧ ∀ j (hj : j < l.length), j < k + 1 → l[j].kind = 2 → (∀ c ∈ kidsOf l[j], c ∈ N0) → l[j].name ∈ ns, ?_, ?_⟩
      · refine ⟨fun x w' => w' = w3 ∧ x = !(unkS ns l[k]), ?_, ?_⟩
        · refine (h.ext hE).idx hlk rfl fun p r _ hp hr => ?_
          refine rn_at (x := r.Kind) one3 hp rfl ?_
          rw [hr.kind]
          by_cases c : l[k].kind = 2
          · refine iteF (by simpa using c) ?_
            refine (h.ext hE).idx hlk rfl fun p r _ hp hr => ?_
            refine rn_at (x := r.Name) one9 hp rfl ?_
            rw [hr.name]
            refine (at_ok hKn.r l[k].name).mono ?_
            rintro _ w4 ⟨rfl, rfl⟩
            refine ⟨rfl, ?_⟩
            rcases atN_cases ns l[k].name with ⟨hx, hno⟩ | ⟨i, hi, hx, hni⟩
            · rw [hx, unkS_iff.2 ⟨c, hno⟩]; rfl
            · have hin : l[k].name ∈ ns := by rw [← hni]; exact List.getElem_mem hi
              rw [hx, unkS_no (.inl hin)]; simp
          · exact iteT (by simpa using c) ⟨rfl, by rw [unkS_no (.inr c)]; rfl⟩
        rintro _ w4 ⟨rfl, rfl⟩
        cases hu : unkS ns l[k] with
        | false =>
          refine iteT rfl ⟨sn, sq, ns, qs, hE, hKn, hsub, fun j hj hjk h2 hc => ?_⟩
          by_cases hjk' : j < k
          · exact hall j hj hjk' h2 hc
          · obtain rfl : j = k := by omega
            exact unkS_in hu h2
        | true =>
          refine iteF (by simp) ?_
          obtain ⟨hk2, hno⟩ := unkS_iff.1 hu
          have hsp := splitOf_self hf.ord _ (List.getElem_mem hlk) hk2
          have h8 := hf.deep _ _ hsp
          refine (h.ext hE).idx hlk rfl fun p r _ hp hr => ?_
          refine rn_ldN (x := r) many48 hp rfl rfl ?_
          refine (one_ok hKn.r hr (sumS_ok hf.stand (List.getElem_mem hlk) hk2) hf.stand hfew).mono ?_
          rintro ⟨z, ok⟩ w5 ⟨e5, hyes, hkids⟩
          dsimp only at hyes hkids ⊢
          cases ok with
          | false =>
            refine iteF (by simp) ⟨sn, sq, ns, qs, hE.trans e5, hKn.ext e5, hsub, fun j hj hjk h2 hc => ?_⟩
            by_cases hjk' : j < k
            · exact hall j hj hjk' h2 hc
            · obtain rfl : j = k := by omega
              exact absurd (hkids fun c hc' => hsub _ (hc c hc')) (by simp)
          | true =>
            refine iteT rfl ?_
            obtain ⟨xs, hz, hzd⟩ := hyes rfl
            rw [← shF_eq h8 hsp] at hzd
            clear hyes hkids hp hr
            refine Dr.mk fun w6 e6 _ => ?_
            have E6 := e5.trans e6
            have hKn6 := hKn.ext E6
            have hE6 := hE.trans E6
            have hz6 := hz.ext e6
            refine rnl_blk (x := sn) one44 hKn6.hb9 rfl rfl ?_
            refine (h.ext hE6).idx hlk rfl fun p r _ hp hr => ?_
            refine rnl_at (x := r.Name) one9 hp rfl ?_
            rw [hr.name]
            refine New.mk fun b58 w7 e7 h58 n58 s58 => ?_
            have hKn7 := hKn6.ext e7
            have hlen := hKn.few
            have gB := hE.size; have g6 := E6.size; have g7 := e7.size
            refine rn_app1 (x := l[k].name) el44 hKn7.on h58 rfl rfl (oc_bs _) (by omega) (by decide) (by omega) fun sn' w8 O8 c8 n8 => ?_
            have g8 := c8.size
            have l9 := hKn7.hb9.lt
            have on7 : ∀ b, own? sn b → w.heap.size ≤ b ∧ b < w4.heap.size := fun b hb => hKn.on.ge hb
            have oq7 : ∀ b, own? sq b → w.heap.size ≤ b ∧ b < w4.heap.size := fun b hb => hKn.oq.ge hb
            have lo9 : w.heap.size ≤ b9 ∧ b9 < w4.heap.size := ⟨hKn.low, hKn.hb9.lt⟩
            have zo : ∀ b, own? z b → w4.heap.size ≤ b ∧ b < w6.heap.size := fun b hb => hz6.ge hb
            have b9_8 := hKn7.hb9.chg c8 (fun ho => hKn.n9 _ ho rfl)
            refine rnu_st (b := b9) (o := 0) rfl b9_8 [Sl.v sn'] sz44 rfl (by simp [Sl.v, Value.oneCell']) (by simp [TKnown15.cells]) fun w9 c9 s9' b9_9 => ?_
            replace b9_9 : Blk w9 b9 109 (TKnown15.cells ⟨sn', sq⟩) := b9_9
            refine rn_blk (x := sq) one107 b9_9 rfl rfl ?_
            refine New.mk fun b68 w10 e10 h68 n68 s68 => ?_
            have oq10 : Own sls 1 23 w.heap.size w10 sq qs := (((hKn7.oq.chg c8 (fun b hb ho => hKn.nq b ho hb)).chg c9 (fun b hb => hKn.q9 b hb)).ext e10)
            have g10 := e10.size
            refine rn_app1 (x := z) el107 oq10 h68 rfl rfl (oc_sls _) (by rw [← hKn.len]; omega) (by decide) (by omega) fun sq' w11 O11 c11 n11 => ?_
            have g11 := c11.size
            have nsn : ∀ b, own? sn' b → (own? sn b ∨ b = w7.heap.size) ∧ b < w8.heap.size := fun b hb => ⟨n8 b hb, (O8.ge hb).2⟩
            have nsq : ∀ b, own? sq' b → own? sq b ∨ b = w10.heap.size := n11
            have hn9 : ∀ b, own? sn' b → b ≠ b9 := fun b hb => by
              rcases (nsn b hb).1 with h | h
              · exact hKn.n9 b h
              · omega
            have hnq : ∀ b, own? sn' b → ¬ own? sq' b := fun b hb hq => by
              have h0 := (nsn b hb).2
              rcases (nsn b hb).1 with h | h <;> rcases nsq b hq with h' | h'
              · exact hKn.nq b h h'
              · omega
              · have := (oq7 b h').2; omega
              · omega
            have hnq' : ∀ b, own? sn' b → ¬ own? sq b := fun b hb hq => by
              rcases (nsn b hb).1 with h | h
              · exact hKn.nq b h hq
              · have := (oq7 b hq).2; omega
            have hq9 : ∀ b, own? sq' b → b ≠ b9 := fun b hb => by
              rcases nsq b hb with h | h
              · exact hKn.q9 b h
              · omega
            have b9_11 := (b9_9.ext e10).chg c11 (fun ho => hKn.q9 _ ho rfl)
            refine rnu_st (b := b9) (o := 1) rfl b9_11 [Sl.v sq'] sz107 rfl (by simp [Sl.v, Value.oneCell']) (by simp [TKnown15.cells]) fun w12 c12 s12 b9_12 => ?_
            replace b9_12 : Blk w12 b9 109 (TKnown15.cells ⟨sn', sq'⟩) := b9_12
            have hE12 : Ext w w12 := ((((((hE6.trans e7).then c8 (fun b hb => (on7 b hb).1)).then c9 (fun b hb => by omega)).trans e10).then c11 (fun b hb => (oq7 b hb).1)).then c12 (fun b hb => by omega))
            -- what a slice of shares, apart from all these, reads as
            have carry : ∀ {v : Sl} {ys : List TShare} {G : Nat → Prop}, Rd TShare.cells 2 G w7 v ys → (∀ b, G b → (b ≠ b9 ∧ ¬ own? sn b ∧ ¬ own? sq b) ∧ b < w7.heap.size) →
                Rd TShare.cells 2 (fun b => (b ≠ b9 ∧ ¬ own? sn' b ∧ ¬ own? sq' b) ∧ b < w12.heap.size) w12 v ys := fun hv hG =>
              (((((hv.chg c8 (fun b hb _ => (hG b hb).1.2.1)).chg c9 (fun b hb _ => (hG b hb).1.1)).ext e10).chg c11 (fun b hb _ => (hG b hb).1.2.2)).chg c12 (fun b hb _ => (hG b hb).1.1)).mono fun b hb => by
                obtain ⟨⟨h1, h2, h3⟩, h4⟩ := hG b hb
                have g12 := c12.size; have g9 := c9.size
                refine ⟨⟨h1, fun ho => ?_, fun ho => ?_⟩, by omega⟩
                · rcases (nsn b ho).1 with h | h
                  · exact h2 h
                  · omega
                · rcases nsq b ho with h | h
                  · exact h3 h
                  · omega
            refine ⟨sn', sq', ns ++ [l[k].name], qs ++ [z], hE12, ⟨b9_12, hKn.low, ?_, ?_, hn9, hq9, hnq, by simp [hKn.len], ?_, ?_, ?_⟩, fun n hn => List.mem_append.2 (.inl (hsub n hn)), ?_⟩
            · exact (((O8.chg c9 (fun b hb => hn9 b hb)).ext e10).chg c11 (fun b hb => hnq' b hb)).chg c12 (fun b hb => hn9 b hb)
            · exact O11.chg c12 (fun b hb => hq9 b hb)
            · intro i hi hi'
              by_cases hin : i < ns.length
              · have hiq : i < qs.length := by rw [← hKn.len]; exact hin
                rw [List.getElem_append_left hin, List.getElem_append_left hiq]
                obtain ⟨ys, hv, hd⟩ := hKn7.el i hin hiq
                exact ⟨ys, carry hv fun b hb => hb, hd⟩
              · have : i = ns.length := by simp at hi; omega
                subst this
                have e1 : (ns ++ [l[k].name])[ns.length] = l[k].name := by simp
                have e2 : (qs ++ [z])[ns.length]'hi' = z := by simp [hKn.len]
                rw [e1, e2]
                refine ⟨xs, carry ((hz6.ext e7).rd (F := fun b => own? z b) (fun b hb => hb)) fun b hb => ?_, hzd⟩
                have := zo b hb
                exact ⟨⟨by omega, fun ho => by have := (on7 b ho).2; omega, fun ho => by have := (oq7 b ho).2; omega⟩, by omega⟩
            · rw [List.nodup_append]
              refine ⟨hKn.nd, by simp, fun a ha b hb => ?_⟩
              simp only [List.mem_singleton] at hb
              subst hb
              exact fun e => hno (e ▸ ha)
            · intro n hn
              rcases List.mem_append.1 hn with hn | hn
              · exact hKn.sub n hn
              · simp only [List.mem_singleton] at hn; subst hn; rw [hsp]; rfl
            · intro j hj hjk h2 hc
              by_cases hjk' : j < k
              · exact List.mem_append.2 (.inl (hall j hj hjk' h2 hc))
              · obtain rfl : j = k := by omega
                simp
      · rintro _ w4 ⟨sn, sq, ns, qs, hE, hKn, hsub, hall⟩
        rw [h.wr hlk]
        exact hK2 _ _ ⟨k + 1, sn, sq, ns, qs, rfl, hlk, hE, hKn, hsub, hall⟩ (by omega)
    · rw [if_neg (by rw [h.n]; omega)]
      obtain rfl : k = l.length := by omega
      rw [h.wr hlt]
      refine hK _ _ ⟨r + 1, sn, sq, ns, qs, rfl, hlt, hE, hKn, ?_⟩ (by omega)
      have hmono : ∀ x ∈ l, unkS ns x = true → unkS N0 x = true := fun x _ hx => by
        obtain ⟨hx1, hx2⟩ := unkS_iff.1 hx
        exact unkS_iff.2 ⟨hx1, fun hm => hx2 (hsub _ hm)⟩
      by_cases hex : ∃ m, ∃ d ∈ l, unkS N0 d = true ∧ hd l 8 d.name = m
      · obtain ⟨m, ⟨d, hd0, hu, hm⟩, hmin⟩ := least hex
        have hu' := unkS_iff.1 hu
        have hsp := splitOf_self hf.ord _ hd0 hu'.1
        have hin : d.name ∈ ns := by
          obtain ⟨j, hj, rfl⟩ := List.mem_iff_getElem.1 hd0
          refine hall j hj (by omega) hu'.1 fun c hc => ?_
          refine Classical.byContradiction fun hno => ?_
          obtain ⟨d', hs'⟩ := Option.isSome_iff_exists.1 (hf.kids _ _ c hsp hc)
          obtain ⟨q1, q2, q3⟩ := splitOf_mem hs'
          have hkid : c ∈ Ct.kids l l[j].name := by unfold Ct.kids; rw [hsp]; exact hc
          have hlt' := kid_hd (hf.deep _ _ hsp) hkid
          have := hmin (hd l 8 c) ⟨d', q1, unkS_iff.2 ⟨q2, by rw [q3]; exact hno⟩, by rw [q3]⟩
          omega
        have := cnt_lt l hmono ⟨d, hd0, hu, unkS_no (.inl hin)⟩
        omega
      · have h0 : l.countP (unkS N0) = 0 := List.countP_eq_zero.2 fun d hd hu => hex ⟨_, d, hd, hu, rfl⟩
        have := cnt_le l hmono
        omega
  · rw [if_neg (by rw [h.n]; omega)]
    obtain rfl : r = l.length := by omega
    refine ⟨hE, b9, sn, sq, N0, qs, rfl, hKn.low, hKn.r, fun n hn => ?_, hKn.sub⟩
    obtain ⟨d, hs⟩ := Option.isSome_iff_exists.1 hn
    obtain ⟨q1, q2, q3⟩ := splitOf_mem hs
    have h0 : l.countP (unkS N0) = 0 := by omega
    have := List.countP_eq_zero.1 h0 d q1
    rw [← q3]; exact unkS_in (by simpa using this) q2
theorem ref_shares_ok (h : ConfD F w s rs l) (hft : Fit l) (n : ByteArray) :
    Cal PP (fun x : Sl × Int => Value.tuple #[Sl.v x.1, .int .i64 x.2]) 18 #[s.v, .string n] w fun x w' => Ext w w' ∧ x.2 = errS l n ∧ ∃ xs, Rd TShare.cells 2 (fun _ => True) w' x.1 xs ∧ ShD xs (ansS l n) := by
  refine c18 ?_
  unfold f18
  refine (refCheck_ok h hft).mono ?_
  rintro ⟨x, f⟩ w2 ⟨e2, hfl⟩
  dsimp only at hfl ⊢
  subst hfl
  refine New.var (TFault14.cells (toRef (faultM l))) sz101 rfl (oc_fault14 _) rfl fun b7 w3 e3 h7 nb7 => ?_
  have E3 := e2.trans e3
  refine rn_blk (x := (faultM l).Err) one3 h7 rfl rfl ?_
  by_cases c : (faultM l).Err = 0
  · refine iteF (by simpa using c) ?_
    have hf := fault_err c
    refine (refAll_ok (h.ext E3) hf).mono ?_
    rintro v w4 ⟨e4, b9, sn, sq, ns, qs, rfl, hlow, hKn, hall, hsub⟩
    have E4 := E3.trans e4
    refine (at_ok hKn n).mono ?_
    rintro _ w5 ⟨rfl, rfl⟩
    rcases atN_cases ns n with ⟨hx, hno⟩ | ⟨i, hi, hx, hni⟩
    · rw [hx]
      have hs : ¬ (splitOf l n).isSome = true := fun h => hno (hall n h)
      refine iteT (by decide) ⟨E4, ?_, [], Rd.nil_ _ _, ?_⟩
      · unfold errS; rw [if_neg (by simpa using c), if_neg hs]
      · unfold ansS; rw [if_neg (by simp [hs])]; exact ShD.nil
    · rw [hx]
      refine iteF (by omega) ?_
      have hiq : i < qs.length := by rw [← hKn.len]; exact hi
      obtain ⟨xs, hv, hd⟩ := hKn.el i hi hiq
      have hs : (splitOf l n).isSome = true := by rw [← hni]; exact hsub _ (List.getElem_mem hi)
      refine ⟨_, rfl, ?_⟩
      refine rn_blk (x := sq) one107 hKn.hb9 rfl rfl ?_
      refine rnp_idx sl107 hKn.hqs hiq rfl fun p _ hp => ?_
      refine rn_at0 one23 hp ?_
      refine ⟨E4, ?_, xs, hv, ?_⟩
      · unfold errS; rw [if_neg (by simpa using c), if_pos hs]
      · unfold ansS; rw [if_pos ⟨c, hs⟩, ← hni]; exact hd
  · refine iteT (by simpa using c) ?_
    refine Dr.mk fun w4 e4 _ => ?_
    refine rnl_blk (x := (faultM l).Err) one3 (h7.ext e4) rfl rfl ?_
    refine ⟨E3.trans e4, ?_, [], Rd.nil_ _ _, ?_⟩
    · unfold errS; rw [if_pos c]
    · unfold ansS; rw [if_neg (by simp [c])]; exact ShD.nil
end
end Go.Proofs.Ytdoeegfcmbcbkaa.Ct

