/- TablesShares, where what comes in holds at most 1048576 values and letters: for each configuration, name and list of shares the law answers true, and each argument reads as before. -/
import Derived.Test.YtdoeegfcmbcbkaaAZ3
set_option linter.all false
/- Contracts: resources of a kind, looked for, copied; the shares of all splits by the program. -/
namespace Go.Proofs.Ytdoeegfcmbcbkaa.Ct
open Go Go.Eng Tr
set_option linter.unusedVariables false
set_option maxRecDepth 100000

section
variable {w : World} {F : Nat → Prop} {s : Sl} {rs : List TResource}
/-- the resources of a kind -/
def ofKind (kind : Int) (rs : List TResource) : List TResource := rs.filter fun r => decide (r.Kind = kind)
theorem ofKind_succ {kind : Int} {k : Nat} (h : k < rs.length) : ofKind kind (rs.take (k + 1)) = ofKind kind (rs.take k) ++ if rs[k].Kind = kind then [rs[k]] else [] := by
  unfold ofKind
  rw [List.take_add_one, List.getElem?_eq_getElem h, List.filter_append]
  by_cases c : rs[k].Kind = kind <;> simp [c]
theorem ofKind_len (kind : Int) (rs : List TResource) : (ofKind kind rs).length ≤ rs.length := List.length_filter_le _ _
theorem named_ok (h : Rd TResource.cells 8 F w s rs) (kind : Int) (hb : (rs.length + 1) * 136 ≤ 140737488355328) :
    Cal PP Sl.v 54 #[s.v, .int .i64 kind] w fun s' w' => Ext w w' ∧ Own TResource.cells 8 48 w.heap.size w' s' (ofKind kind rs) := by
  refine c54 ?_
  unfold f54
  refine Lp.mk (fun (y : Sl × Int) w' => ∃ k : Nat, y.2 = k ∧ k ≤ rs.length ∧ Ext w w' ∧ Own TResource.cells 8 48 w.heap.size w' y.1 (ofKind kind (rs.take k))) (fun y => rs.length - y.2.toNat) ⟨0, rfl, Nat.zero_le _, Ext.refl _, Own.nil_ _ _⟩ ?_
  rintro ⟨z, _⟩ w1 K ⟨k, rfl, hk, hE, hO⟩ hK
  dsimp only at hO ⊢
  by_cases hlt : k < rs.length
  · rw [if_pos (by rw [h.len]; omega)]
    refine ⟨fun y w' => Ext w w' ∧ Own TResource.cells 8 48 w.heap.size w' y (ofKind kind (rs.take (k + 1))), ?_, ?_⟩
    · rw [ofKind_succ hlt]
      refine rnp_idx sl22 (h.ext hE) hlt rfl fun p _ hp => ?_
      refine rn_ldN (x := rs[k]) many48 hp rfl rfl ?_
      refine New.var (TResource.cells rs[k]) sz48 rfl (oc_res _) rfl fun b7 w2 e2 h7 _ => ?_
      replace hE := hE.trans e2; replace hO := hO.ext e2
      refine rn_blk (x := rs[k].Kind) one3 h7 rfl rfl ?_
      by_cases c : rs[k].Kind = kind
      · refine iteT c ?_
        rw [if_pos c]
        refine rn_blkN (x := rs[k]) many48 h7 rfl rfl ?_
        refine New.mk fun b20 w3 e3 h20 _ _ => ?_
        have hlen := ofKind_len kind (rs.take k)
        rw [List.length_take] at hlen
        refine rn_app1 (x := rs[k]) el22 (hO.ext e3) h20 rfl rfl (oc_res _) (by omega) (by decide) (by have := (hE.trans e3).size; omega) fun s' w4 O4 c4 n4 => ?_
        exact ⟨(hE.trans e3).then c4 (fun b hb => (hO.ge hb).1), O4⟩
      · refine iteF c ⟨hE, ?_⟩
        rw [if_neg c, List.append_nil]; exact hO
    · rintro y w2 ⟨hE, hO⟩
      rw [h.wr hlt]
      exact hK _ _ ⟨k + 1, rfl, hlt, hE, hO⟩ (by dsimp only; omega)
  · rw [if_neg (by rw [h.len]; omega)]
    obtain rfl : k = rs.length := by omega
    rw [List.take_length] at hO
    exact ⟨hE, hO⟩
def atR (rs : List TResource) (n : ByteArray) (i : Nat) : Bool := match rs[i]? with
  | some r => decide (r.Name = n)
  | none => false
theorem atR_eq {n : ByteArray} {i : Nat} (h : i < rs.length) : atR rs n i = decide (rs[i].Name = n) := by simp [atR, h]
theorem isR_ok {x : TResource} {n : ByteArray} {b : Nat} (hb : Blk w b 9 [.string n]) : Ans Value.bool 55 #[x.v, Ptr ⟨b, 0, none⟩] w (decide (x.Name = n)) := by
  refine c55 ?_
  unfold f55
  refine New.mk fun b2 w1 e1 h2 _ _ => ?_
  refine rn_blk (x := x.Name) one9 h2 rfl rfl ?_
  refine rn_blk (x := n) one9 (hb.ext e1) rfl rfl ?_
  exact ⟨e1, rfl⟩
theorem index98_ok (h : Rd TResource.cells 8 F w s rs) {n : ByteArray} {b : Nat} (hb : Blk w b 9 [.string n]) : Ans (Value.int .i64) 98 #[s.v, .func (.func 55) #[] #[Ptr ⟨b, 0, none⟩]] w (fst? (atR rs n) rs.length) := by
  refine c98 ?_
  unfold f98
  refine Lp.mk (fun (i : Int) w' => ∃ k : Nat, i = k ∧ k ≤ rs.length ∧ Ext w w' ∧ ∀ j, j < k → atR rs n j = false) (fun i => rs.length - i.toNat) ⟨0, rfl, Nat.zero_le _, Ext.refl _, fun j hj => absurd hj (Nat.not_lt_zero _)⟩ ?_
  rintro i w1 K ⟨k, rfl, hk, hE, hall⟩ hK
  by_cases hlt : k < rs.length
  · rw [if_pos (by rw [h.len]; omega)]
    refine rnp_idx sl22 (h.ext hE) hlt rfl fun p _ hp => ?_
    refine rn_ldN (x := rs[k]) many48 hp rfl rfl ?_
    refine ⟨55, #[], #[Ptr ⟨b, 0, none⟩], rfl, fun vs w => enters Try.func55 rfl rfl vs w, ?_⟩
    refine Cal.mono (isR_ok (x := rs[k]) (hb.ext hE)) ?_
    rintro _ w2 ⟨e2, rfl⟩
    have ha := atR_eq (n := n) hlt
    by_cases c : rs[k].Name = n
    · exact iteT (by simpa using c) ⟨hE.trans e2, (fst?_some hlt (by rw [ha]; simpa using c) hall).symm⟩
    · refine iteF (by simpa using c) ?_
      rw [h.wr hlt]; exact hK _ _ ⟨k + 1, rfl, hlt, hE.trans e2, all_succ hall (by rw [ha]; simpa using c)⟩ (by omega)
  · rw [if_neg (by rw [h.len]; omega)]
    exact ⟨hE, (fst?_none fun j hj => hall j (by omega)).symm⟩
/-- is one of a name there? -/
def hasR (rs : List TResource) (n : ByteArray) : Bool := decide (0 ≤ fst? (atR rs n) rs.length)
theorem hasR_iff {n : ByteArray} : hasR rs n = true ↔ ∃ r ∈ rs, r.Name = n := by
  unfold hasR
  constructor
  · intro h
    have h' : 0 ≤ fst? (atR rs n) rs.length := by simpa using h
    rcases fst?_le (p := atR rs n) (n := rs.length) with h0 | ⟨k, _, hk, hp⟩
    · omega
    · exact ⟨rs[k], List.getElem_mem hk, by rw [atR_eq hk] at hp; simpa using hp⟩
  · rintro ⟨r, hr, hn⟩
    obtain ⟨k, hk, rfl⟩ := List.mem_iff_getElem.1 hr
    by_cases h : 0 ≤ fst? (atR rs n) rs.length
    · simpa using h
    · have := fst?_neg (by omega : fst? (atR rs n) rs.length < 0) k hk
      rw [atR_eq hk] at this
      simp [hn] at this
theorem contains_ok (h : Rd TResource.cells 8 F w s rs) {n : ByteArray} {b : Nat} (hb : Blk w b 9 [.string n]) : Ans Value.bool 53 #[s.v, .func (.func 55) #[] #[Ptr ⟨b, 0, none⟩]] w (hasR rs n) := by
  refine c53 ?_
  unfold f53
  refine (index98_ok h hb).mono ?_
  rintro _ w1 ⟨e1, rfl⟩
  exact ⟨e1, rfl⟩
theorem cloneShares_ok {xs : List TShare} (h : Rd TShare.cells 2 F w s xs) (hb : xs.length * 24 ≤ 140737488355328) :
    Cal PP Sl.v 56 #[s.v] w fun s' w' => Ext w w' ∧ Rd TShare.cells 2 (fun b => w.heap.size ≤ b ∧ b < w'.heap.size) w' s' xs := by
  refine c56 ?_
  unfold f56
  by_cases c : s.a.isNone = true
  · refine iteT c ⟨Ext.refl _, ?_⟩
    have h0 : xs = [] := by
      cases xs with
      | nil => rfl
      | cons x xs =>
        obtain ⟨a, ha, _⟩ := h.el 0 (by simp)
        rw [ha] at c; cases c
    subst h0
    exact Rd.nil_ _ _
  · refine iteF c ?_
    refine New.mk fun b5 w1 e1 h5 n5 s5 => ?_
    refine rn_copy el23 h5 (h.ext e1) (fun _ => rfl) oc_share hb (by decide) fun x w2 c2 r2 => ?_
    have g2 := c2.size
    exact ⟨e1.then c2 (fun b hb => by omega), r2.mono fun b hb => ⟨by omega, hb.2⟩⟩
end

/-! ### The shares of all splits -/
theorem mapT97 : MapT PP 97 9 23 Value.string Sl.v Sl.nil := ⟨Try.underlying97, keyT_string Try.underlying9, by kernel_rfl⟩
theorem mapT153 : MapT PP 153 9 45 Value.string Sl.v Sl.nil := ⟨Try.underlying153, keyT_string Try.underlying9, by kernel_rfl⟩
def ofV (b6 b3 b7 : Nat) : Value := .func (.func 99) #[] #[Ptr ⟨b6, 0, none⟩, Ptr ⟨b3, 0, none⟩, Ptr ⟨b7, 0, none⟩]
/-- what the search for shares goes by -/
structure AllW (F : Nat → Prop) (l : List DRes) (b3 b6 b7 b9 b23 : Nat) (ms : List (ByteArray × Sl)) (w : World) : Prop where
  hb3 : Blk w b3 153 [.map (some b9)]
  hb6 : Blk w b6 97 [.map (some b23)]
  hb7 : Blk w b7 154 [ofV b6 b3 b7]
  hms : Mp Value.string Sl.v w b9 ms
  tg : ∀ n d, splitOf l n = some d → ∃ t, mget ms n = some t ∧ Rd TTarget.cells 3 F w t d.targets
  no : ∀ n, splitOf l n = none → mget ms n = none
  ne : b3 ≠ b23 ∧ b6 ≠ b23 ∧ b7 ≠ b23 ∧ b9 ≠ b23
  nF : ∀ b, F b → b ≠ b23
section
variable {F Q Q' S : Nat → Prop} {l : List DRes} {b3 b6 b7 b9 b23 : Nat} {ms : List (ByteArray × Sl)} {m : List (ByteArray × Sl)} {w w' : World}
theorem AllW.chg (h : AllW F l b3 b6 b7 b9 b23 ms w) (k : Chg (fun b => b = b23) w w') : AllW F l b3 b6 b7 b9 b23 ms w' :=
  ⟨h.hb3.chg k h.ne.1, h.hb6.chg k h.ne.2.1, h.hb7.chg k h.ne.2.2.1, h.hms.chg k h.ne.2.2.2, fun n d hs => let ⟨t, h1, h2⟩ := h.tg n d hs; ⟨t, h1, h2.chg k (fun b hb _ => h.nF b hb)⟩, h.no, h.ne, h.nF⟩
theorem AllW.chgR {r : Nat} (h : AllW F l b3 b6 b7 b9 b23 ms w) (k : Chg (fun b => b = r) w w') (h3 : b3 ≠ r) (h6 : b6 ≠ r) (h7 : b7 ≠ r) (h9 : b9 ≠ r) (hF : ∀ b, F b → b ≠ r) : AllW F l b3 b6 b7 b9 b23 ms w' :=
  ⟨h.hb3.chg k h3, h.hb6.chg k h6, h.hb7.chg k h7, h.hms.chg k h9, fun n d hs => let ⟨t, h1, h2⟩ := h.tg n d hs; ⟨t, h1, h2.chg k (fun b hb _ => hF b hb)⟩, h.no, h.ne, h.nF⟩
/-- the shares that are known, none in the blocks Q -/
structure DoneI (Q : Nat → Prop) (l : List DRes) (b23 : Nat) (w : World) (m : List (ByteArray × Sl)) : Prop where
  mp : Mp Value.string Sl.v w b23 m
  el : ∀ n v, mget m n = some v → ∃ xs, Rd TShare.cells 2 (fun b => (b ≠ b23 ∧ ¬ Q b) ∧ b < w.heap.size) w v xs ∧ ShD xs (shF l n)
theorem DoneI.chg (h : DoneI Q l b23 w m) (k : Chg S w w') (h1 : ¬ S b23) (h2 : ∀ b, b < w.heap.size → S b → Q b) (h3 : ∀ b, b < w.heap.size → Q' b → Q b) : DoneI Q' l b23 w' m :=
  ⟨h.mp.chg k h1, fun n v hv => let ⟨xs, r, d⟩ := h.el n v hv; ⟨xs, (r.chg k (fun b hb _ hS => hb.1.2 (h2 b hb.2 hS))).mono fun b hb => ⟨⟨hb.1.1, fun hq => hb.1.2 (h3 b hb.2 hq)⟩, by have := k.size; omega⟩, d⟩⟩
theorem DoneI.ext (h : DoneI Q l b23 w m) (k : Ext w w') : DoneI Q l b23 w' m := h.chg (k.chg (fun _ => False)) (fun h => h) (fun _ _ h => h.elim) (fun _ _ h => h)
theorem DoneI.weaken (h : DoneI Q l b23 w m) (h3 : ∀ b, b < w.heap.size → Q' b → Q b) : DoneI Q' l b23 w m := h.chg (Chg.refl (fun _ => False) _) (fun h => h) (fun _ _ h => h.elim) h3
/-- a list of shares that is known -/
def Knows (Q : Nat → Prop) (l : List DRes) (b23 : Nat) (n : ByteArray) (v : Sl) (w : World) : Prop := ∃ xs, Rd TShare.cells 2 (fun b => (b ≠ b23 ∧ ¬ Q b) ∧ b < w.heap.size) w v xs ∧ ShD xs (shF l n)
theorem of_shares (hS : Stand l) (hlen : l.length ≤ 64) : ∀ (j : Nat) (w : World) (Q : Nat → Prop) (m : List (ByteArray × Sl)) (n : ByteArray), hd l 8 n ≤ 8 → hd l 8 n ≤ j →
    AllW F l b3 b6 b7 b9 b23 ms w → DoneI Q l b23 w m → (∀ b, Q b → b < w.heap.size) →
    Cal PP Sl.v 99 #[.string n, Ptr ⟨b6, 0, none⟩, Ptr ⟨b3, 0, none⟩, Ptr ⟨b7, 0, none⟩] w fun v w' => Chg (fun b => b = b23) w w' ∧ Knows Q l b23 n v w' ∧ ∃ m', DoneI Q l b23 w' m' ∧ n ∈ mkeys m' ∧ ∀ k, k ∈ mkeys m → k ∈ mkeys m' := by
  intro j
  induction j with
  | zero => intro w Q m n _ h; have := (hd_bounds l 8 n).1; omega
  | succ j ih =>
  intro w Q m n h8 hj hW hD hQ
  refine c99 ?_
  unfold f99
  have h23 : b23 < w.heap.size := hD.mp.lt
  refine rn_blk (x := some b23) one97 hW.hb6 rfl rfl ?_
  refine rn_get2 (k := n) (fun _ => rfl) mapT97 hD.mp ?_
  cases hg : mget m n with
  | some v =>
    refine iteT rfl ⟨Chg.refl _ _, hD.el n v hg, m, hD, ?_, fun _ h => h⟩
    exact Classical.byContradiction fun h => by rw [mget_none.2 h] at hg; cases hg
  | none =>
  refine iteF (by simp) ?_
  refine rn_blk (x := some b9) one153 hW.hb3 rfl rfl ?_
  refine rn_get (k := n) mapT153 hW.hms ?_
  -- what its targets are
  have htg : ∃ ts : List TTarget, (∀ w', Chg (fun b => b = b23) w w' → Rd TTarget.cells 3 (fun b => F b ∨ False) w' ((mget ms n).getD Sl.nil) ts) ∧ sumS (shF l) ts = shF l n ∧ (∀ k, OkS l (sumS (shF l) (ts.take k))) ∧
      (∀ t ∈ ts, t.Service = ⟨#[]⟩ → hd l 8 t.Split < hd l 8 n) := by
    cases hs : splitOf l n with
    | none =>
      refine ⟨[], fun w' _ => ?_, by rw [shF_none hs]; rfl, fun k => by rw [List.take_nil]; exact OkS.nil, fun t ht => by cases ht⟩
      rw [hW.no n hs]; exact Rd.nil_ _ _
    | some d =>
      obtain ⟨t, h1, h2⟩ := hW.tg n d hs
      obtain ⟨q1, q2, q3⟩ := splitOf_mem hs
      refine ⟨d.targets, fun w' k => ?_, (shF_eq h8 hs).symm, fun k => sumS_ok hS q1 q2 k, fun t ht hts => kid_hd h8 (kid_mem hs ht hts)⟩
      rw [h1]; exact (h2.chg k (fun b hb _ => hW.nF b hb)).mono fun b hb => .inl hb
  obtain ⟨ts, hrd, hsum, hok, hkid⟩ := htg
  generalize (mget ms n).getD Sl.nil = st at hrd
  refine Lp.mk (fun (y : Sl × Int) w' => ∃ (k : Nat) (m' : List (ByteArray × Sl)) (xs : List TShare), y.2 = k ∧ k ≤ ts.length ∧ Chg (fun b => b = b23) w w' ∧ Own TShare.cells 2 32 w.heap.size w' y.1 xs ∧ ShD xs (sumS (shF l) (ts.take k)) ∧
      DoneI (fun b => Q b ∨ own? y.1 b) l b23 w' m' ∧ ∀ k, k ∈ mkeys m → k ∈ mkeys m') (fun y => ts.length - y.2.toNat)
    ⟨0, m, [], rfl, Nat.zero_le _, Chg.refl _ _, Own.nil_ _ _, ShD.nil, hD.weaken fun b _ hb => hb.elim id (fun ⟨a, ha, _⟩ => by cases ha), fun _ h => h⟩ ?_
  rintro ⟨z, _⟩ w1 K ⟨k, m1, xs, rfl, hk, hC, hO, hd1, hD1, hg1⟩ hK
  dsimp only at hO hD1 ⊢
  have hrd1 := hrd w1 hC
  by_cases hlt : k < ts.length
  · rw [if_pos (by rw [hrd1.len]; omega)]
    refine ⟨fun z w' => ∃ (m' : List (ByteArray × Sl)) (xs : List TShare), Chg (fun b => b = b23) w w' ∧ Own TShare.cells 2 32 w.heap.size w' z xs ∧ ShD xs (sumS (shF l) (ts.take (k + 1))) ∧
      DoneI (fun b => Q b ∨ own? z b) l b23 w' m' ∧ ∀ k, k ∈ mkeys m → k ∈ mkeys m', ?_, ?_⟩
    · have hok1 := hok (k + 1)
      rw [sumS_succ hlt] at hok1 ⊢
      refine rnp_idx sl45 hrd1 hlt rfl fun p _ hp => ?_
      refine rn_ldN (x := ts[k]) many84 hp rfl rfl ?_
      refine New.var (TTarget.cells ts[k]) sz84 rfl (oc_target _) rfl fun b10 w2 e2 h10 _ => ?_
      replace hC := hC.thenE e2; replace hO := hO.ext e2; replace hD1 := hD1.ext e2
      refine rn_blk (x := ts[k].Weight) one30 h10 rfl rfl ?_
      refine arith_run .quo _ rfl fun wv w3 hwv e3 _ => ?_
      replace hwv : Fl (wt ts[k]) wv := hwv
      replace hC := hC.thenE e3; replace hO := hO.ext e3; replace hD1 := hD1.ext e3; replace h10 := h10.ext e3
      refine rn_blk (x := ts[k].Service) one9 h10 rfl rfl ?_
      unfold partS at hok1 ⊢
      by_cases c : ts[k].Service = ⟨#[]⟩
      · rw [if_pos c] at hok1 ⊢
        refine iteF (by simpa using c) ?_
        have hW3 := hW.chg hC
        refine rn_blk (x := ofV b6 b3 b7) one154 hW3.hb7 rfl rfl ?_
        refine rn_blk (x := ts[k].Split) one9 h10 rfl rfl ?_
        refine ⟨99, #[], #[Ptr ⟨b6, 0, none⟩, Ptr ⟨b3, 0, none⟩, Ptr ⟨b7, 0, none⟩], rfl, fun vs w => enters Try.func99 rfl rfl vs w, ?_⟩
        have hkd := hkid _ (List.getElem_mem hlt) c
        refine Cal.mono (ih w3 (fun b => Q b ∨ own? z b) m1 ts[k].Split (by omega) (by omega) hW3 hD1 (fun b hb => ?_)) ?_
        · rcases hb with hb | hb
          · have := hQ b hb; have := hC.size; omega
          · exact (hO.ge hb).2
        rintro v w4 ⟨c4, ⟨vs, hv, hvd⟩, m4, hD4, _, hg4⟩
        have hO4 := hO.chg c4 (fun b hb => by have := (hO.ge hb).1; omega)
        have hC4 := hC.trans c4
        clear hD1 hO h10 hC
        have hvl := hvd.len
        refine Lp.mk (fun (y : Sl × Int) w' => ∃ (q : Nat) (xs : List TShare), y.2 = q ∧ q ≤ vs.length ∧ Chg (fun b => b = b23) w w' ∧ Own TShare.cells 2 32 w.heap.size w' y.1 xs ∧ ShD xs (mixS (wt ts[k]) (sumS (shF l) (ts.take k)) ((shF l ts[k].Split).take q)) ∧
            DoneI (fun b => Q b ∨ own? y.1 b) l b23 w' m4 ∧ Rd TShare.cells 2 (fun b => (b ≠ b23 ∧ ¬ (Q b ∨ own? y.1 b)) ∧ b < w'.heap.size) w' v vs) (fun y => vs.length - y.2.toNat)
          ⟨0, xs, rfl, Nat.zero_le _, hC4, hO4, hd1, hD4, hv⟩ ?_
        rintro ⟨y, _⟩ w5 K2 ⟨q, xs5, rfl, hq, hC5, hO5, hd5, hD5, hv5⟩ hK2
        dsimp only at hO5 hD5 hv5 ⊢
        by_cases hqv : q < vs.length
        · rw [if_pos (by rw [hv5.len]; omega)]
          have hqs : q < (shF l ts[k].Split).length := by omega
          have hel := hvd.el q hqv hqs
          refine rnp_idx sl23 hv5 hqv rfl fun p _ hp => ?_
          refine rn_ldN (x := vs[q]) many32 hp rfl rfl ?_
          refine New.var (TShare.cells vs[q]) sz32 rfl (oc_share _) rfl fun b13 w6 e6 h13 _ => ?_
          refine rn_blk (x := vs[q].Service) one9 h13 rfl rfl ?_
          refine rn_blk (x := vs[q].Upto) one30 h13 rfl rfl ?_
          refine rn_mul2 hwv hel.2 fun pv w7 hpv e7 _ => ?_
          have e := e6.trans e7
          have hb := OkS.len (OkS.mix (x := wt ts[k]) (zs := (shF l ts[k].Split).take q) (hok k) fun p hp => (sh_ok hS 9 ts[k].Split).has p (List.mem_of_mem_take hp))
          have gsz := hC5.size
          have gs := e.size
          refine Cal.mono (add_ok (n := vs[q].Service) (hO5.ext e) hd5 (by omega) hpv (by omega)) ?_
          rintro z' w8 ⟨c8, n8, xs8, hO8, hd8⟩
          rw [hv5.wr hqv]
          have own5 : ∀ b, own? y b → w.heap.size ≤ b ∧ b < w5.heap.size := fun b hb => hO5.ge hb
          have own8 : ∀ b, b < w7.heap.size → own? z' b → own? y b := fun b hb ho => by
            rcases n8 b ho with h | h
            · exact h
            · omega
          refine hK2 _ _ ⟨q + 1, xs8, rfl, hqv, (hC5.thenE e).then c8 (fun b hb ho => by have := (own5 b ho).1; omega), hO8, ?_, ?_, ?_⟩ (by dsimp only; omega)
          · rw [mixS_succ hqs]; rw [hel.1] at hd8; exact hd8
          · exact (hD5.ext e).chg c8 (fun ho => by have := (own5 _ ho).1; omega) (fun b _ ho => .inr ho) (fun b hb h => h.imp id (own8 b hb))
          · have c8s := c8.size
            exact ((hv5.ext e).chg c8 (fun b hb _ ho => hb.1.2 (.inr ho))).mono fun b hb => ⟨⟨hb.1.1, fun h => hb.1.2 (h.imp id (own8 b (by omega)))⟩, by omega⟩
        · rw [if_neg (by rw [hv5.len]; omega)]
          obtain rfl : q = vs.length := by omega
          rw [hvl, List.take_length] at hd5
          exact ⟨m4, xs5, hC5, hO5, hd5, hD5, fun k hk => hg4 k (hg1 k hk)⟩
      · rw [if_neg c] at hok1 ⊢
        refine iteT (by simpa using c) ?_
        refine rn_blk (x := ts[k].Service) one9 h10 rfl rfl ?_
        have hb := (hok k).len
        have gsz := hC.size
        refine Cal.mono (add_ok (n := ts[k].Service) hO hd1 (by omega) hwv (by omega)) ?_
        rintro z' w8 ⟨c8, n8, xs8, hO8, hd8⟩
        have own3 : ∀ b, own? z b → w.heap.size ≤ b ∧ b < w3.heap.size := fun b hb => hO.ge hb
        have own8 : ∀ b, b < w3.heap.size → own? z' b → own? z b := fun b hb ho => by
          rcases n8 b ho with h | h
          · exact h
          · omega
        exact ⟨m1, xs8, hC.then c8 (fun b hb ho => by have := (own3 b ho).1; omega), hO8, hd8, hD1.chg c8 (fun ho => by have := (own3 _ ho).1; omega) (fun b _ ho => .inr ho) (fun b hb h => h.imp id (own8 b hb)), hg1⟩
    · rintro z' w2 ⟨m2, xs2, hC2, hO2, hd2, hD2, hg2⟩
      rw [hrd1.wr hlt]
      exact hK _ _ ⟨k + 1, m2, xs2, rfl, hlt, hC2, hO2, hd2, hD2, hg2⟩ (by dsimp only; omega)
  · rw [if_neg (by rw [hrd1.len]; omega)]
    obtain rfl : k = ts.length := by omega
    rw [List.take_length, hsum] at hd1
    have hW1 := hW.chg hC
    refine rn_blk (x := some b23) one97 hW1.hb6 rfl rfl ?_
    refine rnu_put (k := n) (v := z) mapT97 hD1.mp fun w2 c2 hm2 s2 => ?_
    have hz : Rd TShare.cells 2 (fun b => (b ≠ b23 ∧ ¬ Q b) ∧ b < w2.heap.size) w2 z xs := ((hO.rd (F := fun b => own? z b) (fun b hb => hb)).chg c2 (fun b hb _ => by have := (hO.ge hb).1; omega)).mono fun b hb => by
      have h1 := hO.ge hb
      exact ⟨⟨by omega, fun hq => by have := hQ b hq; omega⟩, by omega⟩
    refine ⟨hC.trans c2, ⟨xs, hz, hd1⟩, mput m1 n z, ⟨hm2, fun n' v hv => ?_⟩, mem_mkeys_put.2 (.inl rfl), fun k hk => mem_mkeys_put.2 (.inr (hg1 k hk))⟩
    rw [mget_put] at hv
    by_cases e : n = n'
    · rw [if_pos e] at hv; cases hv; subst e; exact ⟨xs, hz, hd1⟩
    · rw [if_neg e] at hv
      obtain ⟨ys, r, d⟩ := hD1.el n' v hv
      exact ⟨ys, (r.chg c2 (fun b hb _ => hb.1.1)).mono fun b hb => ⟨⟨hb.1.1, fun hq => hb.1.2 (.inl hq)⟩, by omega⟩, d⟩
end
end Go.Proofs.Ytdoeegfcmbcbkaa.Ct

/- Contracts: the shares of all splits, and the shares of one, by the program. -/
namespace Go.Proofs.Ytdoeegfcmbcbkaa.Ct
open Go Go.Eng Tr
set_option linter.unusedVariables false
set_option maxRecDepth 100000

section
variable {w : World} {F : Nat → Prop} {s : Sl} {rs : List TResource} {l : List DRes}
/-- a configuration whose splits may be reckoned -/
structure Fine (l : List DRes) : Prop where
  ord : ∀ i, i < l.length → outAt l i = false
  few : l.length ≤ 64
  stand : Stand l
  kids : ∀ n d t, splitOf l n = some d → t ∈ kidsOf d → (splitOf l t).isSome = true
  deep : ∀ n d, splitOf l n = some d → hd l 8 n ≤ 8
theorem fault_err (h : (faultM l).Err = 0) : Fine l := by
  by_cases c1 : 0 ≤ fst? (outAt l) l.length
  · rw [fs_out c1] at h; cases h
  by_cases c2 : 64 < l.length
  · rw [fs_big c1 c2] at h; cases h
  have key : ∀ p : Nat → Bool, (∀ k, k < l.length → p k = true → (∀ j, j < k → p j = false) → False) → ∀ j, j < l.length → p j = false := fun p hp => by
    intro j
    induction j using Nat.strongRecOn with
    | ind j ih =>
      intro hj
      cases c : p j with
      | false => rfl
      | true => exact (hp j hj c fun i hi => ih i hi (by omega)).elim
  have hd1 := key (dangAt l) fun k hk hp ha => by rw [fs_dang c1 c2 hk hp ha] at h; cases h
  have hd2 := key (twinAt l) fun k hk hp ha => by rw [fs_twin c1 c2 hd1 hk hp ha] at h; cases h
  have hd3 := key (heavyAt l) fun k hk hp ha => by rw [fs_heavy c1 c2 hd1 hd2 hk hp ha] at h; cases h
  have hd4 := key (deepAt l) fun k hk hp ha => by rw [fs_deep c1 c2 hd1 hd2 hd3 hk hp ha] at h; cases h
  refine ⟨fst?_neg (by omega), by omega, stand_of hd1, fun n d t hs ht => has_split (no_dang hd1 n d t hs ht), fun n d hs => ?_⟩
  obtain ⟨h1, h2, h3⟩ := splitOf_mem hs
  obtain ⟨i, hi, rfl⟩ := List.mem_iff_getElem.1 h1
  have := hd4 i hi
  rw [deepAt_eq hi] at this
  simp only [h2, decide_true, Bool.true_and, decide_eq_false_iff_not] at this
  rw [h3] at this; omega
/-- splits among the resources and among what they say -/
theorem split_at (h : ConfD F w s rs l) (hf : ∀ i, i < l.length → outAt l i = false) {n : ByteArray} {d : DRes} (hs : splitOf l n = some d) : ∃ (i : Nat) (hi : i < rs.length) (hi' : i < l.length), l[i] = d ∧ rs[i].Kind = 2 ∧ rs[i].Name = n := by
  obtain ⟨h1, h2, h3⟩ := splitOf_mem hs
  obtain ⟨i, hi, rfl⟩ := List.mem_iff_getElem.1 h1
  have hi' : i < rs.length := by rw [h.len]; exact hi
  have hr := h.el i hi' hi
  exact ⟨i, hi', hi, rfl, by rw [hr.kind, h2], by rw [hr.name, h3]⟩
theorem split_of (h : ConfD F w s rs l) (hf : ∀ i, i < l.length → outAt l i = false) {i : Nat} (hi : i < rs.length) (hk : rs[i].Kind = 2) : ∃ hi' : i < l.length, splitOf l rs[i].Name = some l[i] := by
  have hi' : i < l.length := by rw [← h.len]; exact hi
  have hr := h.el i hi hi'
  exact ⟨hi', by rw [hr.name]; exact splitOf_self hf _ (List.getElem_mem hi') (by rw [← hr.kind]; exact hk)⟩
theorem hasR_split (h : ConfD F w s rs l) (hf : ∀ i, i < l.length → outAt l i = false) (n : ByteArray) : hasR (ofKind 2 rs) n = (splitOf l n).isSome := by
  rw [Bool.eq_iff_iff, hasR_iff]
  constructor
  · rintro ⟨r, hr, hn⟩
    obtain ⟨hr, hk⟩ := List.mem_filter.1 hr
    obtain ⟨i, hi, rfl⟩ := List.mem_iff_getElem.1 hr
    obtain ⟨_, hs⟩ := split_of h hf hi (by simpa using hk)
    rw [← hn, hs]; rfl
  · intro hs
    obtain ⟨d, hs⟩ := Option.isSome_iff_exists.1 hs
    obtain ⟨i, hi, _, _, hk, hn⟩ := split_at h hf hs
    exact ⟨rs[i], List.mem_filter.2 ⟨List.getElem_mem hi, by simpa using hk⟩, hn⟩
/-- what is answered for a split: an error, and shares -/
def errS (l : List DRes) (n : ByteArray) : Int := if (faultM l).Err ≠ 0 then (faultM l).Err else if (splitOf l n).isSome = true then 0 else 2
def ansS (l : List DRes) (n : ByteArray) : List SH := if (faultM l).Err = 0 ∧ (splitOf l n).isSome = true then shF l n else []
theorem allMap_ok (h : ConfD F w s rs l) (hf : Fine l) : Cal PP Value.map 57 #[s.v] w fun v w' => Ext w w' ∧ ∃ b m, v = some b ∧ w.heap.size ≤ b ∧ DoneI (fun _ => False) l b w' m ∧ ∀ n, (splitOf l n).isSome = true → n ∈ mkeys m := by
  refine c57 ?_
  unfold f57
  have hrl : rs.length ≤ 64 := by rw [h.len]; exact hf.few
  refine NewM.mk fun b9 w1 e1 h9 n9 s9 => ?_
  replace h9 : Mp Value.string Sl.v w1 b9 ([] : List (ByteArray × Sl)) := Mp.new h9
  refine New.var [.map (some b9)] sz153 rfl (by simp [Value.oneCell']) rfl fun b3 w2 e2 h3 nb3 => ?_
  replace h9 := h9.ext e2
  have E2 := e1.trans e2
  refine (named_ok (h.rd.ext E2) 2 (by omega)).mono ?_
  rintro t11 w3 ⟨e3, hO3⟩
  have hT := hO3.rd (F := fun b => w2.heap.size ≤ b ∧ b < w3.heap.size) (fun b hb => hO3.ge hb)
  have hTl : (ofKind 2 rs).length ≤ rs.length := ofKind_len 2 rs
  have hmem : ∀ r ∈ ofKind 2 rs, ∃ (i : Nat) (hi : i < rs.length), rs[i] = r ∧ rs[i].Kind = 2 := fun r hr => by
    obtain ⟨hr, hk⟩ := List.mem_filter.1 hr
    obtain ⟨i, hi, rfl⟩ := List.mem_iff_getElem.1 hr
    exact ⟨i, hi, rfl, by simpa using hk⟩
  generalize hts : ofKind 2 rs = ts at hT hTl hmem
  clear hO3
  have E3 := E2.trans e3
  have g3 := e3.size; have g2 := e2.size
  refine Lp.mk (fun (i : Int) w' => ∃ (k : Nat) (ms : List (ByteArray × Sl)), i = k ∧ k ≤ ts.length ∧ Ext w w' ∧ Ext w1 w1 ∧ w3.heap.size ≤ w'.heap.size ∧ Rd TResource.cells 8 (fun b => w2.heap.size ≤ b ∧ b < w3.heap.size) w' t11 ts ∧ Blk w' b3 153 [.map (some b9)] ∧ Mp Value.string Sl.v w' b9 ms ∧
      (∀ n t, mget ms n = some t → ∃ r ∈ ts, r.Name = n ∧ r.Targets = t) ∧ ∀ r ∈ ts.take k, r.Name ∈ mkeys ms) (fun i => ts.length - i.toNat)
    ⟨0, [], rfl, Nat.zero_le _, E3, Ext.refl _, Nat.le_refl _, hT, h3.ext e3, h9.ext e3, (fun n t ht => by cases ht), (fun r hr => by simp at hr)⟩ ?_
  clear hT h3 h9 E3 E2
  rintro i w4 K ⟨k, ms, rfl, hk, hE, _, g4, hT, h3, h9, hA, hB⟩ hK
  by_cases hlt : k < ts.length
  · rw [if_pos (by rw [hT.len]; omega)]
    refine rnp_idx sl22 hT hlt rfl fun p _ hp => ?_
    refine rn_ldN (x := ts[k]) many48 hp rfl rfl ?_
    refine New.var (TResource.cells ts[k]) sz48 rfl (oc_res _) rfl fun b5 w5 e5 h5 _ => ?_
    refine rn_blk (x := some b9) one153 (h3.ext e5) rfl rfl ?_
    refine rn_blk (x := ts[k].Name) one9 h5 rfl rfl ?_
    refine rn_blk (x := ts[k].Targets) one45 h5 rfl rfl ?_
    refine rnu_put (k := ts[k].Name) (v := ts[k].Targets) mapT153 (h9.ext e5) fun w6 c6 h9' s6 => ?_
    rw [hT.wr hlt]
    have g5 := e5.size
    have h9lt := h9.lt
    refine hK _ _ ⟨k + 1, _, rfl, hlt, (hE.trans e5).then c6 (fun b hb => by omega), Ext.refl _, by omega, (hT.ext e5).chg c6 (fun b hb _ => by omega), (h3.ext e5).chg c6 (by omega), h9', fun n t ht => ?_, fun r hr => ?_⟩ (by omega)
    · rw [mget_put] at ht
      by_cases e : ts[k].Name = n
      · rw [if_pos e] at ht; cases ht; exact ⟨ts[k], List.getElem_mem hlt, e, rfl⟩
      · rw [if_neg e] at ht; exact hA n t ht
    · rw [List.take_add_one, List.getElem?_eq_getElem hlt] at hr
      rcases List.mem_append.1 hr with hr | hr
      · exact mem_mkeys_put.2 (.inr (hB r hr))
      · simp at hr; subst hr; exact mem_mkeys_put.2 (.inl rfl)
  rw [if_neg (by rw [hT.len]; omega)]
  obtain rfl : k = ts.length := by omega
  rw [List.take_length] at hB
  clear hK
  refine NewM.mk fun b23 w5 e5 h23 n23 s23 => ?_
  replace h23 : Mp Value.string Sl.v w5 b23 ([] : List (ByteArray × Sl)) := Mp.new h23
  refine New.var [.map (some b23)] sz97 rfl (by simp [Value.oneCell']) rfl fun b6 w6 e6 h6 nb6 => ?_
  refine New.mk fun b7 w7 e7 h7 n7 s7 => ?_
  refine rnu_st (b := b7) (o := 0) rfl h7 [ofV b6 b3 b7] sz154 rfl (by simp [Value.oneCell', ofV]) (by simp) fun w8 c8 s8 h7 => ?_
  replace h7 : Blk w8 b7 154 [ofV b6 b3 b7] := h7
  have E5 : Ext w4 w6 := e5.trans e6
  have g6 := e6.size; have g7 := e7.size; have g5 := e5.size
  have E8 : Ext w4 w8 := (E5.trans e7).then c8 (fun b hb => by omega)
  have E8' : Ext w6 w8 := e7.then c8 (fun b hb => by omega)
  have h3lt := h3.lt; have h9lt := h9.lt; have h6lt := h6.lt; have h7lt := h7.lt
  have hdet : ∀ n t, mget ms n = some t → ∃ (i : Nat) (hi : i < rs.length) (hi' : i < l.length), rs[i].Targets = t ∧ splitOf l n = some l[i] := fun n t ht => by
    obtain ⟨r, hr, h1, h2⟩ := hA n t ht
    obtain ⟨i, hi, rfl, hk⟩ := hmem r hr
    obtain ⟨hi', hs⟩ := split_of h hf.ord hi hk
    exact ⟨i, hi, hi', h2, by rw [← h1]; exact hs⟩
  have hkeys : ∀ n d, splitOf l n = some d → n ∈ mkeys ms := fun n d hs => by
    obtain ⟨i, hi, _, _, hk, hn⟩ := split_at h hf.ord hs
    rw [← hn]
    exact hB _ (by rw [← hts]; exact List.mem_filter.2 ⟨List.getElem_mem hi, by simpa using hk⟩)
  have hW : AllW (fun b => F b ∧ b < w.heap.size) l b3 b6 b7 b9 b23 ms w8 := by
    have glow := hE.size
    refine ⟨h3.ext E8, h6.ext E8', h7, h9.ext E8, fun n d hs => ?_, fun n hs => ?_, ⟨by omega, by omega, by omega, by omega⟩, fun b hb => by have := hb.2; omega⟩
    · cases hg : mget ms n with
      | none => exact absurd (hkeys n d hs) (mget_none.1 hg)
      | some t =>
        obtain ⟨i, hi, hi', ht, hs'⟩ := hdet n t hg
        rw [hs] at hs'; cases hs'
        refine ⟨t, rfl, ?_⟩
        rw [← ht]
        exact ((h.low).el i hi hi').targets.ext (hE.trans E8)
    · cases hg : mget ms n with
      | none => rfl
      | some t => obtain ⟨i, hi, hi', ht, hs'⟩ := hdet n t hg; rw [hs] at hs'; cases hs'
  have hD : DoneI (fun _ => False) l b23 w8 [] := ⟨(h23.ext e6).ext E8', fun n v hv => by cases hv⟩
  refine rn_blk (x := some b9) one153 hW.hb3 rfl rfl ?_
  refine rn_range mapT153 hW.hms fun r w9 e9 hr9 hR => ?_
  have hb23 := hD.mp.lt
  have hW9 := hW.chg (e9.chg _)
  have glow := hE.size
  have g8 := E8.size
  have hE9 : Ext w w9 := (hE.trans E8).trans e9
  have hr23 : r ≠ b23 := by omega
  have hD9 : DoneI (fun b => b = r) l b23 w9 [] := ⟨(hD.ext e9).mp, fun n v hv => by cases hv⟩
  refine ⟨fun (_ : Unit) w' => ∃ (left : List (ByteArray × Sl)) (m : List (ByteArray × Sl)), Ext w w' ∧ r < w'.heap.size ∧ Rg Value.string Sl.v w' r b9 left ∧ AllW (fun b => F b ∧ b < w.heap.size) l b3 b6 b7 b9 b23 ms w' ∧ DoneI (fun b => b = r) l b23 w' m ∧
      (∀ x ∈ left, x ∈ ms) ∧ (∀ n ∈ mkeys ms, n ∈ mkeys left ∨ n ∈ mkeys m), fun _ w' => rgLeft w' r b9,
    ⟨ms, [], hE9, by have := hR.lt; omega, hR, hW9, hD9, fun x hx => hx, fun n hn => .inl hn⟩, ?_⟩
  rintro _ w10 ⟨left, m, hE10, hrl, hR10, hW10, hD10, hin, hall⟩
  have hlow : w.heap.size ≤ r := by omega
  refine rn_next hR10 (fun h0 => ?_) fun j n t w11 hj c11 s11 hR11 hent => ?_
  · refine rnp_extract (x := false) rfl ?_
    refine iteF (by simp) ?_
    refine rn_blk (x := some b23) one97 hW10.hb6 rfl rfl ?_
    refine ⟨hE10, b23, m, rfl, by omega, hD10.weaken (fun _ _ h => h.elim), fun n hn => ?_⟩
    obtain ⟨d, hs⟩ := Option.isSome_iff_exists.1 hn
    rcases hall n (hkeys n d hs) with h | h
    · rw [h0] at h; cases h
    · exact h
  · refine rnp_extract (x := true) rfl ?_
    refine iteT rfl ?_
    refine ⟨_, w11, hent, ?_⟩
    refine rnp_extract (x := n) rfl ?_
    have hW11 := hW10.chgR c11 (by omega) (by omega) (by omega) (by omega) (fun b hb he => by have := hb.2; omega)
    refine rn_blk (x := ofV b6 b3 b7) one154 hW11.hb7 rfl rfl ?_
    refine ⟨99, #[], #[Ptr ⟨b6, 0, none⟩, Ptr ⟨b3, 0, none⟩, Ptr ⟨b7, 0, none⟩], rfl, fun vs w => enters Try.func99 rfl rfl vs w, ?_⟩
    have hD11 : DoneI (fun b => b = r) l b23 w11 m := hD10.chg c11 (fun h => hr23 h.symm) (fun b _ h => h) (fun b _ h => h)
    have hnm : (n, t) ∈ ms := hin _ (List.mem_of_getElem? hj)
    have hnt : mget ms n = some t := mget_of_mem hW11.hms.keys hnm
    obtain ⟨i, hi, hi', _, hs⟩ := hdet n t hnt
    have h8 := hf.deep n _ hs
    refine Cal.mono (of_shares hf.stand hf.few 8 w11 (fun b => b = r) m n h8 h8 hW11 hD11 (fun b hb => by omega)) ?_
    rintro v w12 ⟨c12, _, m', hD12, hn', hg⟩
    have hR12 : Rg Value.string Sl.v w12 r b9 (left.eraseIdx j) := hR11.chg c12 hr23 (by have := hW11.ne.2.2.2; exact this)
    refine ⟨⟨left.eraseIdx j, m', (hE10.then c11 (fun b hb => by omega)).then c12 (fun b hb => by omega), by have := c12.size; omega, hR12, hW11.chg c12, hD12, fun x hx => hin x (List.mem_of_mem_eraseIdx hx), fun n2 hn2 => ?_⟩, ?_⟩
    · rcases hall n2 hn2 with h | h
      · obtain ⟨x, hx, rfl⟩ := List.mem_map.1 h
        obtain ⟨q, hq, rfl⟩ := List.mem_iff_getElem.1 hx
        obtain ⟨hjl, hje⟩ := List.getElem?_eq_some_iff.1 hj
        by_cases e : q = j
        · subst e; rw [hje]; exact .inr hn'
        · left
          refine List.mem_map.2 ⟨left[q], ?_, rfl⟩
          rw [List.mem_eraseIdx_iff_getElem]
          exact ⟨q, hq, e, rfl⟩
      · exact .inr (hg n2 h)
    · show rgLeft w12 r b9 < rgLeft w10 r b9
      rw [hR12.left, hR10.left, List.length_eraseIdx]
      have hjl := (List.getElem?_eq_some_iff.1 hj).1
      rw [if_pos hjl]; omega
/-- the shares of one split -/
theorem prog_shares_ok (h : ConfD F w s rs l) (hft : Fit l) (hb : (rs.length + 1) * 136 ≤ 140737488355328) (n : ByteArray) :
    Cal PP (fun x : Sl × Int => Value.tuple #[Sl.v x.1, .int .i64 x.2]) 17 #[s.v, .string n] w fun x w' => Ext w w' ∧ x.2 = errS l n ∧ ∃ xs, Rd TShare.cells 2 (fun b => w.heap.size ≤ b ∧ b < w'.heap.size) w' x.1 xs ∧ ShD xs (ansS l n) := by
  refine c17 ?_
  unfold f17
  refine New.mk fun b3 w1 e1 h3 n3 s3 => ?_
  refine (check_ok (h.ext e1) hft).mono ?_
  rintro ⟨x, f⟩ w2 ⟨e2, hfl⟩
  dsimp only at hfl ⊢
  subst hfl
  refine New.var (TFault.cells (faultM l)) sz80 rfl (oc_fault _) rfl fun b7 w3 e3 h7 nb7 => ?_
  have E3 := (e1.trans e2).trans e3
  refine rn_blk (x := (faultM l).Err) one25 h7 rfl rfl ?_
  by_cases c : (faultM l).Err = 0
  · refine iteF (by simpa using c) ?_
    have hf := fault_err c
    refine (named_ok (h.rd.ext E3) 2 hb).mono ?_
    rintro t w4 ⟨e4, hO⟩
    have E4 := E3.trans e4
    have h3' := h3.ext ((e2.trans e3).trans e4)
    refine (contains_ok (hO.rd (F := fun _ => True) (fun _ _ => trivial)) h3').mono ?_
    rintro _ w5 ⟨e5, rfl⟩
    have E5 := E4.trans e5
    rw [hasR_split h hf.ord]
    cases hs : (splitOf l n).isSome with
    | false =>
      refine iteT rfl ⟨E5, ?_, [], Rd.nil_ _ _, ?_⟩
      · unfold errS; rw [if_neg (by simpa using c), hs]; rfl
      · unfold ansS; rw [if_neg (by simp [hs])]; exact ShD.nil
    | true =>
      refine iteF (by simp) ?_
      refine Dr.mk fun w6 e6 _ => ?_
      have E6 := E5.trans e6
      refine rnl_blk (x := n) one9 ((h3'.ext e5).ext e6) rfl rfl ?_
      refine (allMap_ok (h.ext E6) hf).mono ?_
      rintro v w7 ⟨e7, b, m, rfl, hbl, hD, hall⟩
      refine ⟨e7, ?_⟩
      refine rn_get (k := n) mapT97 hD.mp ?_
      have hn := hall n hs
      cases hg : mget m n with
      | none => exact absurd hn (mget_none.1 hg)
      | some u =>
        obtain ⟨xs, r, d⟩ := hD.el n u hg
        have hok := (sh_ok hf.stand 9 n).len
        have hfew := hf.few
        have hxl : xs.length ≤ l.length := by rw [d.len]; exact hok
        refine (cloneShares_ok r (by omega)).mono ?_
        rintro y w8 ⟨e8, r8⟩
        have E7 := E6.trans e7
        have g7 := E7.size
        refine ⟨E7.trans e8, ?_, xs, r8.mono fun b hb => ⟨by omega, hb.2⟩, ?_⟩
        · unfold errS; rw [if_neg (by simpa using c), hs]; rfl
        · unfold ansS; rw [if_pos ⟨c, hs⟩]; exact d
  · refine iteT (by simpa using c) ?_
    refine Dr.mk fun w4 e4 _ => ?_
    refine rnl_blk (x := (faultM l).Err) one25 (h7.ext e4) rfl rfl ?_
    refine ⟨E3.trans e4, ?_, [], Rd.nil_ _ _, ?_⟩
    · unfold errS; rw [if_pos c]
    · unfold ansS; rw [if_neg (by simp [c])]; exact ShD.nil
end
end Go.Proofs.Ytdoeegfcmbcbkaa.Ct

/- Contracts: the shares of all splits, and the shares of one, by the document's package. -/
namespace Go.Proofs.Ytdoeegfcmbcbkaa.Ct
open Go Go.Eng Tr
set_option linter.unusedVariables false
set_option maxRecDepth 100000

def sls (x : Sl) : List Value := [Sl.v x]
theorem oc_sls (x : Sl) : ∀ u ∈ sls x, u.oneCell' = true := by simp [sls, Value.oneCell', Sl.v]
/-- what has been reckoned, as it is read -/
structure KnR (l : List DRes) (b9 : Nat) (w : World) (sn sq : Sl) (ns : List ByteArray) (qs : List Sl) : Prop where
  hb9 : Blk w b9 109 (TKnown15.cells ⟨sn, sq⟩)
  hns : Rd bs 1 (fun _ => True) w sn ns
  hqs : Rd sls 1 (fun _ => True) w sq qs
  len : ns.length = qs.length
  el : ∀ i (h : i < ns.length) (h' : i < qs.length), ∃ xs, Rd TShare.cells 2 (fun _ => True) w qs[i] xs ∧ ShD xs (shF l ns[i])
section
variable {w w' : World} {F : Nat → Prop} {s sn sq : Sl} {rs : List TResource} {l : List DRes} {b9 : Nat} {ns : List ByteArray} {qs : List Sl}
theorem KnR.ext (h : KnR l b9 w sn sq ns qs) (k : Ext w w') : KnR l b9 w' sn sq ns qs := ⟨h.hb9.ext k, h.hns.ext k, h.hqs.ext k, h.len, fun i a b => let ⟨xs, r, d⟩ := h.el i a b; ⟨xs, r.ext k, d⟩⟩
def atN (ns : List ByteArray) (n : ByteArray) (i : Nat) : Bool := match ns[i]? with
  | some x => decide (x = n)
  | none => false
theorem atN_eq {n : ByteArray} {i : Nat} (h : i < ns.length) : atN ns n i = decide (ns[i] = n) := by simp [atN, h]
theorem at_ok (h : KnR l b9 w sn sq ns qs) (n : ByteArray) : Cal PP (Value.int .i64) 60 #[.pointer (some ⟨b9, 0, none⟩), .string n] w fun x w' => w' = w ∧ x = fst? (atN ns n) ns.length := by
  refine c60 ?_
  unfold f60
  refine Lp.mk (fun (i : Int) w' => ∃ k : Nat, i = k ∧ k ≤ ns.length ∧ w' = w ∧ ∀ j, j < k → atN ns n j = false) (fun i => ns.length - i.toNat) ⟨0, rfl, Nat.zero_le _, rfl, fun j hj => absurd hj (Nat.not_lt_zero _)⟩ ?_
  rintro i _ K ⟨k, rfl, hk, rfl, hall⟩ hK
  refine ⟨_, rfl, ?_⟩
  refine rn_blk (x := sn) one44 h.hb9 rfl rfl ?_
  by_cases hlt : k < ns.length
  · refine iteT (by rw [h.hns.len]; omega) ?_
    refine ⟨_, rfl, ?_⟩
    refine rn_blk (x := sn) one44 h.hb9 rfl rfl ?_
    refine rnp_idx sl44 h.hns hlt rfl fun p _ hp => ?_
    refine rn_at0 one9 hp ?_
    have ha := atN_eq (n := n) hlt
    by_cases c : ns[k] = n
    · exact iteT c ⟨rfl, (fst?_some hlt (by rw [ha]; simpa using c) hall).symm⟩
    · refine iteF c ?_
      rw [h.hns.wr hlt]
      exact hK _ _ ⟨k + 1, rfl, hlt, rfl, all_succ hall (by rw [ha]; simpa using c)⟩ (by omega)
  · refine iteF (by rw [h.hns.len]; omega) ⟨rfl, (fst?_none fun j hj => hall j (by omega)).symm⟩
theorem atN_cases (ns : List ByteArray) (n : ByteArray) : (fst? (atN ns n) ns.length = -1 ∧ n ∉ ns) ∨ ∃ (k : Nat) (hk : k < ns.length), fst? (atN ns n) ns.length = k ∧ ns[k] = n := by
  rcases fst?_le (p := atN ns n) (n := ns.length) with h | ⟨k, h, hk, hp⟩
  · refine .inl ⟨h, fun hm => ?_⟩
    obtain ⟨i, hi, rfl⟩ := List.mem_iff_getElem.1 hm
    have := fst?_neg (by omega : fst? (atN ns ns[i]) ns.length < 0) i hi
    rw [atN_eq hi] at this; simp at this
  · exact .inr ⟨k, hk, h, by rw [atN_eq hk] at hp; simpa using hp⟩
theorem one_ok (hk : KnR l b9 w sn sq ns qs) {r : TResource} {d : DRes} (hr : ResD F w r d) (hok : ∀ k, OkS l (sumS (shF l) (d.targets.take k))) (hS : Stand l) (hlen : l.length ≤ 64) :
    Cal PP (fun x : Sl × Bool => Value.tuple #[Sl.v x.1, .bool x.2]) 104 #[.pointer (some ⟨b9, 0, none⟩), r.v] w fun x w' => Ext w w' ∧ (x.2 = true → ∃ xs, Own TShare.cells 2 32 w.heap.size w' x.1 xs ∧ ShD xs (sumS (shF l) d.targets)) ∧ ((∀ c ∈ kidsOf d, c ∈ ns) → x.2 = true) := by
  refine c104 ?_
  unfold f104
  have ht0 := hr.targets
  generalize hts : d.targets = ts at ht0 hok
  refine New.mk fun b3 w1 e1 h3 n3 s3 => ?_
  refine Lp.mk (fun (y : Sl × Int) w' => ∃ (k : Nat) (xs : List TShare), y.2 = k ∧ k ≤ ts.length ∧ Ext w w' ∧ Own TShare.cells 2 32 w.heap.size w' y.1 xs ∧ (∀ b, own? y.1 b → b ≠ b3) ∧ ShD xs (sumS (shF l) (ts.take k)) ∧ Blk w' b3 48 (TResource.cells r)) (fun y => ts.length - y.2.toNat)
    ⟨0, [], rfl, Nat.zero_le _, e1, Own.nil_ _ _, (fun b ⟨a, ha, _⟩ => by cases ha), ShD.nil, h3⟩ ?_
  rintro ⟨z, _⟩ w2 K ⟨k, xs, rfl, hkl, hE, hO, hne, hd, h3⟩ hK
  dsimp only at hO hne ⊢
  have ht := ht0.ext hE
  refine rn_blk (x := r.Targets) one45 h3 rfl rfl ?_
  by_cases hlt : k < ts.length
  · refine iteT (by rw [ht.len]; omega) ?_
    refine ⟨fun z w' => ∃ xs, Ext w w' ∧ Own TShare.cells 2 32 w.heap.size w' z xs ∧ (∀ b, own? z b → b ≠ b3) ∧ ShD xs (sumS (shF l) (ts.take (k + 1))) ∧ Blk w' b3 48 (TResource.cells r), ?_, ?_⟩
    · have hok1 := hok (k + 1)
      rw [sumS_succ hlt] at hok1 ⊢
      refine rn_blk (x := r.Targets) one45 h3 rfl rfl ?_
      refine rnp_idx sl45 ht hlt rfl fun p _ hp => ?_
      refine rn_at (x := ts[k].Weight) one30 hp rfl ?_
      refine arith_run .quo _ rfl fun wv w3 hwv e3 _ => ?_
      replace hwv : Fl (wt ts[k]) wv := hwv
      replace hE := hE.trans e3; replace hO := hO.ext e3; replace h3 := h3.ext e3
      replace ht := ht0.ext hE
      refine rn_blk (x := r.Targets) one45 h3 rfl rfl ?_
      refine rnp_idx sl45 ht hlt rfl fun p _ hp => ?_
      refine rn_at (x := ts[k].Service) one9 hp rfl ?_
      have g3 := h3.lt
      have gE := hE.size
      unfold partS at hok1 ⊢
      by_cases c : ts[k].Service = ⟨#[]⟩
      · rw [if_pos c] at hok1 ⊢
        refine iteF (by simpa using c) ?_
        refine rn_blk (x := r.Targets) one45 h3 rfl rfl ?_
        refine rnp_idx sl45 ht hlt rfl fun p _ hp => ?_
        refine rn_at (x := ts[k].Split) one9 hp rfl ?_
        refine (at_ok (hk.ext hE) ts[k].Split).mono ?_
        rintro _ w4 ⟨rfl, rfl⟩
        rcases atN_cases ns ts[k].Split with ⟨hx, hno⟩ | ⟨i, hi, hx, hni⟩
        · rw [hx]
          refine iteT (by decide) ⟨hE, (fun h => by cases h), fun h => ?_⟩
          refine absurd (h _ ?_) hno
          unfold kidsOf; rw [hts]
          exact List.mem_map.2 ⟨ts[k], List.mem_filter.2 ⟨List.getElem_mem hlt, by simpa using c⟩, rfl⟩
        · rw [hx]
          refine iteF (by omega) ?_
          have hiq : i < qs.length := by rw [← hk.len]; exact hi
          obtain ⟨vs, hv, hvd⟩ := hk.el i hi hiq
          rw [hni] at hvd
          have hvl := hvd.len
          refine Lp.mk (fun (y : Sl × Int) w' => ∃ (q : Nat) (xs : List TShare), y.2 = q ∧ q ≤ vs.length ∧ Ext w w' ∧ Own TShare.cells 2 32 w.heap.size w' y.1 xs ∧ (∀ b, own? y.1 b → b ≠ b3) ∧ ShD xs (mixS (wt ts[k]) (sumS (shF l) (ts.take k)) ((shF l ts[k].Split).take q)) ∧ Blk w' b3 48 (TResource.cells r)) (fun y => vs.length - y.2.toNat)
            ⟨0, xs, rfl, Nat.zero_le _, hE, hO, hne, hd, h3⟩ ?_
          clear hE hO hne hd h3 ht g3 gE
          rintro ⟨y, _⟩ w5 K2 ⟨q, xs5, rfl, hq, hE, hO, hne, hd, h3⟩ hK2
          dsimp only at hO hne ⊢
          have hk5 := hk.ext hE
          have hv5 := hv.ext hE
          have rdq : ∀ {K : Sl → World → Prop}, K qs[i] w5 → NotNil (some ⟨b9, 0, none⟩) fun t54 => Rn PP Sl.v (Instr.loadAt 107 (Ptr (t54.add 1))) w5 fun t56 w => RnP PP Ptr (Instr.indexAt 107 (Sl.v t56) (.int .i64 (i : Int))) fun t58 => Rn PP Sl.v (Instr.loadAt 23 (Ptr t58)) w K := fun hKK => by
            refine ⟨_, rfl, ?_⟩
            refine rn_blk (x := sq) one107 hk5.hb9 rfl rfl ?_
            refine rnp_idx sl107 hk5.hqs hiq rfl fun p _ hp => ?_
            exact rn_at0 one23 hp hKK
          refine rdq ?_
          by_cases hqv : q < vs.length
          · refine iteT (by rw [hv5.len]; omega) ?_
            have hqs : q < (shF l ts[k].Split).length := by omega
            have hel := hvd.el q hqv hqs
            refine rdq ?_
            refine rnp_idx sl23 hv5 hqv rfl fun p _ hp => ?_
            refine rn_at (x := vs[q].Upto) one30 hp rfl ?_
            refine rn_mul2 hwv hel.2 fun pv w6 hpv e6 _ => ?_
            have hk6 := hk5.ext e6
            refine ⟨_, rfl, ?_⟩
            refine rn_blk (x := sq) one107 hk6.hb9 rfl rfl ?_
            refine rnp_idx sl107 hk6.hqs hiq rfl fun p _ hp => ?_
            refine rn_at0 one23 hp ?_
            refine rnp_idx sl23 (hv5.ext e6) hqv rfl fun p _ hp => ?_
            refine rn_at (x := vs[q].Service) one9 hp rfl ?_
            have hb := OkS.len (OkS.mix (x := wt ts[k]) (zs := (shF l ts[k].Split).take q) (hok k) fun p hp => (sh_ok hS 9 ts[k].Split).has p (List.mem_of_mem_take hp))
            have gsz := hE.size
            have gs := e6.size
            have g3 := h3.lt
            refine Cal.mono (refAdd_ok (n := vs[q].Service) (hO.ext e6) hd (by omega) hpv (by omega)) ?_
            rintro z' w8 ⟨c8, n8, xs8, hO8, hd8⟩
            rw [hv5.wr hqv]
            have own5 : ∀ b, own? y b → w.heap.size ≤ b ∧ b < w5.heap.size := fun b hb => hO.ge hb
            refine hK2 _ _ ⟨q + 1, xs8, rfl, hqv, (hE.trans e6).then c8 (fun b hb => (own5 b hb).1), hO8, fun b hb => ?_, ?_, (h3.ext e6).chg c8 (fun ho => hne _ ho rfl)⟩ (by dsimp only; omega)
            · rcases n8 b hb with h | h
              · exact hne b h
              · omega
            · rw [mixS_succ hqs]; rw [hel.1] at hd8; exact hd8
          · refine iteF (by rw [hv5.len]; omega) ?_
            obtain rfl : q = vs.length := by omega
            rw [hvl, List.take_length] at hd
            exact ⟨xs5, hE, hO, hne, hd, h3⟩
      · rw [if_neg c] at hok1 ⊢
        refine iteT (by simpa using c) ?_
        refine rn_blk (x := r.Targets) one45 h3 rfl rfl ?_
        refine rnp_idx sl45 ht hlt rfl fun p _ hp => ?_
        refine rn_at (x := ts[k].Service) one9 hp rfl ?_
        have hb := (hok k).len
        refine Cal.mono (refAdd_ok (n := ts[k].Service) hO hd (by omega) hwv (by omega)) ?_
        rintro z' w8 ⟨c8, n8, xs8, hO8, hd8⟩
        refine ⟨xs8, hE.then c8 (fun b hb => (hO.ge hb).1), hO8, fun b hb => ?_, hd8, h3.chg c8 (fun ho => hne _ ho rfl)⟩
        · rcases n8 b hb with h | h
          · exact hne b h
          · omega
    · rintro z' w4 ⟨xs4, hE, hO, hne, hd, h3⟩
      rw [ht.wr hlt]
      exact hK _ _ ⟨k + 1, xs4, rfl, hlt, hE, hO, hne, hd, h3⟩ (by dsimp only; omega)
  · refine iteF (by rw [ht.len]; omega) ?_
    obtain rfl : k = ts.length := by omega
    rw [List.take_length] at hd
    exact ⟨hE, fun _ => ⟨xs, hO, hd⟩, fun _ => rfl⟩
end
end Go.Proofs.Ytdoeegfcmbcbkaa.Ct

/- Contracts: all splits reckoned round by round, and the shares of one, by the document's package. -/
namespace Go.Proofs.Ytdoeegfcmbcbkaa.Ct
open Go Go.Eng Tr
set_option linter.unusedVariables false
set_option maxRecDepth 100000

/-- what has been reckoned, in memory of its own -/
structure KnO (l : List DRes) (B b9 : Nat) (w : World) (sn sq : Sl) (ns : List ByteArray) (qs : List Sl) : Prop where
  hb9 : Blk w b9 109 (TKnown15.cells ⟨sn, sq⟩)
  low : B ≤ b9
  on : Own bs 1 9 B w sn ns
  oq : Own sls 1 23 B w sq qs
  n9 : ∀ b, own? sn b → b ≠ b9
  q9 : ∀ b, own? sq b → b ≠ b9
  nq : ∀ b, own? sn b → ¬ own? sq b
  len : ns.length = qs.length
  el : ∀ i (h : i < ns.length) (h' : i < qs.length), ∃ xs, Rd TShare.cells 2 (fun b => (b ≠ b9 ∧ ¬ own? sn b ∧ ¬ own? sq b) ∧ b < w.heap.size) w qs[i] xs ∧ ShD xs (shF l ns[i])
  nd : ns.Nodup
  sub : ∀ n ∈ ns, (splitOf l n).isSome = true
section
variable {w w' : World} {F : Nat → Prop} {s sn sq : Sl} {rs : List TResource} {l : List DRes} {B b9 : Nat} {ns : List ByteArray} {qs : List Sl}
theorem KnO.ext (h : KnO l B b9 w sn sq ns qs) (k : Ext w w') : KnO l B b9 w' sn sq ns qs :=
  ⟨h.hb9.ext k, h.low, h.on.ext k, h.oq.ext k, h.n9, h.q9, h.nq, h.len, fun i a b => let ⟨xs, r, d⟩ := h.el i a b; ⟨xs, (r.ext k).mono fun b hb => ⟨hb.1, by have := k.size; omega⟩, d⟩, h.nd, h.sub⟩
theorem KnO.r (h : KnO l B b9 w sn sq ns qs) : KnR l b9 w sn sq ns qs :=
  ⟨h.hb9, h.on.rd (fun _ _ => trivial), h.oq.rd (fun _ _ => trivial), h.len, fun i a b => let ⟨xs, r, d⟩ := h.el i a b; ⟨xs, r.mono fun _ _ => trivial, d⟩⟩
theorem KnO.few (h : KnO l B b9 w sn sq ns qs) : ns.length ≤ l.length := by
  have := sub_len (ys := l.map (·.name)) h.nd fun n hn => by
    obtain ⟨d, hs⟩ := Option.isSome_iff_exists.1 (h.sub n hn)
    obtain ⟨h1, _, h3⟩ := splitOf_mem hs
    exact List.mem_map.2 ⟨d, h1, h3⟩
  simpa using this
def unkS (ns : List ByteArray) (d : DRes) : Bool := decide (d.kind = 2) && !(ns.any fun x => decide (x = d.name))
theorem unkS_iff {ns : List ByteArray} {d : DRes} : unkS ns d = true ↔ d.kind = 2 ∧ d.name ∉ ns := by
  simp only [unkS, Bool.and_eq_true, decide_eq_true_eq, Bool.not_eq_true', List.any_eq_false]
  exact ⟨fun ⟨h1, h2⟩ => ⟨h1, fun hm => h2 _ hm rfl⟩, fun ⟨h1, h2⟩ => ⟨h1, fun x hx e => h2 (e ▸ hx)⟩⟩
theorem unkS_no {ns : List ByteArray} {d : DRes} (h : d.name ∈ ns ∨ d.kind ≠ 2) : unkS ns d = false := by
  cases c : unkS ns d with
  | false => rfl
  | true => obtain ⟨h1, h2⟩ := unkS_iff.1 c; rcases h with h | h; exact absurd h h2; exact absurd h1 h
theorem unkS_in {ns : List ByteArray} {d : DRes} (h : unkS ns d = false) (h2 : d.kind = 2) : d.name ∈ ns := Classical.byContradiction fun hn => by rw [unkS_iff.2 ⟨h2, hn⟩] at h; cases h
theorem refAll_ok (h : ConfD F w s rs l) (hf : Fine l) : Cal PP Value.pointer 59 #[s.v] w fun v w' => Ext w w' ∧ ∃ b9 sn sq ns qs, v = some ⟨b9, 0, none⟩ ∧ w.heap.size ≤ b9 ∧ KnR l b9 w' sn sq ns qs ∧ (∀ n, (splitOf l n).isSome = true → n ∈ ns) ∧ ∀ n ∈ ns, (splitOf l n).isSome = true := by
  refine c59 ?_
  unfold f59
  have hfew := hf.few
  refine New.mk fun b9 w1 e1 h9 n9 s9 => ?_
  have hK0 : KnO l w.heap.size b9 w1 Sl.nil Sl.nil [] [] := ⟨h9, by omega, Own.nil_ _ _, Own.nil_ _ _, (fun b ⟨a, ha, _⟩ => by cases ha), (fun b ⟨a, ha, _⟩ => by cases ha), (fun b ⟨a, ha, _⟩ => by cases ha), rfl, (fun i h => absurd h (Nat.not_lt_zero _)), List.nodup_nil, (fun n hn => by cases hn)⟩
  refine Lp.mk (fun (i : Int) w' => ∃ (k : Nat) (sn sq : Sl) (ns : List ByteArray) (qs : List Sl), i = k ∧ k ≤ l.length ∧ Ext w w' ∧ KnO l w.heap.size b9 w' sn sq ns qs ∧ l.countP (unkS ns) + k ≤ l.length) (fun i => l.length - i.toNat)
    ⟨0, _, _, _, _, rfl, Nat.zero_le _, e1, hK0, List.countP_le_length⟩ ?_
  clear hK0
  rintro i w2 K ⟨r, sn, sq, N0, qs, rfl, hr, hE, hKn, hcnt⟩ hK
  by_cases hlt : r < l.length
  · rw [if_pos (by rw [h.n]; omega)]
    refine Lp.mk (fun (i : Int) w' => ∃ (k : Nat) (sn sq : Sl) (ns : List ByteArray) (qs : List Sl), i = k ∧ k ≤ l.length ∧ Ext w w' ∧ KnO l w.heap.size b9 w' sn sq ns qs ∧ (∀ n ∈ N0, n ∈ ns) ∧ ∀ j (hj : j < l.length), j < k → l[j].kind = 2 → (∀ c ∈ kidsOf l[j], c ∈ N0) → l[j].name ∈ ns) (fun i => l.length - i.toNat)
      ⟨0, sn, sq, N0, qs, rfl, Nat.zero_le _, hE, hKn, fun _ h => h, fun j _ hj => absurd hj (Nat.not_lt_zero _)⟩ ?_
    clear hE hKn
    rintro i w3 K2 ⟨k, sn, sq, ns, qs, rfl, hk, hE, hKn, hsub, hall⟩ hK2
    by_cases hlk : k < l.length
    · rw [if_pos (by rw [h.n]; omega)]
      have hlr : k < rs.length := by rw [h.len]; exact hlk
      refine ⟨fun _ w' => ∃ (sn sq : Sl) (ns : List ByteArray) (qs : List Sl), Ext w w' ∧ KnO l w.heap.size b9 w' sn sq ns qs ∧ (∀ n ∈ N0, n ∈ ns) ∧ ∀ j (hj : j < l.length), j < k + 1 → l[j].kind = 2 → (∀ c ∈ kidsOf l[j], c ∈ N0) → l[j].name ∈ ns, ?_, ?_⟩
      · refine ⟨fun x w' => w' = w3 ∧ x = !(unkS ns l[k]), ?_, ?_⟩
        · refine (h.ext hE).idx hlk rfl fun p r _ hp hr => ?_
          refine rn_at (x := r.Kind) one3 hp rfl ?_
          rw [hr.kind]
          by_cases c : l[k].kind = 2
          · refine iteF (by simpa using c) ?_
            refine (h.ext hE).idx hlk rfl fun p r _ hp hr => ?_
            refine rn_at (x := r.Name) one9 hp rfl ?_
            rw [hr.name]
            refine (at_ok hKn.r l[k].name).mono ?_
            rintro _ w4 ⟨rfl, rfl⟩
            refine ⟨rfl, ?_⟩
            rcases atN_cases ns l[k].name with ⟨hx, hno⟩ | ⟨i, hi, hx, hni⟩
            · rw [hx, unkS_iff.2 ⟨c, hno⟩]; rfl
            · have hin : l[k].name ∈ ns := by rw [← hni]; exact List.getElem_mem hi
              rw [hx, unkS_no (.inl hin)]; simp
          · exact iteT (by simpa using c) ⟨rfl, by rw [unkS_no (.inr c)]; rfl⟩
        rintro _ w4 ⟨rfl, rfl⟩
        cases hu : unkS ns l[k] with
        | false =>
          refine iteT rfl ⟨sn, sq, ns, qs, hE, hKn, hsub, fun j hj hjk h2 hc => ?_⟩
          by_cases hjk' : j < k
          · exact hall j hj hjk' h2 hc
          · obtain rfl : j = k := by omega
            exact unkS_in hu h2
        | true =>
          refine iteF (by simp) ?_
          obtain ⟨hk2, hno⟩ := unkS_iff.1 hu
          have hsp := splitOf_self hf.ord _ (List.getElem_mem hlk) hk2
          have h8 := hf.deep _ _ hsp
          refine (h.ext hE).idx hlk rfl fun p r _ hp hr => ?_
          refine rn_ldN (x := r) many48 hp rfl rfl ?_
          refine (one_ok hKn.r hr (sumS_ok hf.stand (List.getElem_mem hlk) hk2) hf.stand hfew).mono ?_
          rintro ⟨z, ok⟩ w5 ⟨e5, hyes, hkids⟩
          dsimp only at hyes hkids ⊢
          cases ok with
          | false =>
            refine iteF (by simp) ⟨sn, sq, ns, qs, hE.trans e5, hKn.ext e5, hsub, fun j hj hjk h2 hc => ?_⟩
            by_cases hjk' : j < k
            · exact hall j hj hjk' h2 hc
            · obtain rfl : j = k := by omega
              exact absurd (hkids fun c hc' => hsub _ (hc c hc')) (by simp)
          | true =>
            refine iteT rfl ?_
            obtain ⟨xs, hz, hzd⟩ := hyes rfl
            rw [← shF_eq h8 hsp] at hzd
            clear hyes hkids hp hr
            refine Dr.mk fun w6 e6 _ => ?_
            have E6 := e5.trans e6
            have hKn6 := hKn.ext E6
            have hE6 := hE.trans E6
            have hz6 := hz.ext e6
            refine rnl_blk (x := sn) one44 hKn6.hb9 rfl rfl ?_
            refine (h.ext hE6).idx hlk rfl fun p r _ hp hr => ?_
            refine rnl_at (x := r.Name) one9 hp rfl ?_
            rw [hr.name]
            refine New.mk fun b58 w7 e7 h58 n58 s58 => ?_
            have hKn7 := hKn6.ext e7
            have hlen := hKn.few
            have gB := hE.size; have g6 := E6.size; have g7 := e7.size
            refine rn_app1 (x := l[k].name) el44 hKn7.on h58 rfl rfl (oc_bs _) (by omega) (by decide) (by omega) fun sn' w8 O8 c8 n8 => ?_
            have g8 := c8.size
            have l9 := hKn7.hb9.lt
            have on7 : ∀ b, own? sn b → w.heap.size ≤ b ∧ b < w4.heap.size := fun b hb => hKn.on.ge hb
            have oq7 : ∀ b, own? sq b → w.heap.size ≤ b ∧ b < w4.heap.size := fun b hb => hKn.oq.ge hb
            have lo9 : w.heap.size ≤ b9 ∧ b9 < w4.heap.size := ⟨hKn.low, hKn.hb9.lt⟩
            have zo : ∀ b, own? z b → w4.heap.size ≤ b ∧ b < w6.heap.size := fun b hb => hz6.ge hb
            have b9_8 := hKn7.hb9.chg c8 (fun ho => hKn.n9 _ ho rfl)
            refine rnu_st (b := b9) (o := 0) rfl b9_8 [Sl.v sn'] sz44 rfl (by simp [Sl.v, Value.oneCell']) (by simp [TKnown15.cells]) fun w9 c9 s9' b9_9 => ?_
            replace b9_9 : Blk w9 b9 109 (TKnown15.cells ⟨sn', sq⟩) := b9_9
            refine rn_blk (x := sq) one107 b9_9 rfl rfl ?_
            refine New.mk fun b68 w10 e10 h68 n68 s68 => ?_
            have oq10 : Own sls 1 23 w.heap.size w10 sq qs := (((hKn7.oq.chg c8 (fun b hb ho => hKn.nq b ho hb)).chg c9 (fun b hb => hKn.q9 b hb)).ext e10)
            have g10 := e10.size
            refine rn_app1 (x := z) el107 oq10 h68 rfl rfl (oc_sls _) (by rw [← hKn.len]; omega) (by decide) (by omega) fun sq' w11 O11 c11 n11 => ?_
            have g11 := c11.size
            have nsn : ∀ b, own? sn' b → (own? sn b ∨ b = w7.heap.size) ∧ b < w8.heap.size := fun b hb => ⟨n8 b hb, (O8.ge hb).2⟩
            have nsq : ∀ b, own? sq' b → own? sq b ∨ b = w10.heap.size := n11
            have hn9 : ∀ b, own? sn' b → b ≠ b9 := fun b hb => by
              rcases (nsn b hb).1 with h | h
              · exact hKn.n9 b h
              · omega
            have hnq : ∀ b, own? sn' b → ¬ own? sq' b := fun b hb hq => by
              have h0 := (nsn b hb).2
              rcases (nsn b hb).1 with h | h <;> rcases nsq b hq with h' | h'
              · exact hKn.nq b h h'
              · omega
              · have := (oq7 b h').2; omega
              · omega
            have hnq' : ∀ b, own? sn' b → ¬ own? sq b := fun b hb hq => by
              rcases (nsn b hb).1 with h | h
              · exact hKn.nq b h hq
              · have := (oq7 b hq).2; omega
            have hq9 : ∀ b, own? sq' b → b ≠ b9 := fun b hb => by
              rcases nsq b hb with h | h
              · exact hKn.q9 b h
              · omega
            have b9_11 := (b9_9.ext e10).chg c11 (fun ho => hKn.q9 _ ho rfl)
            refine rnu_st (b := b9) (o := 1) rfl b9_11 [Sl.v sq'] sz107 rfl (by simp [Sl.v, Value.oneCell']) (by simp [TKnown15.cells]) fun w12 c12 s12 b9_12 => ?_
            replace b9_12 : Blk w12 b9 109 (TKnown15.cells ⟨sn', sq'⟩) := b9_12
            have hE12 : Ext w w12 := ((((((hE6.trans e7).then c8 (fun b hb => (on7 b hb).1)).then c9 (fun b hb => by omega)).trans e10).then c11 (fun b hb => (oq7 b hb).1)).then c12 (fun b hb => by omega))
            -- what a slice of shares, apart from all these, reads as
            have carry : ∀ {v : Sl} {ys : List TShare} {G : Nat → Prop}, Rd TShare.cells 2 G w7 v ys → (∀ b, G b → (b ≠ b9 ∧ ¬ own? sn b ∧ ¬ own? sq b) ∧ b < w7.heap.size) →
                Rd TShare.cells 2 (fun b => (b ≠ b9 ∧ ¬ own? sn' b ∧ ¬ own? sq' b) ∧ b < w12.heap.size) w12 v ys := fun hv hG =>
              (((((hv.chg c8 (fun b hb _ => (hG b hb).1.2.1)).chg c9 (fun b hb _ => (hG b hb).1.1)).ext e10).chg c11 (fun b hb _ => (hG b hb).1.2.2)).chg c12 (fun b hb _ => (hG b hb).1.1)).mono fun b hb => by
                obtain ⟨⟨h1, h2, h3⟩, h4⟩ := hG b hb
                have g12 := c12.size; have g9 := c9.size
                refine ⟨⟨h1, fun ho => ?_, fun ho => ?_⟩, by omega⟩
                · rcases (nsn b ho).1 with h | h
                  · exact h2 h
                  · omega
                · rcases nsq b ho with h | h
                  · exact h3 h
                  · omega
            refine ⟨sn', sq', ns ++ [l[k].name], qs ++ [z], hE12, ⟨b9_12, hKn.low, ?_, ?_, hn9, hq9, hnq, by simp [hKn.len], ?_, ?_, ?_⟩, fun n hn => List.mem_append.2 (.inl (hsub n hn)), ?_⟩
            · exact (((O8.chg c9 (fun b hb => hn9 b hb)).ext e10).chg c11 (fun b hb => hnq' b hb)).chg c12 (fun b hb => hn9 b hb)
            · exact O11.chg c12 (fun b hb => hq9 b hb)
            · intro i hi hi'
              by_cases hin : i < ns.length
              · have hiq : i < qs.length := by rw [← hKn.len]; exact hin
                rw [List.getElem_append_left hin, List.getElem_append_left hiq]
                obtain ⟨ys, hv, hd⟩ := hKn7.el i hin hiq
                exact ⟨ys, carry hv fun b hb => hb, hd⟩
              · have : i = ns.length := by simp at hi; omega
                subst this
                have e1 : (ns ++ [l[k].name])[ns.length] = l[k].name := by simp
                have e2 : (qs ++ [z])[ns.length]'hi' = z := by simp [hKn.len]
                rw [e1, e2]
                refine ⟨xs, carry ((hz6.ext e7).rd (F := fun b => own? z b) (fun b hb => hb)) fun b hb => ?_, hzd⟩
                have := zo b hb
                exact ⟨⟨by omega, fun ho => by have := (on7 b ho).2; omega, fun ho => by have := (oq7 b ho).2; omega⟩, by omega⟩
            · rw [List.nodup_append]
              refine ⟨hKn.nd, by simp, fun a ha b hb => ?_⟩
              simp only [List.mem_singleton] at hb
              subst hb
              exact fun e => hno (e ▸ ha)
            · intro n hn
              rcases List.mem_append.1 hn with hn | hn
              · exact hKn.sub n hn
              · simp only [List.mem_singleton] at hn; subst hn; rw [hsp]; rfl
            · intro j hj hjk h2 hc
              by_cases hjk' : j < k
              · exact List.mem_append.2 (.inl (hall j hj hjk' h2 hc))
              · obtain rfl : j = k := by omega
                simp
      · rintro _ w4 ⟨sn, sq, ns, qs, hE, hKn, hsub, hall⟩
        rw [h.wr hlk]
        exact hK2 _ _ ⟨k + 1, sn, sq, ns, qs, rfl, hlk, hE, hKn, hsub, hall⟩ (by omega)
    · rw [if_neg (by rw [h.n]; omega)]
      obtain rfl : k = l.length := by omega
      rw [h.wr hlt]
      refine hK _ _ ⟨r + 1, sn, sq, ns, qs, rfl, hlt, hE, hKn, ?_⟩ (by omega)
      have hmono : ∀ x ∈ l, unkS ns x = true → unkS N0 x = true := fun x _ hx => by
        obtain ⟨hx1, hx2⟩ := unkS_iff.1 hx
        exact unkS_iff.2 ⟨hx1, fun hm => hx2 (hsub _ hm)⟩
      by_cases hex : ∃ m, ∃ d ∈ l, unkS N0 d = true ∧ hd l 8 d.name = m
      · obtain ⟨m, ⟨d, hd0, hu, hm⟩, hmin⟩ := least hex
        have hu' := unkS_iff.1 hu
        have hsp := splitOf_self hf.ord _ hd0 hu'.1
        have hin : d.name ∈ ns := by
          obtain ⟨j, hj, rfl⟩ := List.mem_iff_getElem.1 hd0
          refine hall j hj (by omega) hu'.1 fun c hc => ?_
          refine Classical.byContradiction fun hno => ?_
          obtain ⟨d', hs'⟩ := Option.isSome_iff_exists.1 (hf.kids _ _ c hsp hc)
          obtain ⟨q1, q2, q3⟩ := splitOf_mem hs'
          have hkid : c ∈ Ct.kids l l[j].name := by unfold Ct.kids; rw [hsp]; exact hc
          have hlt' := kid_hd (hf.deep _ _ hsp) hkid
          have := hmin (hd l 8 c) ⟨d', q1, unkS_iff.2 ⟨q2, by rw [q3]; exact hno⟩, by rw [q3]⟩
          omega
        have := cnt_lt l hmono ⟨d, hd0, hu, unkS_no (.inl hin)⟩
        omega
      · have h0 : l.countP (unkS N0) = 0 := List.countP_eq_zero.2 fun d hd hu => hex ⟨_, d, hd, hu, rfl⟩
        have := cnt_le l hmono
        omega
  · rw [if_neg (by rw [h.n]; omega)]
    obtain rfl : r = l.length := by omega
    refine ⟨hE, b9, sn, sq, N0, qs, rfl, hKn.low, hKn.r, fun n hn => ?_, hKn.sub⟩
    obtain ⟨d, hs⟩ := Option.isSome_iff_exists.1 hn
    obtain ⟨q1, q2, q3⟩ := splitOf_mem hs
    have h0 : l.countP (unkS N0) = 0 := by omega
    have := List.countP_eq_zero.1 h0 d q1
    rw [← q3]; exact unkS_in (by simpa using this) q2
theorem ref_shares_ok (h : ConfD F w s rs l) (hft : Fit l) (n : ByteArray) :
    Cal PP (fun x : Sl × Int => Value.tuple #[Sl.v x.1, .int .i64 x.2]) 18 #[s.v, .string n] w fun x w' => Ext w w' ∧ x.2 = errS l n ∧ ∃ xs, Rd TShare.cells 2 (fun _ => True) w' x.1 xs ∧ ShD xs (ansS l n) := by
  refine c18 ?_
  unfold f18
  refine (refCheck_ok h hft).mono ?_
  rintro ⟨x, f⟩ w2 ⟨e2, hfl⟩
  dsimp only at hfl ⊢
  subst hfl
  refine New.var (TFault14.cells (toRef (faultM l))) sz101 rfl (oc_fault14 _) rfl fun b7 w3 e3 h7 nb7 => ?_
  have E3 := e2.trans e3
  refine rn_blk (x := (faultM l).Err) one3 h7 rfl rfl ?_
  by_cases c : (faultM l).Err = 0
  · refine iteF (by simpa using c) ?_
    have hf := fault_err c
    refine (refAll_ok (h.ext E3) hf).mono ?_
    rintro v w4 ⟨e4, b9, sn, sq, ns, qs, rfl, hlow, hKn, hall, hsub⟩
    have E4 := E3.trans e4
    refine (at_ok hKn n).mono ?_
    rintro _ w5 ⟨rfl, rfl⟩
    rcases atN_cases ns n with ⟨hx, hno⟩ | ⟨i, hi, hx, hni⟩
    · rw [hx]
      have hs : ¬ (splitOf l n).isSome = true := fun h => hno (hall n h)
      refine iteT (by decide) ⟨E4, ?_, [], Rd.nil_ _ _, ?_⟩
      · unfold errS; rw [if_neg (by simpa using c), if_neg hs]
      · unfold ansS; rw [if_neg (by simp [hs])]; exact ShD.nil
    · rw [hx]
      refine iteF (by omega) ?_
      have hiq : i < qs.length := by rw [← hKn.len]; exact hi
      obtain ⟨xs, hv, hd⟩ := hKn.el i hi hiq
      have hs : (splitOf l n).isSome = true := by rw [← hni]; exact hsub _ (List.getElem_mem hi)
      refine ⟨_, rfl, ?_⟩
      refine rn_blk (x := sq) one107 hKn.hb9 rfl rfl ?_
      refine rnp_idx sl107 hKn.hqs hiq rfl fun p _ hp => ?_
      refine rn_at0 one23 hp ?_
      refine ⟨E4, ?_, xs, hv, ?_⟩
      · unfold errS; rw [if_neg (by simpa using c), if_pos hs]
      · unfold ansS; rw [if_pos ⟨c, hs⟩, ← hni]; exact hd
  · refine iteT (by simpa using c) ?_
    refine Dr.mk fun w4 e4 _ => ?_
    refine rnl_blk (x := (faultM l).Err) one3 (h7.ext e4) rfl rfl ?_
    refine ⟨E3.trans e4, ?_, [], Rd.nil_ _ _, ?_⟩
    · unfold errS; rw [if_pos c]
    · unfold ansS; rw [if_neg (by simp [c])]; exact ShD.nil
end
end Go.Proofs.Ytdoeegfcmbcbkaa.Ct

/- What comes in, of this module's own structs. -/
namespace Go.Proofs.Ytdoeegfcmbcbkaa.Ct
open Go Go.Eng Tr Opn
open Go.ChangeShapes Go.WideShapes Go.RowKit
set_option linter.unusedVariables false
set_option maxRecDepth 100000

theorem c9 : PP.cellsOf 9 = 1 := by kernel_rfl
theorem c3' : PP.cellsOf 3 = 1 := by kernel_rfl
theorem c4' : PP.cellsOf 4 = 1 := by kernel_rfl
theorem c30' : PP.cellsOf 30 = 1 := by kernel_rfl
theorem c44' : PP.cellsOf 44 = 1 := by kernel_rfl
theorem c45' : PP.cellsOf 45 = 1 := by kernel_rfl
theorem c46' : PP.cellsOf 46 = 1 := by kernel_rfl
theorem c32' : PP.cellsOf 32 = 2 := by kernel_rfl
theorem c84' : PP.cellsOf 84 = 3 := by kernel_rfl
theorem c91' : PP.cellsOf 91 = 4 := by kernel_rfl
theorem c48' : PP.cellsOf 48 = 8 := by kernel_rfl
def okT (x : TTarget) : Prop := x.Service.size ≤ maxLen ∧ x.Split.size ≤ maxLen
def okR (x : TRule) : Prop := x.Path.size ≤ maxLen ∧ x.Method.size ≤ maxLen ∧ x.Split.size ≤ maxLen
def okS' (x : TShare) : Prop := x.Service.size ≤ maxLen
def bkT (x : TTarget) : Nat := x.Service.size + x.Split.size + 1
def bkR (x : TRule) : Nat := x.Path.size + x.Method.size + x.Split.size + 1
def bkS (x : TShare) : Nat := x.Service.size + 1
theorem dec_share : Dec PP 32 TShare.cells (fun _ x => okS' x) bkS := ⟨fun {H enc w base spare held n cs y} h => by
  obtain ⟨xs, m, rfl, hy, hl, hxl, hf⟩ := DataW.trod_struct Try.underlying32 h
  rw [c32'] at hl
  obtain ⟨a, b, rfl⟩ := len2 hl
  obtain ⟨x, z, rfl⟩ := len2 (l := xs) (by simpa using hxl)
  obtain ⟨s, rfl, hs, hb0⟩ := fld (v := Value.string) (dec_str Try.underlying9) c9 (hf 0 _ rfl) rfl
  obtain ⟨u, rfl, _, hb1⟩ := fld (v := Value.float .f64) (dec_flt Try.underlying30) c30' (hf 1 _ rfl) rfl
  refine ⟨⟨s, u⟩, rfl, hs, ?_⟩
  rw [hy]; simp only [bkS, Rows.uptoBulk, Rows.uptoBulkAll, List.map_cons, List.map_nil]; omega⟩
theorem dec_target : Dec PP 84 TTarget.cells (fun _ x => okT x) bkT := ⟨fun {H enc w base spare held n cs y} h => by
  obtain ⟨xs, m, rfl, hy, hl, hxl, hf⟩ := DataW.trod_struct Try.underlying84 h
  rw [c84'] at hl
  obtain ⟨a, b, c, rfl⟩ := len3 hl
  obtain ⟨x, z, v, rfl⟩ := len3 (l := xs) (by simpa using hxl)
  obtain ⟨s, rfl, hs, hb0⟩ := fld (v := Value.string) (dec_str Try.underlying9) c9 (hf 0 _ rfl) rfl
  obtain ⟨u, rfl, hu, hb1⟩ := fld (v := Value.string) (dec_str Try.underlying9) c9 (hf 1 _ rfl) rfl
  obtain ⟨q, rfl, _, hb2⟩ := fld (v := Value.float .f64) (dec_flt Try.underlying30) c30' (hf 2 _ rfl) rfl
  refine ⟨⟨s, u, q⟩, rfl, ⟨hs, hu⟩, ?_⟩
  rw [hy]; simp only [bkT, Rows.uptoBulk, Rows.uptoBulkAll, List.map_cons, List.map_nil]; omega⟩
theorem dec_rule : Dec PP 91 TRule.cells (fun _ x => okR x) bkR := ⟨fun {H enc w base spare held n cs y} h => by
  obtain ⟨xs, m, rfl, hy, hl, hxl, hf⟩ := DataW.trod_struct Try.underlying91 h
  rw [c91'] at hl
  obtain ⟨a, b, c, d, rfl⟩ := len4 hl
  obtain ⟨x0, x1, x2, x3, rfl⟩ := len4 (l := xs) (by simpa using hxl)
  obtain ⟨s, rfl, hs, hb0⟩ := fld (v := Value.string) (dec_str Try.underlying9) c9 (hf 0 _ rfl) rfl
  obtain ⟨u, rfl, hu, hb1⟩ := fld (v := Value.string) (dec_str Try.underlying9) c9 (hf 1 _ rfl) rfl
  obtain ⟨q, rfl, hq, hb2⟩ := fld (v := Value.string) (dec_str Try.underlying9) c9 (hf 2 _ rfl) rfl
  obtain ⟨g, rfl, _, hb3⟩ := fld (v := Value.bool) (dec_bool Try.underlying4) c4' (hf 3 _ rfl) rfl
  refine ⟨⟨s, u, q, g⟩, rfl, ⟨hs, hu, hq⟩, ?_⟩
  rw [hy]; simp only [bkR, Rows.uptoBulk, Rows.uptoBulkAll, List.map_cons, List.map_nil]; omega⟩
/-- a resource's texts, each as long as texts may be; how much it holds in all -/
structure OkD (d : DRes) : Prop where
  name : d.name.size ≤ maxLen
  ends : ∀ x ∈ d.ends, x.size ≤ maxLen
  targets : ∀ x ∈ d.targets, okT x
  host : d.host.size ≤ maxLen
  rules : ∀ x ∈ d.rules, okR x
  route : d.route.size ≤ maxLen
  kind : (Lit.int .i64 d.kind).wf = true
def bkD (d : DRes) : Nat := d.name.size + (d.ends.map fun x => x.size + 1).sum + (d.targets.map bkT).sum + d.host.size + (d.rules.map bkR).sum + d.route.size + 1
theorem dec_res : Dec PP 48 (fun x : TResource × DRes => TResource.cells x.1) (fun w x => ResD (fun _ => True) w x.1 x.2 ∧ OkD x.2) (fun x => bkD x.2) := ⟨fun {H enc w base spare held n cs y} h => by
  obtain ⟨xs, m, rfl, hy, hl, hxl, hf⟩ := DataW.trod_struct Try.underlying48 h
  rw [c48'] at hl
  obtain ⟨a0, a1, a2, a3, a4, a5, a6, a7, rfl⟩ := len8 hl
  obtain ⟨x0, x1, x2, x3, x4, x5, x6, x7, rfl⟩ := len8 (l := xs) (by simpa using hxl)
  obtain ⟨k, rfl, hk, hb0⟩ := fld (v := Value.int .i64) (dec_int Try.underlying3) c3' (hf 0 _ rfl) rfl
  obtain ⟨nm, rfl, hn, hb1⟩ := fld (v := Value.string) (dec_str Try.underlying9) c9 (hf 1 _ rfl) rfl
  obtain ⟨es, rfl, ⟨he, he'⟩, hb2⟩ := fld (v := fun x : Sl × List ByteArray => Sl.v x.1) (dec_slice (dec_str Try.underlying9) Try.underlying44 c9) c44' (hf 2 _ rfl) rfl
  obtain ⟨ts, rfl, ⟨ht, ht'⟩, hb3⟩ := fld (v := fun x : Sl × List TTarget => Sl.v x.1) (dec_slice dec_target Try.underlying45 c84') c45' (hf 3 _ rfl) rfl
  obtain ⟨ho, rfl, hh, hb4⟩ := fld (v := Value.string) (dec_str Try.underlying9) c9 (hf 4 _ rfl) rfl
  obtain ⟨rs, rfl, ⟨hr, hr'⟩, hb5⟩ := fld (v := fun x : Sl × List TRule => Sl.v x.1) (dec_slice dec_rule Try.underlying46 c91') c46' (hf 5 _ rfl) rfl
  obtain ⟨ro, rfl, hro, hb6⟩ := fld (v := Value.string) (dec_str Try.underlying9) c9 (hf 6 _ rfl) rfl
  obtain ⟨de, rfl, _, hb7⟩ := fld (v := Value.bool) (dec_bool Try.underlying4) c4' (hf 7 _ rfl) rfl
  refine ⟨(⟨k, nm, es.1, ts.1, ho, rs.1, ro, de⟩, ⟨k, nm, es.2, ts.2, ho, rs.2, ro, de⟩), rfl, ⟨⟨rfl, rfl, he, ht, rfl, hr, rfl, rfl⟩, ⟨hn, he', ht', hh, hr', hro, hk⟩⟩, ?_⟩
  rw [hy]; simp only [bkD, Rows.uptoBulk, Rows.uptoBulkAll, List.map_cons, List.map_nil]; omega⟩
/-- a configuration that came in -/
structure Came (w : World) (s : Sl) (rs : List TResource) (l : List DRes) : Prop where
  conf : ConfD (fun _ => True) w s rs l
  ok : ∀ d ∈ l, OkD d
def bkL (l : List DRes) : Nat := (l.map bkD).sum
theorem came_of {H : Type} {enc : TypeId × Value → H} {w : World} {base : Nat} {spare : Nat → Bool} {held : Bool} {a : Option Addr} {n c : Nat} {d : DataW H} {ps : List MemPlace} (h : DataW.Trod enc PP w base spare held 22 (.slice a n c) d ps) :
    ∃ rs l, Came w ⟨a, n, c⟩ rs l ∧ bkL l + 1 ≤ Rows.uptoBulk d := by
  obtain ⟨m, hm⟩ := h
  obtain ⟨⟨s, l⟩, hs, ⟨hr, hq⟩, hb⟩ := (dec_slice (t := 22) dec_res Try.underlying22 c48').dec hm
  obtain rfl : s = ⟨a, n, c⟩ := by
    obtain ⟨a', n', c'⟩ := s
    simp [Value.cells, Sl.v] at hs
    obtain ⟨rfl, rfl, rfl⟩ := hs; rfl
  refine ⟨l.map (·.1), l.map (·.2), ⟨⟨rd_map hr, by simp, fun k h1 h2 => ?_⟩, fun d hd => ?_⟩, ?_⟩
  · simp only [List.getElem_map]
    exact (hq _ (List.getElem_mem (by simpa using h1))).1
  · obtain ⟨x, hx, rfl⟩ := List.mem_map.1 hd
    exact (hq x hx).2
  · have : bkL (l.map (·.2)) = (l.map fun x => bkD x.2).sum := by unfold bkL; rw [List.map_map]; rfl
    rw [this]; exact hb
theorem shares_of {H : Type} {enc : TypeId × Value → H} {w : World} {base : Nat} {spare : Nat → Bool} {held : Bool} {a : Option Addr} {n c : Nat} {d : DataW H} {ps : List MemPlace} (h : DataW.Trod enc PP w base spare held 23 (.slice a n c) d ps) :
    ∃ xs : List TShare, Rd TShare.cells 2 (fun _ => True) w ⟨a, n, c⟩ xs ∧ (xs.map bkS).sum + 1 ≤ Rows.uptoBulk d := by
  obtain ⟨m, hm⟩ := h
  obtain ⟨⟨s, l⟩, hs, ⟨hr, hq⟩, hb⟩ := (dec_slice (t := 23) dec_share Try.underlying23 c32').dec hm
  obtain rfl : s = ⟨a, n, c⟩ := by
    obtain ⟨a', n', c'⟩ := s
    simp [Value.cells, Sl.v] at hs
    obtain ⟨rfl, rfl, rfl⟩ := hs; rfl
  exact ⟨l, hr, hb⟩
theorem sum_len {α : Type} {f : α → Nat} (h : ∀ x, 1 ≤ f x) : ∀ l : List α, l.length ≤ (l.map f).sum
  | [] => Nat.zero_le _
  | x :: l => by have := sum_len h l; have := h x; simp only [List.length_cons, List.map_cons, List.sum_cons]; omega
theorem sum_mem {α : Type} {f : α → Nat} : ∀ {l : List α} {x : α}, x ∈ l → f x ≤ (l.map f).sum
  | y :: l, x, h => by
    simp only [List.map_cons, List.sum_cons]
    rcases List.mem_cons.1 h with rfl | h
    · omega
    · have := sum_mem (f := f) h; omega
theorem sum_le {α : Type} {f g : α → Nat} (h : ∀ x, f x ≤ g x) : ∀ l : List α, (l.map f).sum ≤ (l.map g).sum
  | [] => Nat.le_refl _
  | x :: l => by have := sum_le h l; have := h x; simp only [List.map_cons, List.sum_cons]; omega
theorem bkD_parts (d : DRes) : d.ends.length + d.targets.length + d.rules.length + 1 ≤ bkD d := by
  have h1 := sum_len (f := fun x : ByteArray => x.size + 1) (fun x => by omega) d.ends
  have h2 := sum_len (f := bkT) (fun x => by unfold bkT; omega) d.targets
  have h3 := sum_len (f := bkR) (fun x => by unfold bkR; omega) d.rules
  unfold bkD; omega
section
variable {l : List DRes} (hb : bkL l ≤ 1048576)
include hb
theorem bk_len : l.length ≤ 1048576 := by
  have := sum_len (f := bkD) (fun x => by have := bkD_parts x; omega) l
  unfold bkL at hb; omega
theorem bk_mem {d : DRes} (hd : d ∈ l) : bkD d ≤ 1048576 := by
  have := sum_mem (f := bkD) hd
  unfold bkL at hb; omega
theorem bk_small : ∀ d ∈ l, Small d := fun d hd => by
  have h1 := bk_mem hb hd
  have h2 := bkD_parts d
  exact ⟨by omega, by omega, by omega⟩
theorem bk_tot : tot l ≤ 1048576 := by
  have := sum_le (f := fun d : DRes => d.rules.length) (g := bkD) (fun d => by have := bkD_parts d; omega) l
  unfold tot; unfold bkL at hb; omega
end
theorem Came.fit {w : World} {s : Sl} {rs : List TResource} {l : List DRes} (h : Came w s rs l) (hb : bkL l ≤ 1048576) : Fit l :=
  ⟨fun d hd r hr => ((h.ok d hd).rules r hr).1, by have := bk_tot hb; omega⟩
end Go.Proofs.Ytdoeegfcmbcbkaa.Ct

/- TablesShares: the law's walk: whatever comes in, true is answered and all that stood stands. -/
namespace Go.Proofs.Ytdoeegfcmbcbkaa.Ct
open Go Go.Eng Tr
set_option linter.unusedVariables false
set_option maxRecDepth 100000

section
variable {w : World} {F G : Nat → Prop} {s s2 : Sl} {rs : List TResource} {l : List DRes} {xs : List TShare}
theorem Marked.ext {w' : World} {n : Nat} (h : Marked w s n) (k : Ext w w') : Marked w' s n := let ⟨h1, a, h2, h3⟩ := h; ⟨h1, a, h2, k.cell' h3⟩
def markS : TShare := ⟨⟨#[109, 97, 114, 107]⟩, 0⟩
def goneS : TShare := ⟨⟨#[103, 111, 110, 101]⟩, 0⟩
theorem law_shares (hc : ConfD F w s rs l) (hft : Fit l) (hsm : ∀ d ∈ l, Small d) (hln : l.length ≤ 1048576) (hx : Rd TShare.cells 2 G w s2 xs) (hxn : xs.length ≤ 1048576) (n : ByteArray) : Ans Value.bool 3 #[s.v, .string n, s2.v] w true := by
  refine c3 ?_
  unfold f3
  have hrl : rs.length ≤ 1048576 := by rw [hc.len]; exact hln
  refine (twin_ok hc hsm (by omega)).mono ?_
  rintro given w1 ⟨e1, rs', hg, hmk⟩
  have hrl' : rs'.length ≤ 1048576 := by rw [hg.len]; exact hln
  refine (prog_shares_ok hg hft (by omega) n).mono ?_
  rintro ⟨sa, ea⟩ w2 ⟨e2, he, xa, hra, hda⟩
  dsimp only at he hra ⊢
  subst he
  have E2 := e1.trans e2
  refine (ref_shares_ok (hc.ext E2) hft n).mono ?_
  rintro ⟨sb, eb⟩ w3 ⟨e3, he, xb, hrb, hdb⟩
  dsimp only at he hrb ⊢
  subst he
  have E3 := E2.trans e3
  replace hra := hra.ext e3
  -- a list of its own, a mark behind it
  refine rn_app (l := []) (l' := xs) el23 (Own.nil_ w3.heap.size w3) (hx.ext E3) (fun _ => rfl) oc_share (by simp; omega) (by decide) (Nat.le_refl _) fun t31 w4 O4 c4 n4 => ?_
  have e4 : Ext w3 w4 := (Ext.refl _).then c4 (fun b ⟨a, ha, _⟩ => by cases ha)
  refine New.mk fun b33 w5 e5 h33 _ _ => ?_
  have g5 := (e4.trans e5).size
  refine rn_app1 (x := markS) el23 (O4.ext e5) h33 rfl rfl (oc_share _) (by simp; omega) (by decide) g5 fun t34 w6 O6 c6 n6 => ?_
  rw [List.nil_append] at O6
  have E6 : Ext w3 w6 := (e4.trans e5).then c6 (fun b hb => (O4.ge hb).1)
  have hx0 := hx.len
  have R6 := O6.rd (F := fun b => own? t34 b) (fun b hb => hb)
  have hl6 : t34.n = xs.length + 1 := by rw [R6.len]; simp
  have hlast : (xs ++ [markS]).take xs.length = xs := by simp
  have hsl : ∀ {w'}, Rd TShare.cells 2 (fun b => own? t34 b) w' t34 (xs ++ [markS]) → Rd TShare.cells 2 (fun b => own? t34 b) w' ⟨t34.a, s2.n, t34.c⟩ xs := fun h => by
    have := h.take (n := xs.length) (by simp)
    rw [hlast] at this; rw [hx0]; exact this
  refine rnp_slice sl23 none (some s2.n) rfl rfl (Nat.zero_le _) (by have := R6.cap; simp; omega) ?_
  simp only [Option.getD_none, Option.getD_some, Sl.cut_zero]
  have hsx : (saysS xs).length = xs.length := by simp [saysS]
  refine (steps_ok (hsl R6) (ShD.of xs) (by rw [hsx]; omega)).mono ?_
  rintro t39 w7 ⟨e7, x39, O7, d39⟩
  have hsl7 := hsl (R6.ext e7)
  have E7 := E6.trans e7
  refine ⟨fun b w' => b = false ∧ Ext w7 w', ?_, ?_⟩
  · refine (sharesF_ok (hra.ext E7) (hrb.ext E7) hda hdb).mono ?_
    rintro _ w8 ⟨e8, rfl⟩
    refine iteF (by simp) ?_
    refine iteF (by simp) ?_
    have E8 := E7.trans e8
    refine (stay_ok (hg.ext ((e2.trans e3).trans E8)) (hc.ext (E3.trans E8)) (hmk.ext ((e2.trans e3).trans E8))).mono ?_
    rintro _ w9 ⟨e9, rfl⟩
    refine iteF (by simp) ?_
    have E9 := E8.trans e9
    refine (refSteps_ok (hx.ext (E3.trans E9)) (ShD.of xs) (by rw [hsx]; omega)).mono ?_
    rintro t58 w10 ⟨e10, x58, O10, d58⟩
    have e710 := (e8.trans e9).trans e10
    refine (sharesF_ok ((O7.ext e710).rd (F := fun _ => True) (fun _ _ => trivial)) (O10.rd (F := fun _ => True) (fun _ _ => trivial)) d39 d58).mono ?_
    rintro _ w11 ⟨e11, rfl⟩
    refine iteF (by simp) ?_
    have e711 := e710.trans e11
    refine rnp_slice sl23 none (some s2.n) rfl rfl (Nat.zero_le _) (by have := R6.cap; simp; omega) ?_
    simp only [Option.getD_none, Option.getD_some, Sl.cut_zero]
    refine (shares_ok (hsl7.ext e711) (hx.ext ((E3.trans E7).trans e711))).mono ?_
    rintro _ w12 ⟨e12, rfl⟩
    refine iteF (by simp) ?_
    have e712 := e711.trans e12
    refine rnp_idx sl23 ((R6.ext e7).ext e712) (k := xs.length) (by simp) (by rw [hx0]) fun p _ hp => ?_
    refine rn_at (x := (xs ++ [markS])[xs.length].Service) one9 hp rfl ?_
    exact ⟨by simp [markS], e712⟩
  rintro _ w8 ⟨rfl, e8⟩
  refine iteF (by simp) ?_
  have E8 := E7.trans e8
  have O8 := O7.ext e8
  have R8 := (R6.ext e7).ext e8
  -- what is written over lies in memory of its own
  refine Lp.mk (fun (i : Int) w' => ∃ (k : Nat) (ys : List TShare), i = k ∧ k ≤ x39.length ∧ ys.length = x39.length ∧ Chg (own? t39) w8 w' ∧ Own TShare.cells 2 32 w6.heap.size w' t39 ys) (fun i => x39.length - i.toNat)
    ⟨0, x39, rfl, Nat.zero_le _, rfl, Chg.refl _ _, O8⟩ ?_
  rintro i w9 K ⟨k, ys, rfl, hk, hyl, c9, O9⟩ hK
  have hln9 := O9.len
  by_cases hlt : k < x39.length
  · rw [if_pos (by omega)]
    have hky : k < ys.length := by omega
    refine own_setN (f := 0) (vs := TShare.cells goneS) (x' := goneS) sl23 O9 hky rfl (by simp [TShare.cells]) sz32 rfl (oc_share _) (by simp [over, TShare.cells]) fun w10 c10 O10 s10 => ?_
    rw [(O9.rd (F := fun _ => True) (fun _ _ => trivial)).wr hky]
    exact hK _ _ ⟨k + 1, _, rfl, hlt, by simpa using hyl, c9.trans c10, O10⟩ (by omega)
  · rw [if_neg (by omega)]
    have own9 : ∀ b, own? t39 b → w6.heap.size ≤ b := fun b hb => (O9.ge hb).1
    have E9 : Ext w3 w9 := E6.then ((e7.trans e8).chg (own? t39) |>.trans c9) (fun b hb => by have := own9 b hb; have := E6.size; omega)
    have hg3 := E3.size
    have R9 : Rd TShare.cells 2 (fun b => own? t34 b) w9 t34 (xs ++ [markS]) := R8.chg c9 (fun b hb hlt ho => by
      have h1 := (O6.ge hb).2
      have h2 := own9 b ho; omega)
    refine ⟨fun b w' => b = true ∧ Ext w9 w', ?_, ?_⟩
    · refine rnp_slice sl23 none (some s2.n) rfl rfl (Nat.zero_le _) (by have := R6.cap; simp; omega) ?_
      simp only [Option.getD_none, Option.getD_some, Sl.cut_zero]
      refine (shares_ok (hsl R9) (hx.ext (E3.trans E9))).mono ?_
      rintro _ w10 ⟨e10, rfl⟩
      refine iteT rfl ?_
      have E10 := E9.trans e10
      have hxa : xa.length ≤ 1048576 ∧ (ansS l n).length ≤ 1048576 := by
        have h1 : (ansS l n).length ≤ l.length := by
          unfold ansS
          split
          · rename_i hh
            exact (sh_ok (fault_err hh.1).stand 9 n).len
          · simp
        have := hda.len
        omega
      refine (steps_ok (hra.ext E10) hda (by omega)).mono ?_
      rintro t98 w11 ⟨e11, x98, O11, d98⟩
      refine (refSteps_ok (hrb.ext (E10.trans e11)) hdb (by omega)).mono ?_
      rintro t100 w12 ⟨e12, x100, O12, d100⟩
      refine (sharesF_ok ((O11.ext e12).rd (F := fun _ => True) (fun _ _ => trivial)) (O12.rd (F := fun _ => True) (fun _ _ => trivial)) d98 d100).mono ?_
      rintro _ w13 ⟨e13, rfl⟩
      exact ⟨rfl, ((e10.trans e11).trans e12).trans e13⟩
    · rintro _ w10 ⟨rfl, e10⟩
      exact ⟨(E3.trans E9).trans e10, rfl⟩
end
end Go.Proofs.Ytdoeegfcmbcbkaa.Ct

/- TablesShares, where what comes in holds at most 1048576 values and letters: for each configuration, name and list of shares the law answers true, and each argument reads as before. -/
namespace Go.Proofs.Ytdoeegfcmbcbkaa.TablesShares
open Go Go.Eng Opn Ct
open Go.ChangeShapes Go.WideShapes Go.ChangeAt Go.RowKit
open Go.ChangeMaps (open_string)
set_option maxRecDepth 100000

theorem own : ownKnob Try.prog.godebug = none := by kernel_rfl
theorem laid : laidOutB Try.prog = true := by kernel_rfl
theorem reads : (Try.f3.params.toList.all fun t => Try.prog.readableRec t && decide (t < Try.prog.types.size)) = true := by kernel_rfl
theorem contract (H : Type) (enc : TypeId × Value → H) (W : World) (base : Nat) (args : Array Value) (ds gs : List (DataW H)) (before : List MemPlace)
    (hval : ∀ (j : Nat) t v, Try.f3.params[j]? = some t → args[j]? = some v → Value.okWide Try.prog W .any base t v)
    (hW : DataW.Whole enc Try.prog Try.f3.params.toList Rows.tablesSharesSpec.vars false W args.toList ds gs before) (hk : Rows.uptoSmall H (ds ++ gs) = true) :
    Calls Try.prog 3 args W fun e W' => ∃ v, e = .returned v ∧ Rows.tablesSharesSpec.post enc Try.prog Try.f3 false true false false W args v W' := by
  have hW' := hW
  obtain ⟨p, q, hA, hV, rfl, hfz, hnd⟩ := hW
  rw [Try.params3] at hA hval
  obtain ⟨v0, v1, v2, d0, d1, d2, p0, p1, p2, rfl, rfl, rfl, h0, h1, h2⟩ := trodAll_three hA
  obtain ⟨rfl, rfl⟩ : gs = [] ∧ q = [] := by
    have hV' : DataW.TrodVars enc Try.prog W (fun _ => true) [] gs q := hV
    cases gs <;> simp [DataW.TrodVars] at hV'
    exact ⟨rfl, hV'⟩
  obtain ⟨a0, n0, c0, rfl⟩ := okWide_slice Try.underlying22 (hval 0 22 v0 rfl rfl)
  obtain ⟨n, rfl, _, _, _⟩ := open_string Try.underlying9 (hval 1 9 v1 rfl rfl) h1
  obtain ⟨a2, n2, c2, rfl⟩ := okWide_slice Try.underlying23 (hval 2 23 v2 rfl rfl)
  have hbk : Rows.uptoBulkAll [d0, d1, d2] ≤ 1048576 := by
    have := of_decide_eq_true hk
    simpa using this
  simp only [Rows.uptoBulkAll] at hbk
  obtain ⟨rs, l, hc, hb0⟩ := came_of h0
  obtain ⟨xs, hx, hb2⟩ := shares_of h2
  have hbl : bkL l ≤ 1048576 := by omega
  have hxn : xs.length ≤ 1048576 := by
    have := sum_len (f := bkS) (fun x => by unfold bkS; omega) xs
    omega
  refine Calls.mono (law_shares hc.conf (hc.fit hbl) (bk_small hbl) (bk_len hbl) hx hxn n) ?_
  rintro e W' ⟨r, rfl, hE, rfl⟩
  exact ⟨_, rfl, post_true laid reads rfl Try.underlying4 rfl rfl rfl rfl hW' hE⟩

theorem lifted (os : Os) (started : os.Started) (H : Type) (enc : TypeId × Value → H) (F : Stop.Interp) :
    ReturnsInHanded {} Try.checked os 3 .any ((Rows.OpenSpec.upto Rows.tablesSharesSpec).pre6 enc Try.prog Try.f3 Rows.tablesSharesUptoRow.domain false) (((Rows.OpenSpec.upto Rows.tablesSharesSpec).at F).post enc Try.prog Try.f3 false true false false) := by
  refine returnsInHanded_of_cond (C := Try.checked) (s := Rows.OpenSpec.upto Rows.tablesSharesSpec) (k := Rows.uptoSmall) rfl own started (by kernel_rfl) Try.func3
    (OpenSpec.witness (enc := enc) (C := Try.checked) (s := Rows.OpenSpec.upto Rows.tablesSharesSpec) (k := Rows.uptoSmall) rfl false ⟨#[], #[.slice none 0 0, .string .empty, .slice none 0 0], []⟩ 8 (by kernel_rfl) (by kernel_rfl) (by kernel_rfl)
      (x := ([.nil, .lit (.string []), .nil], [], [])) (by kernel_rfl) rfl (by kernel_rfl)) ?_
  intro W base args ds gs before hval hW _ hk _
  exact contract H enc W base args ds gs before hval hW hk
theorem tablesShares_holds : Rows.TablesSharesUptoSaid :=
  OpenClaim.holds_of_cond 3 Try.f3 rfl rfl rfl rfl rfl rfl rfl ⟨rfl, rfl, rfl, rfl, rfl⟩ rfl rfl rfl rfl rfl (by kernel_rfl) Try.func3 (by kernel_rfl)
    (of_decide_eq_true (by kernel_rfl)) (by unfold Func.isWrapper; rw [if_neg (of_decide_eq_false (by kernel_rfl))]; exact ⟨rfl, rfl⟩)
    (fun os started H enc _ F => lifted os started H enc F)
end Go.Proofs.Ytdoeegfcmbcbkaa.TablesShares

