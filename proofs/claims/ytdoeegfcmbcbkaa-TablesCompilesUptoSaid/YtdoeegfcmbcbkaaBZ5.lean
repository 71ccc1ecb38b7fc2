/- A part of the proof whose last text is YtdoeegfcmbcbkaaBZ6. -/
import Derived.Test.YtdoeegfcmbcbkaaBZ4
set_option linter.all false
namespace Go.Proofs.Ytdoeegfcmbcbkaa.Ct
open Go Go.Eng Tr
set_option linter.unusedVariables false
set_option maxRecDepth 100000

def LK (p q : Int × ByteArray) : Prop := p.1 < q.1 ∨ (p.1 = q.1 ∧ ((p.1 = 1 ∧ q.2.size < p.2.size) ∨ ((p.1 = 1 → p.2.size = q.2.size) ∧ sLt p.2 q.2 = true)))
theorem LK_iff {p q : Int × ByteArray} : ordK p q < 0 ↔ LK p q := by
  unfold ordK LK cmpS
  by_cases c1 : p.1 < q.1
  · simp [c1]
  · by_cases c2 : q.1 < p.1
    · have : ¬ p.1 = q.1 := by omega
      simp [c1, c2, this]
    · have c3 : p.1 = q.1 := by omega
      rw [if_neg c1, if_neg c2]
      by_cases c4 : p.1 = 1
      · by_cases c5 : q.2.size < p.2.size
        · rw [if_pos ⟨c4, c5⟩]; simp [c3, c5]; exact .inl (by omega)
        · rw [if_neg (fun h => c5 h.2)]
          by_cases c6 : p.2.size < q.2.size
          · rw [if_pos ⟨c4, c6⟩]
            constructor
            · intro h; omega
            · rintro (h | ⟨_, ⟨_, h⟩ | ⟨h, _⟩⟩)
              · omega
              · omega
              · have := h c4; omega
          · rw [if_neg (fun h => c6 h.2)]
            have c7 : p.2.size = q.2.size := by omega
            cases hs : sLt p.2 q.2 with
            | true => simp [c3, c7]
            | false =>
              cases hs' : sLt q.2 p.2 <;> simp [c1, c3, c7]
      · rw [if_neg (fun h => c4 h.1), if_neg (fun h => c4 h.1)]
        cases hs : sLt p.2 q.2 with
        | true => simp [c3]; intro h; omega
        | false =>
          cases hs' : sLt q.2 p.2 <;> simp [c1, c3] <;> omega
theorem LK_irr (p : Int × ByteArray) : ¬ LK p p := by
  rintro (h | ⟨_, ⟨_, h⟩ | ⟨_, h⟩⟩)
  · omega
  · omega
  · rw [sLt_irrefl] at h; cases h
theorem LK_tr {p q r : Int × ByteArray} (h : LK p q) (k : LK q r) : LK p r := by
  rcases h with h | ⟨h0, h⟩ <;> rcases k with k | ⟨k0, k⟩
  · exact .inl (by omega)
  · exact .inl (by omega)
  · exact .inl (by omega)
  · refine .inr ⟨by omega, ?_⟩
    rcases h with ⟨h1, h2⟩ | ⟨h1, h2⟩ <;> rcases k with ⟨k1, k2⟩ | ⟨k1, k2⟩
    · exact .inl ⟨h1, by omega⟩
    · have := k1 (by omega); exact .inl ⟨h1, by omega⟩
    · have h3 := h1 (by omega); exact .inl ⟨by omega, by omega⟩
    · exact .inr ⟨fun e => by have := h1 e; have := k1 (by omega); omega, sLt_trans h2 k2⟩
theorem LK_tot (p q : Int × ByteArray) : LK p q ∨ LK q p ∨ p = q := by
  by_cases c1 : p.1 < q.1
  · exact .inl (.inl c1)
  · by_cases c2 : q.1 < p.1
    · exact .inr (.inl (.inl c2))
    · have c3 : p.1 = q.1 := by omega
      by_cases c4 : p.1 = 1 ∧ q.2.size < p.2.size
      · exact .inl (.inr ⟨c3, .inl c4⟩)
      · by_cases c5 : p.1 = 1 ∧ p.2.size < q.2.size
        · exact .inr (.inl (.inr ⟨c3.symm, .inl ⟨by omega, c5.2⟩⟩))
        · have c6 : p.1 = 1 → p.2.size = q.2.size := fun h => by
            have h1 : ¬ q.2.size < p.2.size := fun h' => c4 ⟨h, h'⟩
            have h2 : ¬ p.2.size < q.2.size := fun h' => c5 ⟨h, h'⟩
            omega
          cases hs : sLt p.2 q.2 with
          | true => exact .inl (.inr ⟨c3, .inr ⟨c6, hs⟩⟩)
          | false =>
            cases hs' : sLt q.2 p.2 with
            | true => exact .inr (.inl (.inr ⟨c3.symm, .inr ⟨fun h => (c6 (by omega)).symm, hs'⟩⟩))
            | false => exact .inr (.inr (Prod.ext c3 (sLt_total hs hs')))
def ltH (a b : THost) : Bool := decide (ordS a.Host b.Host < 0)
theorem wo_host : WO ltH := by
  refine ⟨fun x => ?_, fun x y z h k => ?_, fun x y z h k => ?_⟩
  · have := LK_irr (hostS x.Host)
    rw [← LK_iff] at this
    exact decide_eq_false this
  · have h1 := LK_iff.1 (of_decide_eq_true h); have k1 := LK_iff.1 (of_decide_eq_true k)
    exact decide_eq_true (LK_iff.2 (LK_tr h1 k1))
  · have h1 : ¬ LK (hostS x.Host) (hostS y.Host) := fun h' => of_decide_eq_false h (LK_iff.2 h')
    have k1 : ¬ LK (hostS y.Host) (hostS z.Host) := fun h' => of_decide_eq_false k (LK_iff.2 h')
    refine decide_eq_false fun h' => ?_
    have hh := LK_iff.1 h'
    rcases LK_tot (hostS x.Host) (hostS y.Host) with c | c | c
    · exact h1 c
    · exact k1 (LK_tr c hh)
    · rw [c] at hh; exact k1 hh
theorem ordK_pos {p q : Int × ByteArray} : 0 < ordK p q ↔ ordK q p < 0 := by
  rw [LK_iff]
  have hval : ordK p q = -1 ∨ ordK p q = 0 ∨ ordK p q = 1 := by
    unfold ordK cmpS
    repeat' split
    all_goals simp
  constructor
  · intro h
    rcases LK_tot p q with c | c | c
    · have := LK_iff.2 c; omega
    · exact c
    · subst c
      have : ordK p p = 0 := by unfold ordK cmpS; simp [sLt_irrefl]
      omega
  · intro h
    have h1 : ¬ LK p q := fun c => LK_irr _ (LK_tr c h)
    have h2 : ¬ ordK p q < 0 := fun c => h1 (LK_iff.1 c)
    rcases hval with c | c | c
    · omega
    · exfalso
      rcases LK_tot p q with d | d | d
      · exact h1 d
      · -- neither 0 nor below: the cases are read off
        rcases h with h | ⟨h0, h⟩
        · unfold ordK at c
          rw [if_neg (by omega), if_pos h] at c; omega
        · unfold ordK at c
          rw [if_neg (by omega), if_neg (by omega)] at c
          rcases h with ⟨h3, h4⟩ | ⟨h3, h4⟩
          · rw [if_neg (by omega), if_pos ⟨by omega, h4⟩] at c; omega
          · have h5 : p.1 = 1 → p.2.size = q.2.size := fun e => (h3 (by omega)).symm
            rw [if_neg (fun e => by have := h5 e.1; omega), if_neg (fun e => by have := h5 e.1; omega)] at c
            have h6 : sLt p.2 q.2 = false := by
              cases e : sLt p.2 q.2 with
              | false => rfl
              | true => have := sLt_trans e h4; rw [sLt_irrefl] at this; cases this
            unfold cmpS at c
            rw [h6, h4] at c; simp at c
      · subst d; exact LK_irr _ h
    · omega
section
variable {w : World}
theorem bless_drop : ∀ (a b : List UInt8) (k : Nat), k ≤ a.length → k ≤ b.length → a.take k = b.take k → Op.bytesLess a b = Op.bytesLess (a.drop k) (b.drop k)
  | _, _, 0, _, _, _ => rfl
  | [], _, k + 1, h, _, _ => by simp at h
  | _ :: _, [], k + 1, _, h, _ => by simp at h
  | x :: a, y :: b, k + 1, h1, h2, h => by
    simp only [List.take_succ_cons, List.cons.injEq] at h
    obtain ⟨rfl, h⟩ := h
    rw [List.drop_succ_cons, List.drop_succ_cons, ← bless_drop a b k (by simpa using h1) (by simpa using h2) h]
    simp [Op.bytesLess, UInt8.lt_irrefl]
theorem refBytes_ok (a b : ByteArray) (ha : a.size ≤ maxLen) : Ans (Value.int .i64) 115 #[.string a, .string b] w (cmpS a b) := by
  refine c115 ?_
  unfold f115
  unfold maxLen at ha
  have la : a.data.toList.length = a.size := by rw [Array.length_toList]; rfl
  have lb : b.data.toList.length = b.size := by rw [Array.length_toList]; rfl
  refine Lp.mk (fun (i : Int) w' => ∃ k : Nat, i = k ∧ k ≤ a.size ∧ k ≤ b.size ∧ Ext w w' ∧ a.data.toList.take k = b.data.toList.take k) (fun i => a.size - i.toNat) ⟨0, rfl, Nat.zero_le _, Nat.zero_le _, Ext.refl _, by simp⟩ ?_
  rintro i w1 K ⟨k, rfl, hka, hkb, hE, heq⟩ hK
  have d1 := bless_drop a.data.toList b.data.toList k (by omega) (by omega) heq
  have d2 := bless_drop b.data.toList a.data.toList k (by omega) (by omega) heq.symm
  refine ⟨fun x w' => w' = w1 ∧ x = (decide (k < a.size) && decide (k < b.size)), ?_, ?_⟩
  · by_cases c : k < a.size
    · exact iteT (by omega) ⟨rfl, by
        by_cases c' : k < b.size
        · have : (k : Int) < b.size := by omega
          simp [c, c', this]
        · have : ¬ (k : Int) < b.size := by omega
          simp [c', this]⟩
    · exact iteF (by omega) ⟨rfl, by simp [c]⟩
  rintro _ w2 ⟨hw2, rfl⟩
  obtain rfl : w1 = w2 := hw2.symm
  by_cases c : k < a.size ∧ k < b.size
  · refine iteT (by simp [c]) ?_
    have ea : a.data.toList.drop k = a[k] :: a.data.toList.drop (k + 1) := by rw [List.drop_eq_getElem_cons (by omega)]; rfl
    have eb : b.data.toList.drop k = b[k]'(c.2) :: b.data.toList.drop (k + 1) := by rw [List.drop_eq_getElem_cons (by omega)]; rfl
    rw [ea, eb] at d1 d2
    refine Dr.mk fun w2 e2 _ => ?_
    refine rnp_byte Try.underlying9 rfl c.1 ?_
    refine rnp_byte Try.underlying9 rfl c.2 ?_
    by_cases c1 : ((a[k].toNat : Nat) : Int) < ((b[k]'(c.2)).toNat : Nat)
    · have h1 : a[k] < b[k]'(c.2) := UInt8.lt_iff_toNat_lt.2 (by omega)
      refine iteT c1 ⟨hE.trans e2, ?_⟩
      unfold cmpS sLt
      rw [d1]; simp [Op.bytesLess, h1]
    · refine iteF c1 ?_
      refine Dr.mk fun w3 e3 _ => ?_
      refine rnp_byte Try.underlying9 rfl c.1 ?_
      refine rnp_byte Try.underlying9 rfl c.2 ?_
      have hE3 := (hE.trans e2).trans e3
      by_cases c2 : (((b[k]'(c.2)).toNat : Nat) : Int) < ((a[k].toNat : Nat) : Int)
      · have h1 : ¬ a[k] < b[k]'(c.2) := fun h => c1 (by have := UInt8.lt_iff_toNat_lt.1 h; omega)
        have h2 : b[k]'(c.2) < a[k] := UInt8.lt_iff_toNat_lt.2 (by omega)
        have hne : a[k] ≠ b[k]'(c.2) := fun e => by rw [e] at h2; exact UInt8.lt_irrefl _ h2
        refine iteT c2 ⟨hE3, ?_⟩
        unfold cmpS sLt
        rw [d1, d2]; simp [Op.bytesLess, h1, h2, hne]
      · refine iteF c2 ?_
        have he : a[k] = b[k]'(c.2) := UInt8.toNat_inj.1 (by omega)
        rw [wrapI (x := (k : Int) + 1) (by omega) (by omega)]
        refine hK _ _ ⟨k + 1, by omega, c.1, c.2, hE3, ?_⟩ (by omega)
        rw [List.take_add_one, List.take_add_one, List.getElem?_eq_getElem (by omega), List.getElem?_eq_getElem (by omega), heq]
        congr 1
        show [a[k]] = [b[k]'(c.2)]
        rw [he]
  · refine iteF (by simpa using c) ?_
    by_cases c1 : k < a.size
    · have hb0 : b.data.toList.drop k = [] := List.drop_eq_nil_of_le (by omega)
      have ea : a.data.toList.drop k = a[k] :: a.data.toList.drop (k + 1) := by rw [List.drop_eq_getElem_cons (by omega)]; rfl
      rw [hb0, ea] at d1 d2
      refine iteF (by omega) (iteT (by omega) ⟨hE, ?_⟩)
      unfold cmpS sLt
      rw [d1, d2]; simp [Op.bytesLess]
    · have ha0 : a.data.toList.drop k = [] := List.drop_eq_nil_of_le (by omega)
      by_cases c2 : k < b.size
      · have eb : b.data.toList.drop k = b[k]'(c2) :: b.data.toList.drop (k + 1) := by rw [List.drop_eq_getElem_cons (by omega)]; rfl
        rw [ha0, eb] at d1
        refine iteT (by omega) ⟨hE, ?_⟩
        unfold cmpS sLt
        rw [d1]; simp [Op.bytesLess]
      · have hb0 : b.data.toList.drop k = [] := List.drop_eq_nil_of_le (by omega)
        rw [ha0, hb0] at d1 d2
        refine iteF (by omega) (iteF (by omega) ⟨hE, ?_⟩)
        unfold cmpS sLt
        rw [d1, d2]; simp [Op.bytesLess]
theorem refOrder_ok (a b : ByteArray) (ha : a.size ≤ maxLen) (hb : b.size ≤ maxLen) : Ans (Value.int .i64) 79 #[.string a, .string b] w (ordS a b) := by
  refine c79 ?_
  unfold f79
  refine (refSort_ok a ha).mono ?_; rintro _ w1 ⟨e1, rfl⟩
  refine (refSort_ok b hb).mono ?_; rintro _ w2 ⟨e2, rfl⟩
  have E2 := e1.trans e2
  have hp := hostS_rng a
  unfold ordS
  have hps : (hostS a).2.size ≤ maxLen := by
    unfold maxLen at *; omega
  generalize hostS a = p at hp hps
  generalize hostS b = q
  dsimp only
  unfold ordK
  by_cases c1 : p.1 < q.1
  · exact iteT (by omega) ⟨E2, by rw [if_pos c1]⟩
  refine iteF (by omega) ?_
  by_cases c2 : q.1 < p.1
  · exact iteT (by omega) ⟨E2, by rw [if_neg c1, if_pos c2]⟩
  refine iteF (by omega) ?_
  refine ⟨fun x w' => w' = w2 ∧ x = (decide (p.1 = 1) && decide (p.2.size ≠ q.2.size)), ?_, ?_⟩
  · by_cases c3 : p.1 = 1
    · refine iteT (by omega) ⟨rfl, ?_⟩
      by_cases c4 : p.2.size = q.2.size
      · simp [c4]
      · have : ¬ (p.2.size : Int) = q.2.size := by omega
        simp [c3, c4, this]
    · exact iteF (by omega) ⟨rfl, by simp [c3]⟩
  rintro _ w3 ⟨hw3, rfl⟩
  obtain rfl : w2 = w3 := hw3.symm
  by_cases c3 : p.1 = 1 ∧ p.2.size ≠ q.2.size
  · refine iteT (by simp [c3]) ?_
    by_cases c4 : (q.2.size : Int) < p.2.size
    · exact iteT c4 ⟨E2, by rw [if_neg c1, if_neg c2, if_pos ⟨c3.1, by omega⟩]⟩
    · exact iteF c4 ⟨E2, by rw [if_neg c1, if_neg c2, if_neg (fun h => by omega), if_pos ⟨c3.1, by omega⟩]⟩
  · refine iteF (by simpa using c3) ?_
    refine (refBytes_ok p.2 q.2 hps).mono ?_
    rintro _ w3 ⟨e3, rfl⟩
    refine ⟨E2.trans e3, ?_⟩
    rw [if_neg c1, if_neg c2, if_neg (fun h => c3 ⟨h.1, by omega⟩), if_neg (fun h => c3 ⟨h.1, by omega⟩)]
end
end Go.Proofs.Ytdoeegfcmbcbkaa.Ct


namespace Go.Proofs.Ytdoeegfcmbcbkaa.Ct
open Go Go.Eng Tr
set_option linter.unusedVariables false
set_option maxRecDepth 100000

def All2 {α β : Type} (R : α → β → Prop) : List α → List β → Prop
  | [], [] => True
  | x :: xs, y :: ys => R x y ∧ All2 R xs ys
  | _, _ => False
section
variable {α β : Type} {R R' : α → β → Prop}
theorem All2.len : ∀ {xs : List α} {ys : List β}, All2 R xs ys → xs.length = ys.length
  | [], [], _ => rfl
  | x :: xs, y :: ys, h => by simp [All2.len h.2]
  | [], _ :: _, h => h.elim
  | _ :: _, [], h => h.elim
theorem All2.mono (hm : ∀ x y, R x y → R' x y) : ∀ {xs : List α} {ys : List β}, All2 R xs ys → All2 R' xs ys
  | [], [], _ => trivial
  | x :: xs, y :: ys, h => ⟨hm x y h.1, All2.mono hm h.2⟩
  | [], _ :: _, h => h.elim
  | _ :: _, [], h => h.elim
theorem All2.get : ∀ {xs : List α} {ys : List β}, All2 R xs ys → ∀ k (h : k < xs.length) (h' : k < ys.length), R xs[k] ys[k]
  | x :: xs, y :: ys, h, 0, _, _ => h.1
  | x :: xs, y :: ys, h, k + 1, a, b => All2.get h.2 k (by simpa using a) (by simpa using b)
theorem All2.snoc : ∀ {xs : List α} {ys : List β}, All2 R xs ys → ∀ {x : α} {y : β}, R x y → All2 R (xs ++ [x]) (ys ++ [y])
  | [], [], _, _, _, h => ⟨h, trivial⟩
  | x :: xs, y :: ys, h, _, _, h' => ⟨h.1, All2.snoc h.2 h'⟩
  | [], _ :: _, h, _, _, _ => h.elim
  | _ :: _, [], h, _, _, _ => h.elim
theorem All2.ins {lt : α → α → Bool} {lt' : β → β → Bool} (hc : ∀ x x' y y', R x y → R x' y' → lt x x' = lt' y y') {x : α} {y : β} (hxy : R x y) : ∀ {xs : List α} {ys : List β}, All2 R xs ys → All2 R (ins lt x xs) (ins lt' y ys)
  | [], [], _ => ⟨hxy, trivial⟩
  | x' :: xs, y' :: ys, h => by
    unfold Eng.ins
    rw [hc x x' y y' hxy h.1]
    by_cases c : lt' y y' = true
    · rw [if_pos c, if_pos c]; exact ⟨hxy, h⟩
    · rw [if_neg c, if_neg c]; exact ⟨h.1, All2.ins hc hxy h.2⟩
  | [], _ :: _, h => h.elim
  | _ :: _, [], h => h.elim
theorem All2.stb {lt : α → α → Bool} {lt' : β → β → Bool} (hc : ∀ x x' y y', R x y → R x' y' → lt x x' = lt' y y') {xs : List α} {ys : List β} (h : All2 R xs ys) : All2 R (stb lt xs) (stb lt' ys) := by
  unfold Eng.stb
  have : ∀ {xs : List α} {ys : List β} {o : List α} {o' : List β}, All2 R o o' → All2 R xs ys → All2 R (xs.foldl (fun out x => Eng.ins lt x out) o) (ys.foldl (fun out x => Eng.ins lt' x out) o') := by
    intro xs
    induction xs with
    | nil => intro ys o o' ho h; cases ys with | nil => exact ho | cons => exact h.elim
    | cons x xs ih => intro ys o o' ho h; cases ys with | nil => exact h.elim | cons y ys => exact ih (ys := ys) (o := Eng.ins lt x o) (o' := Eng.ins lt' y o') (All2.ins hc h.1 ho) h.2
  exact this trivial h
end
section
variable {α : Type} {lt : α → α → Bool}
theorem ins_at {x : α} : ∀ {l : List α} {k : Nat}, k ≤ l.length → (∀ i (h : i < l.length), i < k → lt x l[i] = false) → (∀ (h : k < l.length), lt x l[k] = true) → ins lt x l = l.take k ++ x :: l.drop k
  | [], k, h, _, _ => by
    obtain rfl : k = 0 := by simpa using h
    rfl
  | y :: l, 0, _, _, h => by
    have := h (by simp)
    simp only [List.getElem_cons_zero] at this
    simp [ins, this]
  | y :: l, k + 1, hk, hlo, hhi => by
    have h0 := hlo 0 (by simp) (by omega)
    simp only [List.getElem_cons_zero] at h0
    unfold ins
    rw [if_neg (by simp [h0]), ins_at (k := k) (by simpa using hk) (fun i h hi => hlo (i + 1) (by simpa using h) (by omega)) (fun h => hhi (by simpa using h))]
    rfl
theorem stb_pw (h : WO lt) (ys : List α) : ∀ i j (hi : i < (stb lt ys).length) (hj : j < (stb lt ys).length), i < j → lt (stb lt ys)[j] (stb lt ys)[i] = false := by
  obtain ⟨h1, h2, _⟩ := stb_tag h ys
  rw [List.pairwise_iff_getElem] at h2
  intro i j hi hj hij
  have hl : (stb (ltp lt) (tag ys)).length = (stb lt ys).length := by rw [← h1, List.length_map]
  have ei : (stb lt ys)[i] = ((stb (ltp lt) (tag ys))[i]'(by omega)).1 := by simp only [← h1, List.getElem_map]
  have ej : (stb lt ys)[j] = ((stb (ltp lt) (tag ys))[j]'(by omega)).1 := by simp only [← h1, List.getElem_map]
  rw [ei, ej]
  rcases h2 i j (by omega) (by omega) hij with h | ⟨h, _⟩
  · have := WO.asym ‹WO lt› h; exact this
  · exact h
theorem mem_stb {ys : List α} {x : α} : x ∈ stb lt ys ↔ x ∈ ys := by
  have : ∀ n, n ≤ ys.length → (x ∈ stb lt (ys.take n) ↔ x ∈ ys.take n) := by
    intro n
    induction n with
    | zero => intro _; simp [stb]
    | succ n ih =>
      intro hn
      have e : ys.take (n + 1) = ys.take n ++ [ys[n]] := by rw [List.take_add_one, List.getElem?_eq_getElem (by omega)]; rfl
      rw [e, stb_snoc, mem_ins, ih (by omega), List.mem_append, List.mem_singleton]
      exact ⟨fun h => h.elim .inr .inl, fun h => h.elim .inr .inl⟩
  have := this ys.length (Nat.le_refl _)
  rwa [List.take_length] at this
theorem ins_len (x : α) : ∀ l : List α, (ins lt x l).length = l.length + 1
  | [] => rfl
  | y :: l => by
    unfold ins; split
    · rfl
    · simp [ins_len x l]
theorem stb_len (ys : List α) : (stb lt ys).length = ys.length := by
  have : ∀ n, n ≤ ys.length → (stb lt (ys.take n)).length = n := by
    intro n
    induction n with
    | zero => intro _; simp [stb]
    | succ n ih =>
      intro hn
      have e : ys.take (n + 1) = ys.take n ++ [ys[n]] := by rw [List.take_add_one, List.getElem?_eq_getElem (by omega)]; rfl
      rw [e, stb_snoc, ins_len, ih (by omega)]
  have := this ys.length (Nat.le_refl _)
  rwa [List.take_length] at this
end

structure DEntry where
  path : ByteArray
  method : ByteArray
  shares : List SH
structure DHost where
  host : ByteArray
  route : ByteArray
  entries : List DEntry
  permits : List TPermit
structure DTab where
  version : Int
  hosts : List DHost
  services : List ByteArray
structure EntD (F : Nat → Prop) (w : World) (e : TEntry) (d : DEntry) : Prop where
  path : e.Path = d.path
  method : e.Method = d.method
  shares : ∃ xs, Rd TShare.cells 2 F w e.Shares xs ∧ ShD xs d.shares
structure HostD (F : Nat → Prop) (w : World) (h : THost) (d : DHost) : Prop where
  host : h.Host = d.host
  route : h.Route = d.route
  entries : ∃ es, Rd TEntry.cells 3 F w h.Entries es ∧ All2 (EntD F w) es d.entries
  permits : Rd TPermit.cells 3 F w h.Permits d.permits
structure TabD (F : Nat → Prop) (w : World) (t : TTables) (d : DTab) : Prop where
  version : t.Version = d.version
  hosts : ∃ hs, Rd THost.cells 4 F w t.Hosts hs ∧ All2 (HostD F w) hs d.hosts
  services : Rd bs 1 F w t.Services d.services
section
variable {F G S : Nat → Prop} {w w' : World} {e : TEntry} {de : DEntry} {h : THost} {dh : DHost} {t : TTables} {dt : DTab}
theorem EntD.chg (hh : EntD F w e de) (k : Chg S w w') (hs : ∀ b, F b → b < w.heap.size → ¬ S b) : EntD F w' e de := ⟨hh.path, hh.method, let ⟨xs, r, d⟩ := hh.shares; ⟨xs, r.chg k hs, d⟩⟩
theorem EntD.mono (hh : EntD F w e de) (hF : ∀ b, F b → G b) : EntD G w e de := ⟨hh.path, hh.method, let ⟨xs, r, d⟩ := hh.shares; ⟨xs, r.mono hF, d⟩⟩
theorem HostD.chg (hh : HostD F w h dh) (k : Chg S w w') (hs : ∀ b, F b → b < w.heap.size → ¬ S b) : HostD F w' h dh :=
  ⟨hh.host, hh.route, let ⟨es, r, d⟩ := hh.entries; ⟨es, r.chg k hs, d.mono fun _ _ x => x.chg k hs⟩, hh.permits.chg k hs⟩
theorem HostD.mono (hh : HostD F w h dh) (hF : ∀ b, F b → G b) : HostD G w h dh := ⟨hh.host, hh.route, let ⟨es, r, d⟩ := hh.entries; ⟨es, r.mono hF, d.mono fun _ _ x => x.mono hF⟩, hh.permits.mono hF⟩
theorem HostD.ext (hh : HostD F w h dh) (k : Ext w w') : HostD F w' h dh := hh.chg (k.chg fun _ => False) (fun _ _ _ h => h)
theorem TabD.chg (hh : TabD F w t dt) (k : Chg S w w') (hs : ∀ b, F b → b < w.heap.size → ¬ S b) : TabD F w' t dt :=
  ⟨hh.version, let ⟨es, r, d⟩ := hh.hosts; ⟨es, r.chg k hs, d.mono fun _ _ x => x.chg k hs⟩, hh.services.chg k hs⟩
theorem TabD.mono (hh : TabD F w t dt) (hF : ∀ b, F b → G b) : TabD G w t dt := ⟨hh.version, let ⟨es, r, d⟩ := hh.hosts; ⟨es, r.mono hF, d.mono fun _ _ x => x.mono hF⟩, hh.services.mono hF⟩
theorem TabD.ext (hh : TabD F w t dt) (k : Ext w w') : TabD F w' t dt := hh.chg (k.chg fun _ => False) (fun _ _ _ h => h)
end

theorem oc_entry (x : TEntry) : ∀ u ∈ TEntry.cells x, u.oneCell' = true := by simp [TEntry.cells, Value.oneCell', Sl.v]
theorem oc_permit (x : TPermit) : ∀ u ∈ TPermit.cells x, u.oneCell' = true := by simp [TPermit.cells, Value.oneCell']
theorem oc_host (x : THost) : ∀ u ∈ THost.cells x, u.oneCell' = true := by simp [THost.cells, Value.oneCell', Sl.v]
theorem oc_tab (x : TTables) : ∀ u ∈ TTables.cells x, u.oneCell' = true := by simp [TTables.cells, Value.oneCell', Sl.v]
structure HW (B b7 : Nat) (w : World) (hn rn : ByteArray) (es ps : Sl) (xs : List TEntry) (ds : List DEntry) (pl : List TPermit) : Prop where
  hb : Blk w b7 59 (THost.cells ⟨hn, rn, es, ps⟩)
  lo : B ≤ b7
  eo : Own TEntry.cells 3 61 B w es xs
  po : Own TPermit.cells 3 89 B w ps pl
  e7 : ∀ b, own? es b → b ≠ b7
  p7 : ∀ b, own? ps b → b ≠ b7
  ep : ∀ b, own? es b → ¬ own? ps b
  el : All2 (EntD (fun b => (B ≤ b ∧ b < w.heap.size) ∧ b ≠ b7 ∧ ¬ own? es b ∧ ¬ own? ps b) w) xs ds
section
variable {B b7 : Nat} {w w' : World} {hn rn : ByteArray} {es ps : Sl} {xs : List TEntry} {ds : List DEntry} {pl : List TPermit} {S : Nat → Prop}
theorem HW.chg (h : HW B b7 w hn rn es ps xs ds pl) (k : Chg S w w') (hs : ∀ b, B ≤ b → b < w.heap.size → ¬ S b) : HW B b7 w' hn rn es ps xs ds pl :=
  ⟨h.hb.chg k (hs _ h.lo h.hb.lt), h.lo, h.eo.chg k (fun b hb => hs b (h.eo.ge hb).1 (h.eo.ge hb).2), h.po.chg k (fun b hb => hs b (h.po.ge hb).1 (h.po.ge hb).2), h.e7, h.p7, h.ep,
    h.el.mono fun x y e => (e.chg k (fun b hb _ => hs b hb.1.1 hb.1.2)).mono fun b hb => ⟨⟨hb.1.1, by have := k.size; omega⟩, hb.2⟩⟩
theorem HW.ext (h : HW B b7 w hn rn es ps xs ds pl) (k : Ext w w') : HW B b7 w' hn rn es ps xs ds pl := h.chg (k.chg fun _ => False) (fun _ _ _ h => h)
theorem HW.done (h : HW B b7 w hn rn es ps xs ds pl) : HostD (fun b => B ≤ b ∧ b < w.heap.size) w ⟨hn, rn, es, ps⟩ ⟨hn, rn, ds, pl⟩ :=
  ⟨rfl, rfl, ⟨xs, h.eo.rd (fun b hb => h.eo.ge hb), h.el.mono fun x y e => e.mono fun b hb => hb.1⟩, h.po.rd (fun b hb => h.po.ge hb)⟩
theorem HW.entry (h : HW B b7 w hn rn es ps xs ds pl) {x : TEntry} {d : DEntry} (hx : EntD (fun b => (B ≤ b ∧ b < w.heap.size) ∧ b ≠ b7 ∧ ¬ own? es b ∧ ¬ own? ps b) w x d) (hlen : xs.length ≤ 1048576) (hB : B ≤ w.heap.size) {K : World → Prop}
    (hK : ∀ w' es', Chg (fun b => b = b7 ∨ own? es b) w w' → HW B b7 w' hn rn es' ps (xs ++ [x]) (ds ++ [d]) pl → K w') :
    New 61 (TEntry.cells x) w fun b116 w => Rn PP Sl.v (Builtin.append_ #[56, 56] 56 #[(Sl.v es), (Sl.v (⟨some ⟨b116, 0, none⟩, 1, 1⟩ : Sl))]) w fun t117 w =>
      RnU PP (Instr.storeAt 56 (Ptr ((⟨b7, 0, none⟩ : Addr).add 2)) (Sl.v t117)) w K := by
  refine New.mk fun b1 w1 e1 h1 n1 s1 => ?_
  have h' := h.ext e1
  have g1 := e1.size
  refine rn_app1 (x := x) el56 h'.eo h1 rfl rfl (oc_entry _) (by omega) (by decide) (by omega) fun es' w2 O2 c2 n2 => ?_
  have g2 := c2.size
  have hb7 := h.hb.lt
  refine rnu_st (b := b7) (o := 2) rfl (h'.hb.chg c2 (fun ho => h.e7 _ ho rfl)) [Sl.v es'] sz56 rfl (by simp [Sl.v, Value.oneCell']) (by simp [THost.cells]) fun w3 c3 s3 hb3 => ?_
  replace hb3 : Blk w3 b7 59 (THost.cells ⟨hn, rn, es', ps⟩) := hb3
  have g3 := c3.size
  have ns : ∀ b, own? es' b → (own? es b ∨ b = w1.heap.size) ∧ b < w2.heap.size := fun b hb => ⟨n2 b hb, (O2.ge hb).2⟩
  have oe : ∀ b, own? es b → B ≤ b ∧ b < w.heap.size := fun b hb => h.eo.ge hb
  have op : ∀ b, own? ps b → B ≤ b ∧ b < w.heap.size := fun b hb => h.po.ge hb
  have he7 : ∀ b, own? es' b → b ≠ b7 := fun b hb => by
    rcases (ns b hb).1 with k | k
    · exact h.e7 b k
    · omega
  have hep : ∀ b, own? es' b → ¬ own? ps b := fun b hb hp => by
    rcases (ns b hb).1 with k | k
    · exact h.ep b k hp
    · have := (op b hp).2; omega
  refine hK w3 es' (((e1.chg _).trans (c2.mono fun b _ hb => .inr hb)).trans (c3.mono fun b _ hb => .inl hb)) ⟨hb3, h.lo, O2.chg c3 (fun b hb he => he7 b hb he), (h'.po.chg c2 (fun b hb he => h.ep b he hb)).chg c3 (fun b hb he => h.p7 b hb he), he7, h.p7, hep, ?_⟩
  have carry : ∀ {y : TEntry} {dy : DEntry}, EntD (fun b => (B ≤ b ∧ b < w.heap.size) ∧ b ≠ b7 ∧ ¬ own? es b ∧ ¬ own? ps b) w y dy → EntD (fun b => (B ≤ b ∧ b < w3.heap.size) ∧ b ≠ b7 ∧ ¬ own? es' b ∧ ¬ own? ps b) w3 y dy := fun {y dy} hy =>
    (((hy.chg (e1.chg (fun _ => False)) (fun _ _ _ h => h)).chg c2 (fun b hb _ => hb.2.2.1)).chg c3 (fun b hb _ => hb.2.1)).mono fun b hb => ⟨⟨hb.1.1, by have := hb.1.2; omega⟩, hb.2.1, fun ho => by
      rcases (ns b ho).1 with k | k
      · exact hb.2.2.1 k
      · have := hb.1.2; omega, hb.2.2.2⟩
  exact (h.el.mono fun _ _ hy => carry hy).snoc (carry hx)
theorem HW.permit (h : HW B b7 w hn rn es ps xs ds pl) {x : TPermit} (hlen : pl.length ≤ 1048576) (hB : B ≤ w.heap.size) {K : World → Prop}
    (hK : ∀ w' ps', Chg (fun b => b = b7 ∨ own? ps b) w w' → HW B b7 w' hn rn es ps' xs ds (pl ++ [x]) → (∀ b, own? ps' b → own? ps b ∨ w.heap.size ≤ b) → K w') :
    New 89 (TPermit.cells x) w fun b116 w => Rn PP Sl.v (Builtin.append_ #[57, 57] 57 #[(Sl.v ps), (Sl.v (⟨some ⟨b116, 0, none⟩, 1, 1⟩ : Sl))]) w fun t117 w =>
      RnU PP (Instr.storeAt 57 (Ptr ((⟨b7, 0, none⟩ : Addr).add 3)) (Sl.v t117)) w K := by
  refine New.mk fun b1 w1 e1 h1 n1 s1 => ?_
  have h' := h.ext e1
  have g1 := e1.size
  refine rn_app1 (x := x) el57 h'.po h1 rfl rfl (oc_permit _) (by omega) (by decide) (by omega) fun ps' w2 O2 c2 n2 => ?_
  have g2 := c2.size
  have hb7 := h.hb.lt
  refine rnu_st (b := b7) (o := 3) rfl (h'.hb.chg c2 (fun ho => h.p7 _ ho rfl)) [Sl.v ps'] sz57 rfl (by simp [Sl.v, Value.oneCell']) (by simp [THost.cells]) fun w3 c3 s3 hb3 => ?_
  replace hb3 : Blk w3 b7 59 (THost.cells ⟨hn, rn, es, ps'⟩) := hb3
  have g3 := c3.size
  have ns : ∀ b, own? ps' b → (own? ps b ∨ b = w1.heap.size) ∧ b < w2.heap.size := fun b hb => ⟨n2 b hb, (O2.ge hb).2⟩
  have oe : ∀ b, own? es b → B ≤ b ∧ b < w.heap.size := fun b hb => h.eo.ge hb
  have op : ∀ b, own? ps b → B ≤ b ∧ b < w.heap.size := fun b hb => h.po.ge hb
  have hp7 : ∀ b, own? ps' b → b ≠ b7 := fun b hb => by
    rcases (ns b hb).1 with k | k
    · exact h.p7 b k
    · omega
  have hep : ∀ b, own? es b → ¬ own? ps' b := fun b hb hp => by
    rcases (ns b hp).1 with k | k
    · exact h.ep b hb k
    · have := (oe b hb).2; omega
  refine hK w3 ps' (((e1.chg _).trans (c2.mono fun b _ hb => .inr hb)).trans (c3.mono fun b _ hb => .inl hb)) ⟨hb3, h.lo, (h'.eo.chg c2 (fun b hb he => h.ep b hb he)).chg c3 (fun b hb he => h.e7 b hb he), O2.chg c3 (fun b hb he => hp7 b hb he), h.e7, hp7, hep, ?_⟩ (fun b hb => (n2 b hb).imp id fun h => by omega)
  exact h.el.mono fun _ _ hy => (((hy.chg (e1.chg (fun _ => False)) (fun _ _ _ h => h)).chg c2 (fun b hb _ => hb.2.2.2)).chg c3 (fun b hb _ => hb.2.1)).mono fun b hb => ⟨⟨hb.1.1, by have := hb.1.2; omega⟩, hb.2.1, hb.2.2.1, fun ho => by
      rcases (ns b ho).1 with k | k
      · exact hb.2.2.2 k
      · have := hb.1.2; omega⟩
end
end Go.Proofs.Ytdoeegfcmbcbkaa.Ct


namespace Go.Proofs.Ytdoeegfcmbcbkaa.Ct
open Go Go.Eng Tr
set_option linter.unusedVariables false
set_option maxRecDepth 100000

section
variable {α β : Type} {R : α → β → Prop}
theorem All2.of : ∀ {xs : List α} {ys : List β}, xs.length = ys.length → (∀ k (h : k < xs.length) (h' : k < ys.length), R xs[k] ys[k]) → All2 R xs ys
  | [], [], _, _ => trivial
  | x :: xs, y :: ys, hl, h => ⟨h 0 (by simp) (by simp), All2.of (by simpa using hl) fun k a b => h (k + 1) (by simpa using a) (by simpa using b)⟩
  | [], _ :: _, hl, _ => by simp at hl
  | _ :: _, [], hl, _ => by simp at hl
theorem All2.filter {p : α → Bool} {q : β → Bool} (hc : ∀ x y, R x y → p x = q y) : ∀ {xs : List α} {ys : List β}, All2 R xs ys → All2 R (xs.filter p) (ys.filter q)
  | [], [], _ => trivial
  | x :: xs, y :: ys, h => by
    rw [List.filter_cons, List.filter_cons, hc x y h.1]
    split
    · exact ⟨h.1, All2.filter hc h.2⟩
    · exact All2.filter hc h.2
  | [], _ :: _, h => h.elim
  | _ :: _, [], h => h.elim
end
def dk (k : Int) (l : List DRes) : List DRes := l.filter fun d => decide (d.kind = k)
def entD (l : List DRes) (r : TRule) : DEntry := ⟨r.Path, r.Method, stepsS (shF l r.Split)⟩
def permD (d : DRes) : List TPermit := d.rules.map fun r => ⟨r.Path, r.Method, r.Allow⟩
def permAt (n : ByteArray) (d : DRes) : List TPermit := if d.route = n then permD d else []
def permS (l : List DRes) (n : ByteArray) : List TPermit := (dk 4 l).flatMap (permAt n)
def hostD (l : List DRes) (d : DRes) : DHost := ⟨d.host, d.name, d.rules.map (entD l), permS l d.name⟩
def ltD (a b : DHost) : Bool := decide (ordS a.host b.host < 0)
def hostsS (l : List DRes) : List DHost := stb ltD ((dk 3 l).map (hostD l))
def servS (l : List DRes) : List ByteArray := (dk 1 l).map (·.name)
theorem tot_filter (k : Int) : ∀ l : List DRes, tot (dk k l) ≤ tot l
  | [] => Nat.le_refl _
  | d :: l => by
    have := tot_filter k l
    unfold dk at *
    rw [List.filter_cons]
    split <;> simp only [tot, List.map_cons, List.sum_cons] at * <;> omega
theorem tot_upto : ∀ (l : List DRes) (k : Nat) (h : k < l.length), tot (l.take k) + l[k].rules.length ≤ tot l
  | d :: l, 0, _ => by simp [tot]
  | d :: l, k + 1, h => by
    have := tot_upto l k (by simpa using h)
    simp only [tot, List.take_succ_cons, List.map_cons, List.sum_cons, List.getElem_cons_succ] at *
    omega
theorem perm_len (n : ByteArray) : ∀ l : List DRes, (l.flatMap (permAt n)).length ≤ tot l
  | [] => Nat.le_refl _
  | d :: l => by
    have := perm_len n l
    have h0 : (permAt n d).length ≤ d.rules.length := by
      unfold permAt; split
      · simp [permD]
      · simp
    simp only [List.flatMap_cons, List.length_append, tot, List.map_cons, List.sum_cons] at *
    omega
def Ruled (l : List DRes) : Prop := ∀ d ∈ l, d.kind = 3 → ∀ t ∈ d.rules, (splitOf l t.Split).isSome = true
theorem fault_ruled {l : List DRes} (h : (faultM l).Err = 0) : Ruled l := by
  by_cases c1 : 0 ≤ fst? (outAt l) l.length
  · rw [fs_out c1] at h; cases h
  by_cases c2 : 64 < l.length
  · rw [fs_big c1 c2] at h; cases h
  have hd1 : ∀ i, i < l.length → dangAt l i = false := by
    intro j
    induction j using Nat.strongRecOn with
    | ind j ih =>
      intro hj
      cases c : dangAt l j with
      | false => rfl
      | true => rw [fs_dang c1 c2 hj c fun i hi => ih i hi (by omega)] at h; cases h
  intro d hd h3 t ht
  obtain ⟨i, hi, rfl⟩ := List.mem_iff_getElem.1 hd
  have k1 := hd1 i hi
  rw [dangAt_eq hi] at k1
  have k2 : dang (has l) l[i] < 0 := by simpa using k1
  unfold dang at k2
  rw [if_neg (by omega), if_pos h3] at k2
  have k3 : fst? (badR (has l) l[i].rules) l[i].rules.length < 0 := by
    by_cases c : fst? (badR (has l) l[i].rules) l[i].rules.length < 0
    · exact c
    · unfold line? at k2; rw [if_neg c] at k2; omega
  obtain ⟨j, hj, rfl⟩ := List.mem_iff_getElem.1 ht
  have k4 := fst?_neg k3 j hj
  rw [badR_eq hj] at k4
  exact has_split (by simpa using k4)
section
variable {w w0 : World} {F G : Nat → Prop} {s : Sl} {rs : List TResource} {l : List DRes}
theorem rnl_get {κ ν : Type} [DecidableEq κ] {ek : κ → Value} {ev : ν → Value} {mt kt et b : Nat} {z : ν} {m : List (κ × ν)} {K : ν → Prop} {k : κ} (ht : MapT PP mt kt et ek ev z) (h : Mp ek ev w0 b m) (hk : K ((mget m k).getD z)) :
    RnL PP ev (Instr.lookup mt (.map (some b)) (ek k) false) w0 K := ⟨_, fun w e => lookup_run ht (h.ext e) k, hk⟩
theorem ConfD.all2 (h : ConfD F w s rs l) : All2 (ResD F w) rs l := All2.of h.len h.el
theorem ConfD.kind2 (h : ConfD F w s rs l) (k : Int) : All2 (ResD F w) (ofKind k rs) (dk k l) := h.all2.filter fun x y e => by rw [e.kind]
theorem host_ok76 (h : ConfD F w s rs l) (hf : Fine l) (hr : Ruled l) (ht : tot l ≤ 1048576) {b : Nat} {m : List (ByteArray × Sl)} {Q : Nat → Prop} (hD : DoneI Q l b w m)
    (hall : ∀ n, (splitOf l n).isSome = true → n ∈ mkeys m) {r : TResource} {d : DRes} (hrd : ResD G w r d) (hd : d ∈ l) (h3 : d.kind = 3) :
    Cal PP THost.v 76 #[s.v, .map (some b), r.v] w fun x w' => Ext w w' ∧ HostD (fun b => w.heap.size ≤ b ∧ b < w'.heap.size) w' x (hostD l d) := by
  have hl := h.low
  have hru : Rd TRule.cells 4 (fun b => b < w.heap.size) w r.Rules d.rules := (Rd.low hrd.rules (fun _ => by simp [TRule.cells])).mono fun b hb => hb.2
  refine c76 ?_
  unfold f76
  have hrl : rs.length ≤ 64 := by rw [h.len]; exact hf.few
  have hfew := hf.few
  have hdr : d.rules.length ≤ tot l := by
    obtain ⟨i, hi, rfl⟩ := List.mem_iff_getElem.1 hd
    have := tot_upto l i hi; omega
  refine New.mk fun b5 w1 e1 h5 n5 s5 => ?_
  refine New.mk fun b6 w2 e2 h6 n6 s6 => ?_
  refine rn_blk (x := r.Host) one9 (h5.ext e2) rfl rfl ?_
  refine rn_blk (x := r.Name) one9 (h5.ext e2) rfl rfl ?_
  refine New.var (THost.cells ⟨r.Host, r.Name, Sl.nil, Sl.nil⟩) sz59 rfl (oc_host _) rfl fun b7 w3 e3 h7 nb7 => ?_
  have h5' := (h5.ext e2).ext e3
  have h6' := h6.ext e3
  have E3 := (e1.trans e2).trans e3
  refine rn_blk (x := r.Rules) one46 h5' rfl rfl ?_
  have g1 := e1.size; have g2 := e2.size; have g3 := e3.size
  have hW0 : HW w2.heap.size b7 w3 r.Host r.Name Sl.nil Sl.nil [] [] [] := ⟨h7, nb7, Own.nil_ _ _, Own.nil_ _ _, (fun b ⟨a, ha, _⟩ => by cases ha), (fun b ⟨a, ha, _⟩ => by cases ha), (fun b ⟨a, ha, _⟩ => by cases ha), trivial⟩
  refine Lp.mk (fun (i : Int) w' => ∃ (k : Nat) (es : Sl) (xs : List TEntry), i = k ∧ k ≤ d.rules.length ∧ Chg (fun b => w2.heap.size ≤ b) w3 w' ∧ HW w2.heap.size b7 w' r.Host r.Name es Sl.nil xs ((d.rules.take k).map (entD l)) []) (fun i => d.rules.length - i.toNat)
    ⟨0, _, _, rfl, Nat.zero_le _, Chg.refl _ _, hW0⟩ ?_
  clear hW0
  rintro i w4 K ⟨k, es, xs, rfl, hk, C4, hW⟩ hK
  have E4 : Ext w w4 := E3.then C4 (fun b hb => by omega)
  have g4 := C4.size
  by_cases hlt : k < d.rules.length
  · rw [if_pos (by rw [hru.len]; omega)]
    refine rnp_idx sl46 (hru.ext E4) hlt rfl fun p _ hp => ?_
    refine rn_ldN (x := d.rules[k]) many91 hp rfl rfl ?_
    refine New.var (TRule.cells d.rules[k]) sz91 rfl (oc_rule _) rfl fun b9 w5 e5 h9 nb9 => ?_
    refine Dr.mk fun w6 e6 _ => ?_
    have E46 := e5.trans e6
    have hW6 := hW.ext E46
    have h9' := h9.ext e6
    refine rnl_blk (x := es) one56 hW6.hb rfl rfl ?_
    refine rnl_blk (x := d.rules[k].Path) one9 h9' rfl rfl ?_
    refine rnl_blk (x := d.rules[k].Method) one9 h9' rfl rfl ?_
    refine rnl_blk (x := d.rules[k].Split) one9 h9' rfl rfl ?_
    have hD6 := (hD.ext E4).ext E46
    refine rnl_get (k := d.rules[k].Split) mapT97 hD6.mp ?_
    have hsp := hr d hd h3 _ (List.getElem_mem hlt)
    have hn := hall _ hsp
    cases hg : mget m d.rules[k].Split with
    | none => exact absurd hn (mget_none.1 hg)
    | some u =>
      obtain ⟨ys, ry, dy⟩ := hD6.el _ u hg
      have hok := (sh_ok hf.stand 9 d.rules[k].Split).len
      refine (steps_ok ry dy (by unfold shF; omega)).mono ?_
      rintro t36 w7 ⟨e7, zs, O7, d7⟩
      refine ⟨e7, ?_⟩
      have g5 := e5.size; have g6 := e6.size; have g7 := e7.size
      have hxl : xs.length = k := by rw [hW.el.len]; simp; omega
      refine HW.entry (hW6.ext e7) (x := ⟨d.rules[k].Path, d.rules[k].Method, t36⟩) (d := entD l d.rules[k]) ⟨rfl, rfl, zs, O7.rd fun b hb => ?_, d7⟩ (by omega) (by omega) fun w8 es' c8 hW8 => ?_
      · have q := O7.ge hb
        have h7lt := hW.hb.lt
        refine ⟨⟨by omega, q.2⟩, by omega, fun ho => ?_, fun ⟨a, ha, _⟩ => by cases ha⟩
        have h9 := (hW.eo.ge ho).2; omega
      · rw [hru.wr hlt]
        have c48 : Chg (fun b => w2.heap.size ≤ b) w4 w8 := ((E46.trans e7).chg _).trans (c8.mono fun b _ hb => by
          rcases hb with hb | hb
          · subst hb; exact hW.lo
          · exact (hW.eo.ge hb).1)
        refine hK _ _ ⟨k + 1, es', xs ++ [⟨d.rules[k].Path, d.rules[k].Method, t36⟩], rfl, hlt, C4.trans c48, ?_⟩ (by omega)
        rw [List.take_add_one, List.getElem?_eq_getElem hlt, List.map_append]
        exact hW8
  · rw [if_neg (by rw [hru.len]; omega)]
    obtain rfl : k = d.rules.length := by omega
    rw [List.take_length] at hW
    clear hK
    refine (named_ok (h.rd.ext E4) 4 (by omega)).mono ?_
    rintro t43 w5 ⟨e5, O5⟩
    have E5 := E4.trans e5
    have g5 := e5.size
    have hT := O5.rd (F := fun b => w4.heap.size ≤ b ∧ b < w5.heap.size) (fun b hb => O5.ge hb)
    have hA : All2 (ResD (fun b => b < w.heap.size) w) (ofKind 4 rs) (dk 4 l) := (hl.kind2 4).mono fun _ _ x => x.mono fun b hb => hb.2
    have hperm := perm_len d.name (dk 4 l)
    have htf := tot_filter 4 l
    have hAl := hA.len
    generalize hts : ofKind 4 rs = ts at hT hA hAl
    have hps : permS l d.name = (dk 4 l).flatMap (permAt d.name) := rfl
    generalize hds : dk 4 l = ds at hA hAl hperm htf hps
    clear O5
    have h7lt := hW.hb.lt
    have eslt : ∀ b, own? es b → w2.heap.size ≤ b ∧ b < w4.heap.size := fun b hb => hW.eo.ge hb
    refine Lp.mk (fun (i : Int) w' => ∃ (k : Nat) (ps : Sl), i = k ∧ k ≤ ts.length ∧ Chg (fun b => w2.heap.size ≤ b ∧ ¬ (w4.heap.size ≤ b ∧ b < w5.heap.size)) w5 w' ∧ (∀ b, own? ps b → w5.heap.size ≤ b) ∧ HW w2.heap.size b7 w' r.Host r.Name es ps xs (d.rules.map (entD l)) ((ds.take k).flatMap (permAt d.name))) (fun i => ts.length - i.toNat)
      ⟨0, Sl.nil, rfl, Nat.zero_le _, Chg.refl _ _, (fun b ⟨a, ha, _⟩ => by cases ha), hW.ext e5⟩ ?_
    clear hW
    rintro i w6 K ⟨k, ps, rfl, hk, C6, hps6, hW⟩ hK
    have E6 : Ext w w6 := E5.then C6 (fun b hb => by have := hb.1; omega)
    have g6 := C6.size
    have hT6 := hT.chg C6 (fun b hb _ hs => hs.2 hb)
    by_cases hlt : k < ts.length
    · rw [if_pos (by rw [hT.len]; omega)]
      have hkd : k < ds.length := by omega
      have hel := (hA.get k hlt hkd).ext E6
      have htk := tot_upto ds k hkd
      have hpk := perm_len d.name (ds.take k)
      refine ⟨fun _ w' => ∃ ps', Chg (fun b => w2.heap.size ≤ b ∧ ¬ (w4.heap.size ≤ b ∧ b < w5.heap.size)) w5 w' ∧ (∀ b, own? ps' b → w5.heap.size ≤ b) ∧ HW w2.heap.size b7 w' r.Host r.Name es ps' xs (d.rules.map (entD l)) ((ds.take k).flatMap (permAt d.name) ++ permAt d.name ds[k]), ?_, ?_⟩
      · refine rnp_idx sl22 hT6 hlt rfl fun p _ hp => ?_
        refine rn_ldN (x := ts[k]) many48 hp rfl rfl ?_
        refine New.var (TResource.cells ts[k]) sz48 rfl (oc_res _) rfl fun b11 w7 e7 h11 nb11 => ?_
        have g7 := e7.size
        refine rn_blk (x := ts[k].Route) one9 h11 rfl rfl ?_
        have h5w : Blk w7 b5 48 (TResource.cells r) := ((((h5'.chg C4 (by omega)).ext e5).chg C6 (fun hb => by have := hb.1; omega)).ext e7)
        refine rn_blk (x := r.Name) one9 h5w rfl rfl ?_
        have C7 := C6.thenE e7
        by_cases c : ds[k].route = d.name
        · refine iteF (by rw [hel.route, hrd.name]; simpa using c) ?_
          refine rn_blk (x := ts[k].Rules) one46 h11 rfl rfl ?_
          have hpa : permAt d.name ds[k] = permD ds[k] := if_pos c
          rw [hpa]
          have hR := (hel.ext e7).rules
          generalize hq : ds[k].rules = qs at hR htk
          have hpd : permD ds[k] = qs.map fun r => (⟨r.Path, r.Method, r.Allow⟩ : TPermit) := by unfold permD; rw [hq]
          rw [hpd]
          refine Lp.mk (fun (i : Int) w' => ∃ (j : Nat) (ps' : Sl), i = j ∧ j ≤ qs.length ∧ Ext w7 w7 ∧ Chg (fun b => w2.heap.size ≤ b ∧ ¬ (w4.heap.size ≤ b ∧ b < w5.heap.size)) w5 w' ∧ Chg (fun b => w2.heap.size ≤ b) w7 w' ∧ (∀ b, own? ps' b → w5.heap.size ≤ b) ∧
              HW w2.heap.size b7 w' r.Host r.Name es ps' xs (d.rules.map (entD l)) ((ds.take k).flatMap (permAt d.name) ++ (qs.take j).map fun r => (⟨r.Path, r.Method, r.Allow⟩ : TPermit))) (fun i => qs.length - i.toNat)
            ⟨0, ps, rfl, Nat.zero_le _, Ext.refl _, C7, Chg.refl _ _, hps6, by simpa using hW.ext e7⟩ ?_
          rintro i w8 K2 ⟨j, ps', rfl, hj, _, C8, C78, hps8, hW8⟩ hK2
          have g8 := C8.size
          by_cases hlj : j < qs.length
          · rw [if_pos (by rw [hR.len]; omega)]
            have hR8 := hR.chg C78 (fun b hb _ hs => by omega)
            refine rnp_idx sl46 hR8 hlj rfl fun p _ hp => ?_
            refine rn_ldN (x := qs[j]) many91 hp rfl rfl ?_
            refine New.var (TRule.cells qs[j]) sz91 rfl (oc_rule _) rfl fun b13 w9 e9 h13 nb13 => ?_
            have g9 := e9.size
            have hW9 := hW8.ext e9
            refine rn_blk (x := ps') one57 hW9.hb rfl rfl ?_
            refine rn_blk (x := qs[j].Path) one9 h13 rfl rfl ?_
            refine rn_blk (x := qs[j].Method) one9 h13 rfl rfl ?_
            refine rn_blk (x := qs[j].Allow) one4 h13 rfl rfl ?_
            refine HW.permit hW9 (x := ⟨qs[j].Path, qs[j].Method, qs[j].Allow⟩) (by rw [List.length_append, List.length_map, List.length_take]; omega) (by omega) fun w10 ps2 c10 hW10 hp10 => ?_
            rw [hR.wr hlj]
            have c810 : Chg (fun b => w2.heap.size ≤ b ∧ ¬ (w4.heap.size ≤ b ∧ b < w5.heap.size)) w8 w10 := (e9.chg _).trans (c10.mono fun b _ hb => by
              rcases hb with hb | hb
              · subst hb; exact ⟨hW8.lo, by omega⟩
              · have := hps8 b hb; exact ⟨by omega, by omega⟩)
            refine hK2 _ _ ⟨j + 1, ps2, rfl, hlj, Ext.refl _, C8.trans c810, C78.trans (c810.mono fun b _ hb => hb.1), fun b hb => ?_, ?_⟩ (by omega)
            · rcases hp10 b hb with h | h
              · exact hps8 b h
              · omega
            · rw [List.take_add_one, List.getElem?_eq_getElem hlj, List.map_append, ← List.append_assoc]
              exact hW10
          · rw [if_neg (by rw [hR.len]; omega)]
            obtain rfl : j = qs.length := by omega
            rw [List.take_length] at hW8
            exact ⟨ps', C8, hps8, hW8⟩
        · refine iteT (by rw [hel.route, hrd.name]; simpa using c) ⟨ps, C7, hps6, ?_⟩
          have hpa : permAt d.name ds[k] = [] := if_neg c
          rw [hpa, List.append_nil]; exact hW.ext e7
      · rintro _ w7 ⟨ps', C7, hps7, hW7⟩
        rw [hT.wr hlt]
        refine hK _ _ ⟨k + 1, ps', rfl, hlt, C7, hps7, ?_⟩ (by omega)
        rw [List.take_add_one, List.getElem?_eq_getElem hkd, List.flatMap_append]
        simpa using hW7
    · rw [if_neg (by rw [hT.len]; omega)]
      obtain rfl : k = ts.length := by omega
      rw [hAl, List.take_length, ← hps] at hW
      refine rn_blkN (x := (⟨r.Host, r.Name, es, ps⟩ : THost)) many59 hW.hb rfl rfl ?_
      have h6w : Blk w6 b6 59 (THost.cells ⟨⟨#[]⟩, ⟨#[]⟩, Sl.nil, Sl.nil⟩) := (((h6'.chg C4 (by omega)).ext e5).chg C6 (fun hb => by have := hb.1; omega))
      refine rnu_st (b := b6) (o := 0) rfl h6w (THost.cells ⟨r.Host, r.Name, es, ps⟩) sz59 rfl (oc_host _) (by simp [THost.cells]) fun w7 c7 s7 hb7 => ?_
      replace hb7 : Blk w7 b6 59 (THost.cells ⟨r.Host, r.Name, es, ps⟩) := hb7
      refine rnr_ldN (x := (⟨r.Host, r.Name, es, ps⟩ : THost)) many59 hb7.whole rfl rfl ?_
      have hH := hW.done.chg c7 (fun b hb _ e => by omega)
      have g7 := c7.size
      refine ⟨E6.then c7 (fun b hb => by omega), ?_⟩
      rw [hrd.host, hrd.name] at hH ⊢
      exact hH.mono fun b hb => ⟨by omega, by omega⟩
end
end Go.Proofs.Ytdoeegfcmbcbkaa.Ct


namespace Go.Proofs.Ytdoeegfcmbcbkaa.Ct
open Go Go.Eng Tr
set_option linter.unusedVariables false
set_option maxRecDepth 100000

structure TW (B b8 : Nat) (w : World) (v : Int) (hs ss : Sl) (xs : List THost) (ds : List DHost) (sl : List ByteArray) : Prop where
  hb : Blk w b8 53 (TTables.cells ⟨v, hs, ss⟩)
  lo : B ≤ b8
  ho : Own THost.cells 4 59 B w hs xs
  so : Own bs 1 9 B w ss sl
  h8 : ∀ b, own? hs b → b ≠ b8
  s8 : ∀ b, own? ss b → b ≠ b8
  hsn : ∀ b, own? hs b → ¬ own? ss b
  el : All2 (HostD (fun b => (B ≤ b ∧ b < w.heap.size) ∧ b ≠ b8 ∧ ¬ own? hs b ∧ ¬ own? ss b) w) xs ds
section
variable {B b8 : Nat} {w w' : World} {v : Int} {hs ss : Sl} {xs : List THost} {ds : List DHost} {sl : List ByteArray} {S : Nat → Prop}
theorem TW.chg (h : TW B b8 w v hs ss xs ds sl) (k : Chg S w w') (hS : ∀ b, B ≤ b → b < w.heap.size → ¬ S b) : TW B b8 w' v hs ss xs ds sl :=
  ⟨h.hb.chg k (hS _ h.lo h.hb.lt), h.lo, h.ho.chg k (fun b hb => hS b (h.ho.ge hb).1 (h.ho.ge hb).2), h.so.chg k (fun b hb => hS b (h.so.ge hb).1 (h.so.ge hb).2), h.h8, h.s8, h.hsn,
    h.el.mono fun x y e => (e.chg k (fun b hb _ => hS b hb.1.1 hb.1.2)).mono fun b hb => ⟨⟨hb.1.1, by have := k.size; omega⟩, hb.2⟩⟩
theorem TW.ext (h : TW B b8 w v hs ss xs ds sl) (k : Ext w w') : TW B b8 w' v hs ss xs ds sl := h.chg (k.chg fun _ => False) (fun _ _ _ h => h)
theorem TW.done (h : TW B b8 w v hs ss xs ds sl) : TabD (fun b => B ≤ b ∧ b < w.heap.size) w ⟨v, hs, ss⟩ ⟨v, ds, sl⟩ :=
  ⟨rfl, ⟨xs, h.ho.rd (fun b hb => h.ho.ge hb), h.el.mono fun x y e => e.mono fun b hb => hb.1⟩, h.so.rd (fun b hb => h.so.ge hb)⟩
theorem TW.set (h : TW B b8 w v hs ss xs ds sl) {hs' : Sl} {xs' : List THost} {ds' : List DHost} {w1 : World} (hO : Own THost.cells 4 59 B w1 hs' xs') (hc : Chg (own? hs) w w1) (hn : ∀ b, own? hs' b → own? hs b ∨ w.heap.size ≤ b)
    (hel : All2 (HostD (fun b => (B ≤ b ∧ b < w1.heap.size) ∧ b ≠ b8 ∧ ¬ own? hs' b ∧ ¬ own? ss b) w1) xs' ds') {K : World → Prop}
    (hK : ∀ w', Chg (fun b => b = b8) w1 w' → TW B b8 w' v hs' ss xs' ds' sl → K w') : RnU PP (Instr.storeAt 51 (Ptr ((⟨b8, 0, none⟩ : Addr).add 1)) (Sl.v hs')) w1 K := by
  have hl := h.hb.lt
  have g := hc.size
  refine rnu_st (b := b8) (o := 1) rfl (h.hb.chg hc (fun ho => h.h8 _ ho rfl)) [Sl.v hs'] sz51 rfl (by simp [Sl.v, Value.oneCell']) (by simp [TTables.cells]) fun w3 c3 s3 hb3 => ?_
  replace hb3 : Blk w3 b8 53 (TTables.cells ⟨v, hs', ss⟩) := hb3
  have g3 := c3.size
  have h8' : ∀ b, own? hs' b → b ≠ b8 := fun b hb => by
    rcases hn b hb with k | k
    · exact h.h8 b k
    · omega
  have hns : ∀ b, own? hs' b → ¬ own? ss b := fun b hb hp => by
    rcases hn b hb with k | k
    · exact h.hsn b k hp
    · have := (h.so.ge hp).2; omega
  exact hK w3 c3 ⟨hb3, h.lo, hO.chg c3 (fun b hb e => h8' b hb e), (h.so.chg hc (fun b hb ho => h.hsn b ho hb)).chg c3 (fun b hb e => h.s8 b hb e), h8', h.s8, hns,
    hel.mono fun x y e => (e.chg c3 (fun b hb _ e => hb.2.1 e)).mono fun b hb => ⟨⟨hb.1.1, by omega⟩, hb.2⟩⟩
theorem TW.carry (h : TW B b8 w v hs ss xs ds sl) {hs' : Sl} {w1 : World} (hc : Chg (own? hs) w w1) (hn : ∀ b, own? hs' b → own? hs b ∨ w.heap.size ≤ b) :
    All2 (HostD (fun b => (B ≤ b ∧ b < w1.heap.size) ∧ b ≠ b8 ∧ ¬ own? hs' b ∧ ¬ own? ss b) w1) xs ds := h.el.mono fun x y e => (e.chg hc (fun b hb _ => hb.2.2.1)).mono fun b hb => by
  have g := hc.size
  have := hb.1.2
  exact ⟨⟨hb.1.1, by omega⟩, hb.2.1, fun ho => by
    rcases hn b ho with k | k
    · exact hb.2.2.1 k
    · omega, hb.2.2.2⟩
theorem TW.host (h : TW B b8 w v hs ss xs ds sl) {x : THost} {d : DHost} (hx : HostD (fun b => (B ≤ b ∧ b < w.heap.size) ∧ b ≠ b8 ∧ ¬ own? hs b ∧ ¬ own? ss b) w x d) (hlen : xs.length ≤ 1048576) (hB : B ≤ w.heap.size) {K : World → Prop}
    (hK : ∀ w' hs', Chg (fun b => b = b8 ∨ own? hs b) w w' → TW B b8 w' v hs' ss (xs ++ [x]) (ds ++ [d]) sl → (∀ b, own? hs' b → own? hs b ∨ w.heap.size ≤ b) → K w') :
    New 59 (THost.cells x) w fun b116 w => Rn PP Sl.v (Builtin.append_ #[51, 51] 51 #[(Sl.v hs), (Sl.v (⟨some ⟨b116, 0, none⟩, 1, 1⟩ : Sl))]) w fun t117 w =>
      RnU PP (Instr.storeAt 51 (Ptr ((⟨b8, 0, none⟩ : Addr).add 1)) (Sl.v t117)) w K := by
  refine New.mk fun b1 w1 e1 h1 n1 s1 => ?_
  have h' := h.ext e1
  have g1 := e1.size
  refine rn_app1 (x := x) el51 h'.ho h1 rfl rfl (oc_host _) (by omega) (by decide) (by omega) fun hs' w2 O2 c2 n2 => ?_
  have n2' : ∀ b, own? hs' b → own? hs b ∨ w1.heap.size ≤ b := fun b hb => (n2 b hb).imp id fun h => by omega
  have hx1 : HostD (fun b => (B ≤ b ∧ b < w1.heap.size) ∧ b ≠ b8 ∧ ¬ own? hs b ∧ ¬ own? ss b) w1 x d := (hx.ext e1).mono fun b hb => ⟨⟨hb.1.1, by have := hb.1.2; omega⟩, hb.2⟩
  have hall : All2 (HostD (fun b => (B ≤ b ∧ b < w2.heap.size) ∧ b ≠ b8 ∧ ¬ own? hs' b ∧ ¬ own? ss b) w2) (xs ++ [x]) (ds ++ [d]) :=
    (h'.carry c2 n2').snoc ((hx1.chg c2 (fun b hb _ => hb.2.2.1)).mono fun b hb => by
      have g := c2.size
      have := hb.1.2
      exact ⟨⟨hb.1.1, by omega⟩, hb.2.1, fun ho => by
        rcases n2' b ho with k | k
        · exact hb.2.2.1 k
        · omega, hb.2.2.2⟩)
  exact h'.set O2 c2 n2' hall fun w3 c3 hW => hK w3 hs' (((e1.chg _).trans (c2.mono fun b _ hb => .inr hb)).trans (c3.mono fun b _ hb => .inl hb)) hW fun b hb => (n2 b hb).imp id fun h => by omega
theorem TW.serv (h : TW B b8 w v hs ss xs ds sl) {x : ByteArray} (hlen : sl.length ≤ 1048576) (hB : B ≤ w.heap.size) {K : World → Prop}
    (hK : ∀ w' ss', Chg (fun b => b = b8 ∨ own? ss b) w w' → TW B b8 w' v hs ss' xs ds (sl ++ [x]) → (∀ b, own? ss' b → own? ss b ∨ w.heap.size ≤ b) → K w') :
    New 9 [.string x] w fun b116 w => Rn PP Sl.v (Builtin.append_ #[44, 44] 44 #[(Sl.v ss), (Sl.v (⟨some ⟨b116, 0, none⟩, 1, 1⟩ : Sl))]) w fun t117 w =>
      RnU PP (Instr.storeAt 44 (Ptr ((⟨b8, 0, none⟩ : Addr).add 2)) (Sl.v t117)) w K := by
  refine New.mk fun b1 w1 e1 h1 n1 s1 => ?_
  have h' := h.ext e1
  have g1 := e1.size
  refine rn_app1 (x := x) el44 h'.so h1 rfl rfl (oc_bs _) (by omega) (by decide) (by omega) fun ss' w2 O2 c2 n2 => ?_
  have g2 := c2.size
  have hl := h.hb.lt
  refine rnu_st (b := b8) (o := 2) rfl (h'.hb.chg c2 (fun ho => h.s8 _ ho rfl)) [Sl.v ss'] sz44 rfl (by simp [Sl.v, Value.oneCell']) (by simp [TTables.cells]) fun w3 c3 s3 hb3 => ?_
  replace hb3 : Blk w3 b8 53 (TTables.cells ⟨v, hs, ss'⟩) := hb3
  have g3 := c3.size
  have s8' : ∀ b, own? ss' b → b ≠ b8 := fun b hb => by
    rcases n2 b hb with k | k
    · exact h.s8 b k
    · omega
  have hns : ∀ b, own? hs b → ¬ own? ss' b := fun b hb hp => by
    rcases n2 b hp with k | k
    · exact h.hsn b hb k
    · have := (h.ho.ge hb).2; omega
  refine hK w3 ss' (((e1.chg _).trans (c2.mono fun b _ hb => .inr hb)).trans (c3.mono fun b _ hb => .inl hb)) ⟨hb3, h.lo, (h'.ho.chg c2 (fun b hb ho => h.hsn b hb ho)).chg c3 (fun b hb e => h.h8 b hb e), O2.chg c3 (fun b hb e => s8' b hb e), h.h8, s8', hns, ?_⟩ (fun b hb => (n2 b hb).imp id fun h => by omega)
  exact h.el.mono fun x y e => (((e.chg (e1.chg (fun _ => False)) (fun _ _ _ h => h)).chg c2 (fun b hb _ => hb.2.2.2)).chg c3 (fun b hb _ => hb.2.1)).mono fun b hb => by
    have := hb.1.2
    exact ⟨⟨hb.1.1, by omega⟩, hb.2.1, hb.2.2.1, fun ho => by
      rcases n2 b ho with k | k
      · exact hb.2.2.2 k
      · omega⟩
end

theorem rnc_blk {P : Program} {S : Nat → Prop} {α : Type} {enc : α → Value} {x : α} {t T b i : Nat} {w0 : World} {p : Addr} {cs : List Value} {K : α → Prop} (h : One P t) (hb : Blk w0 b T cs) (hS : ¬ S b) (hp : p = ⟨b, i, none⟩) (hi : cs[i]? = some (enc x)) (hk : K x) :
    RnC P S enc (Instr.loadAt t (Ptr p)) w0 K := by
  obtain ⟨hj, e⟩ := List.getElem?_eq_some_iff.1 hi
  subst hp
  exact ⟨x, fun w c => by simp [Instr.loadAt, Instr.sureAddr, Ptr, load1_run h (((hb.chg c hS).cell hj).trans (by rw [e]))], hk⟩
def pairTI (x : TTables × Int) : Value := Value.tuple #[TTables.v x.1, .int .i64 x.2]
def errC (v : Int) (l : List DRes) : Int := if v < 1 ∨ 1048576 < v then 2 else (faultM l).Err
def ansC (v : Int) (l : List DRes) : DTab := if (v < 1 ∨ 1048576 < v) ∨ (faultM l).Err ≠ 0 then ⟨0, [], []⟩ else ⟨v, hostsS l, servS l⟩
def noT : TTables := ⟨0, Sl.nil, Sl.nil⟩
theorem TabD.none (F : Nat → Prop) (w : World) : TabD F w noT ⟨0, [], []⟩ := ⟨rfl, ⟨[], Rd.nil_ _ _, trivial⟩, Rd.nil_ _ _⟩
section
variable {w : World} {F : Nat → Prop} {s : Sl} {rs : List TResource} {l : List DRes}
theorem hostCmp_ok : CmpHost (fun x => x.Host.size ≤ maxLen) ltH (.func (.func 78) #[] #[]) := fun a b w ha hb => by
  refine ⟨78, #[], #[], rfl, fun vs w => enters Try.func78 rfl rfl vs w, ?_⟩
  show Cal PP (Value.int .i64) 78 #[a.v, b.v] w _
  refine c78 ?_
  unfold f78
  refine New.mk fun b2 w1 e1 h2 _ _ => ?_
  refine New.mk fun b3 w2 e2 h3 _ _ => ?_
  refine rn_blk (x := a.Host) one9 (h2.ext e2) rfl rfl ?_
  refine rn_blk (x := b.Host) one9 h3 rfl rfl ?_
  refine (hostOrder_ok a.Host b.Host ha hb).mono ?_
  rintro _ w3 ⟨e3, rfl⟩
  exact ⟨(e1.trans e2).trans e3, rfl⟩
theorem HostD.ltE {F : Nat → Prop} {w : World} {x x' : THost} {d d' : DHost} (h : HostD F w x d) (h' : HostD F w x' d') : ltH x x' = ltD d d' := by unfold ltH ltD; rw [h.host, h'.host]
theorem dk_len (k : Int) (l : List DRes) : (dk k l).length ≤ l.length := List.length_filter_le _ _
theorem compile_ok (h : ConfD F w s rs l) (hft : Fit l) (ht : tot l ≤ 1048576) (hln : l.length ≤ 1048576) (hh : ∀ d ∈ l, d.host.size ≤ maxLen) (v : Int) :
    Cal PP (fun x : TTables × Int => Value.tuple #[TTables.v x.1, .int .i64 x.2]) 34 #[.int .i64 v, s.v] w fun x w' => Ext w w' ∧ x.2 = errC v l ∧ TabD (fun b => w.heap.size ≤ b ∧ b < w'.heap.size) w' x.1 (ansC v l) := by
  have hlow := h.low
  refine c34 ?_
  unfold f34
  refine New.mk fun b4 w1 e1 h4 n4 s4 => ?_
  refine ⟨fun x w' => w' = w1 ∧ x = decide (v < 1 ∨ 1048576 < v), ?_, ?_⟩
  · by_cases c : v < 1
    · exact iteT c ⟨rfl, by simp [c]⟩
    · exact iteF c ⟨rfl, by simp [c]⟩
  rintro _ w2 ⟨hw2, rfl⟩
  obtain rfl : w1 = w2 := hw2.symm
  by_cases c : v < 1 ∨ 1048576 < v
  · refine iteT (by simpa using c) ?_
    refine rnu_st (b := b4) (o := 0) rfl h4 (TTables.cells noT) sz53 rfl (oc_tab _) (by simp [TTables.cells]) fun w2 c2 s2 hb2 => ?_
    replace hb2 : Blk w2 b4 53 (TTables.cells noT) := hb2
    refine rnr_ldN (x := noT) many53 hb2.whole rfl rfl ?_
    refine ⟨e1.then c2 (fun b hb => by omega), ?_, ?_⟩
    · unfold errC; rw [if_pos c]
    · unfold ansC; rw [if_pos (.inl c)]; exact TabD.none _ _
  refine iteF (by simpa using c) ?_
  refine (check_ok (h.ext e1) hft).mono ?_
  rintro ⟨x, f⟩ w2 ⟨e2, hfl⟩
  dsimp only at hfl ⊢
  subst hfl
  refine New.var (TFault.cells (faultM l)) sz80 rfl (oc_fault _) rfl fun b7 w3 e3 h7 nb7 => ?_
  have h4' := (h4.ext e2).ext e3
  have g1 := e1.size; have g2 := e2.size; have g3 := e3.size
  have l4 := h4.lt
  have E3 := (e1.trans e2).trans e3
  refine rn_blk (x := (faultM l).Err) one25 h7 rfl rfl ?_
  have hz : errC v l = (faultM l).Err := if_neg c
  by_cases c0 : (faultM l).Err ≠ 0
  · refine iteT c0 ?_
    refine Dr.mk fun w4 e4 _ => ?_
    refine rnc_blk (x := (faultM l).Err) one25 (h7.ext e4) (by omega) rfl rfl ?_
    refine rnu_st (b := b4) (o := 0) rfl (h4'.ext e4) (TTables.cells noT) sz53 rfl (oc_tab _) (by simp [TTables.cells]) fun w5 c5 s5 hb5 => ?_
    replace hb5 : Blk w5 b4 53 (TTables.cells noT) := hb5
    refine ⟨c5, ?_⟩
    refine rnr_ldN (x := noT) many53 hb5.whole rfl rfl ?_
    refine ⟨(E3.trans e4).then c5 (fun b hb => by omega), hz.symm, ?_⟩
    unfold ansC; rw [if_pos (.inr c0)]; exact TabD.none _ _
  refine iteF c0 ?_
  have c0 : (faultM l).Err = 0 := by simpa using c0
  have hf := fault_err c0
  have hru := fault_ruled c0
  have hfew := hf.few
  have hrl : rs.length ≤ 64 := by rw [h.len]; exact hfew
  have hans : ansC v l = ⟨v, hostsS l, servS l⟩ := if_neg (fun h => h.elim c (fun h => h c0))
  refine New.var (TTables.cells ⟨v, Sl.nil, Sl.nil⟩) sz53 rfl (oc_tab _) rfl fun b8 w4 e4 h8 nb8 => ?_
  have E4 := E3.trans e4
  have g4 := e4.size
  refine (allMap_ok (h.ext E4) hf).mono ?_
  rintro _ w5 ⟨e5, bm, m, rfl, hbm, hD, hall⟩
  have g5 := e5.size
  refine (named_ok (h.rd.ext (E4.trans e5)) 3 (by omega)).mono ?_
  rintro t37 w6 ⟨e6, O6⟩
  have g6 := e6.size
  have E6 := (E4.trans e5).trans e6
  have hT := O6.rd (F := fun b => w5.heap.size ≤ b ∧ b < w6.heap.size) (fun b hb => O6.ge hb)
  have hcon : ∀ {w'}, Ext w w' → ConfD (fun b => b < w.heap.size) w' s rs l := fun e => (hlow.mono fun b hb => hb.2).ext e
  have hel : ∀ {w'}, Ext w w' → All2 (ResD (fun b => b < w.heap.size) w') (ofKind 3 rs) (dk 3 l) := fun e => (hcon e).kind2 3
  have hmem : ∀ d ∈ dk 3 l, d ∈ l ∧ d.kind = 3 := fun d hd => by
    obtain ⟨h1, h2⟩ := List.mem_filter.1 hd
    exact ⟨h1, by simpa using h2⟩
  have hlen := dk_len 3 l
  have hhosts : hostsS l = stb ltD ((dk 3 l).map (hostD l)) := rfl
  generalize hts : ofKind 3 rs = ts at hT hel
  generalize hds : dk 3 l = ds at hel hmem hlen hhosts
  have hAl := (hel (Ext.refl _)).len
  clear O6
  have hW0 : TW w3.heap.size b8 w6 v Sl.nil Sl.nil [] [] [] := ⟨(h8.ext e5).ext e6, nb8, Own.nil_ _ _, Own.nil_ _ _, (fun b ⟨a, ha, _⟩ => by cases ha), (fun b ⟨a, ha, _⟩ => by cases ha), (fun b ⟨a, ha, _⟩ => by cases ha), trivial⟩
  refine Lp.mk (fun (i : Int) w' => ∃ (k : Nat) (hs : Sl) (xs : List THost), i = k ∧ k ≤ ts.length ∧ Ext w6 w6 ∧ Chg (fun b => b = b8 ∨ w6.heap.size ≤ b) w6 w' ∧ (∀ b, own? hs b → w6.heap.size ≤ b) ∧ TW w3.heap.size b8 w' v hs Sl.nil xs ((ds.take k).map (hostD l)) []) (fun i => ts.length - i.toNat)
    ⟨0, _, _, rfl, Nat.zero_le _, Ext.refl _, Chg.refl _ _, (fun b ⟨a, ha, _⟩ => by cases ha), hW0⟩ ?_
  clear hW0
  rintro i w7 K ⟨k, hs, xs, rfl, hk, _, C7, hn7, hW⟩ hK
  have E7 : Ext w w7 := E6.then C7 (fun b hb => by omega)
  have g7 := C7.size
  have l8 := h8.lt
  have hT7 := hT.chg C7 (fun b hb _ hs => by omega)
  by_cases hlt : k < ts.length
  · rw [if_pos (by rw [hT.len]; omega)]
    have hkd : k < ds.length := by omega
    refine rnp_idx sl22 hT7 hlt rfl fun p _ hp => ?_
    refine rn_ldN (x := ts[k]) many48 hp rfl rfl ?_
    refine New.var (TResource.cells ts[k]) sz48 rfl (oc_res _) rfl fun b11 w8 e8 h11 nb11 => ?_
    refine Dr.mk fun w9 e9 _ => ?_
    have e79 := e8.trans e9
    have hW9 := hW.ext e79
    have g79 := e79.size
    refine rnl_blk (x := hs) one51 hW9.hb rfl rfl ?_
    refine rnl_ldN (x := ts[k]) many48 (h11.ext e9).whole rfl rfl ?_
    have E9 := E7.trans e79
    obtain ⟨hd1, hd2⟩ := hmem _ (List.getElem_mem hkd)
    have bmlt := hD.mp.lt
    have hD9 : DoneI (fun b => b < w4.heap.size) l bm w9 m := ((hD.ext e6).chg C7 (fun hb => by omega) (fun b hb hS => by rcases hS with hS | hS <;> omega) (fun _ _ h => h)).ext e79
    refine (host_ok76 (hcon E9) hf hru ht hD9 hall ((hel E9).get k hlt hkd) hd1 hd2).mono ?_
    rintro x w10 ⟨e10, hx⟩
    refine ⟨e10, ?_⟩
    have g10 := e10.size
    have hxl : xs.length = k := by rw [hW.el.len]; simp; omega
    refine TW.host (hW9.ext e10) (x := x) (d := hostD l ds[k]) (hx.mono fun b hb => ?_) (by omega) (by omega) fun w11 hs' c11 hW11 no11 => ?_
    · have l7 := hW.hb.lt
      refine ⟨⟨by omega, hb.2⟩, by omega, fun ho => ?_, fun ⟨a, ha, _⟩ => by cases ha⟩
      have := (hW.ho.ge ho).2; omega
    · rw [hT.wr hlt]
      have c711 : Chg (fun b => b = b8 ∨ w6.heap.size ≤ b) w7 w11 := ((e79.trans e10).chg _).trans (c11.mono fun b _ hb => hb.imp id fun h => hn7 b h)
      refine hK _ _ ⟨k + 1, hs', xs ++ [x], rfl, hlt, Ext.refl _, C7.trans c711, fun b hb => ?_, ?_⟩ (by omega)
      · rcases no11 b hb with h | h
        · exact hn7 b h
        · omega
      · rw [List.take_add_one, List.getElem?_eq_getElem hkd, List.map_append]
        exact hW11
  · rw [if_neg (by rw [hT.len]; omega)]
    obtain rfl : k = ts.length := by omega
    rw [hAl, List.take_length] at hW
    clear hK
    refine rn_blk (x := hs) one51 hW.hb rfl rfl ?_
    have hQ : ∀ y ∈ xs, y.Host.size ≤ maxLen := fun y hy => by
      obtain ⟨i, hi, rfl⟩ := List.mem_iff_getElem.1 hy
      have hi' : i < (ds.map (hostD l)).length := by rw [← hW.el.len]; exact hi
      have := (hW.el.get i hi hi').host
      rw [this, List.getElem_map]
      exact hh _ (hmem _ (List.getElem_mem _)).1
    have hxl : xs.length ≤ 64 := by rw [hW.el.len, List.length_map]; omega
    refine (sortStableHost_ok hostCmp_ok wo_host (by omega) hW.ho hQ).mono ?_
    rintro _ w8 ⟨c8, O8⟩
    have hel8 := (hW.carry c8 fun b hb => .inl hb).stb (lt := ltH) (lt' := ltD) fun x x' y y' h h' => h.ltE h'
    rw [← hhosts] at hel8
    have hW8 : TW w3.heap.size b8 w8 v hs Sl.nil (stb ltH xs) (hostsS l) [] := ⟨hW.hb.chg c8 (fun ho => hW.h8 _ ho rfl), hW.lo, O8, Own.nil_ _ _, hW.h8, hW.s8, hW.hsn, hel8⟩
    have g8 := c8.size
    have E8 : Ext w w8 := E7.then c8 (fun b hb => by have := hn7 b hb; omega)
    have h4w : Blk w8 b4 53 (TTables.cells noT) := (((((h4'.ext e4).ext e5).ext e6).chg C7 (by omega)).chg c8 (fun ho => by have := hn7 _ ho; omega))
    clear hW hel8 O8
    refine (named_ok (h.rd.ext E8) 1 (by omega)).mono ?_
    rintro t57 w9 ⟨e9, O9⟩
    have g9 := e9.size
    have E9 := E8.trans e9
    have hT2 := O9.rd (F := fun b => w8.heap.size ≤ b ∧ b < w9.heap.size) (fun b hb => O9.ge hb)
    have hel2 := (hcon (Ext.refl _)).kind2 1
    have hln2 := dk_len 1 l
    have hserv : servS l = (dk 1 l).map (·.name) := rfl
    generalize ofKind 1 rs = t2 at hT2 hel2
    generalize dk 1 l = d2 at hel2 hln2 hserv
    have hA2 := hel2.len
    clear O9
    refine Lp.mk (fun (i : Int) w' => ∃ (k : Nat) (ss : Sl), i = k ∧ k ≤ t2.length ∧ Ext w9 w9 ∧ Chg (fun b => b = b8 ∨ w9.heap.size ≤ b) w9 w' ∧ (∀ b, own? ss b → w9.heap.size ≤ b) ∧ TW w3.heap.size b8 w' v hs ss (stb ltH xs) (hostsS l) ((d2.take k).map (·.name))) (fun i => t2.length - i.toNat)
      ⟨0, _, rfl, Nat.zero_le _, Ext.refl _, Chg.refl _ _, (fun b ⟨a, ha, _⟩ => by cases ha), hW8.ext e9⟩ ?_
    rintro i w10 K ⟨k, ss, rfl, hk, _, C10, hn10, hW⟩ hK
    have E10 : Ext w w10 := E9.then C10 (fun b hb => by omega)
    have g10 := C10.size
    have hT10 := hT2.chg C10 (fun b hb _ hs => by omega)
    by_cases hlt : k < t2.length
    · rw [if_pos (by rw [hT2.len]; omega)]
      have hkd : k < d2.length := by omega
      refine rnp_idx sl22 hT10 hlt rfl fun p _ hp => ?_
      refine rn_ldN (x := t2[k]) many48 hp rfl rfl ?_
      refine New.var (TResource.cells t2[k]) sz48 rfl (oc_res _) rfl fun b13 w11 e11 h13 nb13 => ?_
      have g11 := e11.size
      have hW11 := hW.ext e11
      refine rn_blk (x := ss) one44 hW11.hb rfl rfl ?_
      refine rn_blk (x := t2[k].Name) one9 h13 rfl rfl ?_
      refine TW.serv hW11 (x := t2[k].Name) (by simp; omega) (by omega) fun w12 ss' c12 hW12 no12 => ?_
      rw [hT2.wr hlt]
      have c1012 : Chg (fun b => b = b8 ∨ w9.heap.size ≤ b) w10 w12 := (e11.chg _).trans (c12.mono fun b _ hb => hb.imp id fun h => hn10 b h)
      refine hK _ _ ⟨k + 1, ss', rfl, hlt, Ext.refl _, C10.trans c1012, fun b hb => ?_, ?_⟩ (by omega)
      · rcases no12 b hb with h | h
        · exact hn10 b h
        · omega
      · rw [List.take_add_one, List.getElem?_eq_getElem hkd, List.map_append]
        have hnm := (hel2.get k hlt hkd).name
        rw [hnm] at hW12
        exact hW12
    · rw [if_neg (by rw [hT2.len]; omega)]
      obtain rfl : k = t2.length := by omega
      rw [hA2, List.take_length, ← hserv] at hW
      refine rn_blkN (x := (⟨v, hs, ss⟩ : TTables)) many53 hW.hb rfl rfl ?_
      refine rnu_st (b := b4) (o := 0) rfl ((h4w.ext e9).chg C10 (by omega)) (TTables.cells ⟨v, hs, ss⟩) sz53 rfl (oc_tab _) (by simp [TTables.cells]) fun w11 c11 s11 hb11 => ?_
      replace hb11 : Blk w11 b4 53 (TTables.cells ⟨v, hs, ss⟩) := hb11
      refine rnr_ldN (x := (⟨v, hs, ss⟩ : TTables)) many53 hb11.whole rfl rfl ?_
      have hR := hW.done.chg c11 (fun b hb _ e => by omega)
      have g11 := c11.size
      refine ⟨E10.then c11 (fun b hb => by omega), ?_, ?_⟩
      · rw [hz, c0]
      · rw [hans]; exact hR.mono fun b hb => ⟨by omega, by omega⟩
end
end Go.Proofs.Ytdoeegfcmbcbkaa.Ct


namespace Go.Proofs.Ytdoeegfcmbcbkaa.Ct
open Go Go.Eng Tr
set_option linter.unusedVariables false
set_option maxRecDepth 100000

structure KnL (N : Nat) (l : List DRes) (b9 : Nat) (w : World) (sn sq : Sl) (ns : List ByteArray) (qs : List Sl) : Prop where
  b : b9 < N
  hb9 : Blk w b9 109 (TKnown15.cells ⟨sn, sq⟩)
  hns : Rd bs 1 (fun b => b < N) w sn ns
  hqs : Rd sls 1 (fun b => b < N) w sq qs
  len : ns.length = qs.length
  el : ∀ i (h : i < ns.length) (h' : i < qs.length), ∃ xs, Rd TShare.cells 2 (fun b => b < N) w qs[i] xs ∧ ShD xs (shF l ns[i])
section
variable {w w' : World} {N b9 : Nat} {sn sq : Sl} {l : List DRes} {ns : List ByteArray} {qs : List Sl} {S : Nat → Prop}
theorem KnR.low (h : KnR l b9 w sn sq ns qs) : KnL w.heap.size l b9 w sn sq ns qs :=
  ⟨h.hb9.lt, h.hb9, (Rd.low h.hns (fun _ => by simp [bs])).mono fun b hb => hb.2, (Rd.low h.hqs (fun _ => by simp [sls])).mono fun b hb => hb.2, h.len, fun i a b => let ⟨xs, r, d⟩ := h.el i a b; ⟨xs, (Rd.low r (fun _ => by simp [TShare.cells])).mono fun b hb => hb.2, d⟩⟩
theorem KnL.chg (h : KnL N l b9 w sn sq ns qs) (k : Chg S w w') (hS : ∀ b, b < N → ¬ S b) : KnL N l b9 w' sn sq ns qs :=
  ⟨h.b, h.hb9.chg k (hS _ h.b), h.hns.chg k (fun b hb _ => hS b hb), h.hqs.chg k (fun b hb _ => hS b hb), h.len, fun i a b => let ⟨xs, r, d⟩ := h.el i a b; ⟨xs, r.chg k (fun b hb _ => hS b hb), d⟩⟩
theorem KnL.ext (h : KnL N l b9 w sn sq ns qs) (k : Ext w w') : KnL N l b9 w' sn sq ns qs := h.chg (k.chg fun _ => False) (fun _ _ h => h)
theorem KnL.r (h : KnL N l b9 w sn sq ns qs) : KnR l b9 w sn sq ns qs := ⟨h.hb9, h.hns.mono fun _ _ => trivial, h.hqs.mono fun _ _ => trivial, h.len, fun i a b => let ⟨xs, r, d⟩ := h.el i a b; ⟨xs, r.mono fun _ _ => trivial, d⟩⟩
end
theorem dk_succ {l : List DRes} {c : Int} {k : Nat} (h : k < l.length) : dk c (l.take (k + 1)) = dk c (l.take k) ++ if l[k].kind = c then [l[k]] else [] := by
  unfold dk
  rw [List.take_add_one, List.getElem?_eq_getElem h, List.filter_append]
  by_cases e : l[k].kind = c <;> simp [e]
def hk (l : List DRes) (k : Nat) : List DHost := stb ltD ((dk 3 (l.take k)).map (hostD l))
def sk (l : List DRes) (k : Nat) : List ByteArray := (dk 1 (l.take k)).map (·.name)
theorem hk_yes {l : List DRes} {k : Nat} (h : k < l.length) (h3 : l[k].kind = 3) : hk l (k + 1) = ins ltD (hostD l l[k]) (hk l k) := by
  unfold hk; rw [dk_succ h, if_pos h3, List.map_append]; exact stb_snoc _ _
theorem hk_no {l : List DRes} {k : Nat} (h : k < l.length) (h3 : l[k].kind ≠ 3) : hk l (k + 1) = hk l k := by
  unfold hk; rw [dk_succ h, if_neg h3, List.append_nil]
theorem sk_yes {l : List DRes} {k : Nat} (h : k < l.length) (h1 : l[k].kind = 1) : sk l (k + 1) = sk l k ++ [l[k].name] := by
  unfold sk; rw [dk_succ h, if_pos h1, List.map_append]; rfl
theorem sk_no {l : List DRes} {k : Nat} (h : k < l.length) (h1 : l[k].kind ≠ 1) : sk l (k + 1) = sk l k := by
  unfold sk; rw [dk_succ h, if_neg h1, List.append_nil]
def rul4 (n : ByteArray) (d : DRes) : List TRule := if d.kind = 4 ∧ d.route = n then d.rules else []
def toP (r : TRule) : TPermit := ⟨r.Path, r.Method, r.Allow⟩
theorem perm4 (n : ByteArray) : ∀ l : List DRes, (l.flatMap fun d => (rul4 n d).map toP) = (dk 4 l).flatMap (permAt n)
  | [] => rfl
  | d :: l => by
    have ih := perm4 n l
    unfold dk at *
    rw [List.flatMap_cons, ih, List.filter_cons]
    unfold rul4
    by_cases c : d.kind = 4
    · have hc : decide (d.kind = 4) = true := by simpa using c
      rw [if_pos hc, List.flatMap_cons]
      congr 1
      unfold permAt
      by_cases c' : d.route = n
      · rw [if_pos ⟨c, c'⟩, if_pos c']; rfl
      · rw [if_neg (fun h => c' h.2), if_neg c']; rfl
    · have hc : ¬ decide (d.kind = 4) = true := by simpa using c
      rw [if_neg hc, if_neg (fun h => c h.1)]; rfl
theorem rul4_len (n : ByteArray) : ∀ l : List DRes, (l.flatMap fun d => (rul4 n d).map toP).length ≤ tot l
  | [] => Nat.le_refl _
  | d :: l => by
    have := rul4_len n l
    have h0 : (rul4 n d).length ≤ d.rules.length := by unfold rul4; split <;> simp
    simp only [List.flatMap_cons, List.length_append, List.length_map, tot, List.map_cons, List.sum_cons] at *
    omega
theorem wo_ltD : WO ltD :=
  let f : DHost → THost := fun d => ⟨d.host, d.host, Sl.nil, Sl.nil⟩
  ⟨fun x => wo_host.irr (f x), fun x y z => wo_host.tr (f x) (f y) (f z), fun x y z => wo_host.ntr (f x) (f y) (f z)⟩
section
variable {w : World} {F : Nat → Prop} {s : Sl} {rs : List TResource} {l : List DRes}
theorem refCompile_ok (h : ConfD F w s rs l) (hft : Fit l) (ht : tot l ≤ 1048576) (hh : ∀ d ∈ l, d.host.size ≤ maxLen) (v : Int) :
    Cal PP (fun x : TTables × Int => Value.tuple #[TTables.v x.1, .int .i64 x.2]) 36 #[.int .i64 v, s.v] w fun x w' => Ext w w' ∧ x.2 = errC v l ∧ TabD (fun b => w.heap.size ≤ b ∧ b < w'.heap.size) w' x.1 (ansC v l) := by
  have hlow := h.low
  refine c36 ?_
  unfold f36
  refine New.mk fun b4 w1 e1 h4 n4 s4 => ?_
  refine ⟨fun x w' => w' = w1 ∧ x = decide (v < 1 ∨ 1048576 < v), ?_, ?_⟩
  · by_cases c : v < 1
    · exact iteT c ⟨rfl, by simp [c]⟩
    · exact iteF c ⟨rfl, by simp [c]⟩
  rintro _ w2 ⟨hw2, rfl⟩
  obtain rfl : w1 = w2 := hw2.symm
  by_cases c : v < 1 ∨ 1048576 < v
  · refine iteT (by simpa using c) ?_
    refine rnu_st (b := b4) (o := 0) rfl h4 (TTables.cells noT) sz53 rfl (oc_tab _) (by simp [TTables.cells]) fun w2 c2 s2 hb2 => ?_
    replace hb2 : Blk w2 b4 53 (TTables.cells noT) := hb2
    refine rnr_ldN (x := noT) many53 hb2.whole rfl rfl ?_
    refine ⟨e1.then c2 (fun b hb => by omega), ?_, ?_⟩
    · unfold errC; rw [if_pos c]
    · unfold ansC; rw [if_pos (.inl c)]; exact TabD.none _ _
  refine iteF (by simpa using c) ?_
  refine (refCheck_ok (h.ext e1) hft).mono ?_
  rintro ⟨x, f⟩ w2 ⟨e2, hfl⟩
  dsimp only at hfl ⊢
  subst hfl
  refine New.var (TFault14.cells (toRef (faultM l))) sz101 rfl (oc_fault14 _) rfl fun b7 w3 e3 h7 nb7 => ?_
  have h4' := (h4.ext e2).ext e3
  have g1 := e1.size; have g2 := e2.size; have g3 := e3.size
  have l4 := h4.lt
  have E3 := (e1.trans e2).trans e3
  refine rn_blk (x := (faultM l).Err) one3 h7 rfl rfl ?_
  have hz : errC v l = (faultM l).Err := if_neg c
  by_cases c0 : (faultM l).Err ≠ 0
  · refine iteT c0 ?_
    refine Dr.mk fun w4 e4 _ => ?_
    refine rnc_blk (x := (faultM l).Err) one3 (h7.ext e4) (by omega) rfl rfl ?_
    refine rnu_st (b := b4) (o := 0) rfl (h4'.ext e4) (TTables.cells noT) sz53 rfl (oc_tab _) (by simp [TTables.cells]) fun w5 c5 s5 hb5 => ?_
    replace hb5 : Blk w5 b4 53 (TTables.cells noT) := hb5
    refine ⟨c5, ?_⟩
    refine rnr_ldN (x := noT) many53 hb5.whole rfl rfl ?_
    refine ⟨(E3.trans e4).then c5 (fun b hb => by omega), hz.symm, ?_⟩
    unfold ansC; rw [if_pos (.inr c0)]; exact TabD.none _ _
  refine iteF c0 ?_
  have c0 : (faultM l).Err = 0 := by simpa using c0
  have hf := fault_err c0
  have hru := fault_ruled c0
  have hfew := hf.few
  have hans : ansC v l = ⟨v, hostsS l, servS l⟩ := if_neg (fun h => h.elim c (fun h => h c0))
  refine (refAll_ok (h.ext E3) hf).mono ?_
  rintro _ w4 ⟨e4, bk, sn, sq, ns, qs, rfl, hbk, hKr, hkn, _⟩
  have hKn := hKr.low
  clear hKr
  have g4 := e4.size
  have E4 := E3.trans e4
  refine New.var (TTables.cells ⟨v, Sl.nil, Sl.nil⟩) sz53 rfl (oc_tab _) rfl fun b9 w5 e5 h9 nb9 => ?_
  have g5 := e5.size
  have E5 := E4.trans e5
  have hcon : ∀ {w'}, Ext w w' → ConfD (fun b => b < w.heap.size) w' s rs l := fun e => (hlow.mono fun b hb => hb.2).ext e
  replace hKn := hKn.ext e5
  have hN : w.heap.size ≤ w4.heap.size := E4.size
  generalize hNe : w4.heap.size = N at nb9 hKn g5 hN
  have h4N : b4 < N := by omega
  have hEN : ∀ {w'}, Chg (fun b => N ≤ b) w5 w' → Ext w w' := fun c => E5.then c (fun b hb => by omega)
  have hW0 : TW N b9 w5 v Sl.nil Sl.nil [] (hk l 0) (sk l 0) := ⟨h9, nb9, Own.nil_ _ _, Own.nil_ _ _, (fun b ⟨a, ha, _⟩ => by cases ha), (fun b ⟨a, ha, _⟩ => by cases ha), (fun b ⟨a, ha, _⟩ => by cases ha), trivial⟩
  refine Lp.mk (fun (i : Int) w' => ∃ (k : Nat) (hs ss : Sl) (xs : List THost), i = k ∧ k ≤ l.length ∧ Chg (fun b => N ≤ b) w5 w' ∧ TW N b9 w' v hs ss xs (hk l k) (sk l k)) (fun i => l.length - i.toNat)
    ⟨0, _, _, _, rfl, Nat.zero_le _, Chg.refl _ _, hW0⟩ ?_
  clear hW0
  rintro i w6 K ⟨k, hs, ss, xs, rfl, hkl, C6, hW⟩ hK
  by_cases hlt : k < l.length
  · rw [if_pos (by rw [h.n]; omega)]
    refine ⟨fun _ w' => ∃ (hs ss : Sl) (xs : List THost), Chg (fun b => N ≤ b) w5 w' ∧ TW N b9 w' v hs ss xs (hk l (k + 1)) (sk l (k + 1)), ?_, ?_⟩
    · refine ⟨fun _ w' => ∃ (ss : Sl), Chg (fun b => N ≤ b) w5 w' ∧ TW N b9 w' v hs ss xs (hk l k) (sk l (k + 1)), ?_, ?_⟩
      · refine (hcon (hEN C6)).idx hlt rfl fun p r _ hp hr => ?_
        refine rn_at (x := r.Kind) one3 hp rfl ?_
        rw [hr.kind]
        by_cases c1 : l[k].kind = 1
        · refine iteT c1 ?_
          refine Dr.mk fun w7 e7 _ => ?_
          have hW7 := hW.ext e7
          have C7 := C6.thenE e7
          refine rnl_blk (x := ss) one44 hW7.hb rfl rfl ?_
          refine (hcon (hEN C7)).idx hlt rfl fun p r _ hp hr => ?_
          refine rnl_at (x := r.Name) one9 hp rfl ?_
          rw [hr.name]
          have hsl : (sk l k).length ≤ 64 := by
            have := dk_len 1 (l.take k)
            rw [List.length_take] at this
            unfold sk; rw [List.length_map]; omega
          refine TW.serv hW7 (x := l[k].name) (by omega) (by have := C7.size; omega) fun w8 ss' c8 hW8 n8 => ?_
          refine ⟨ss', C7.trans (c8.mono fun b _ hb => ?_), by rw [sk_yes hlt c1]; exact hW8⟩
          rcases hb with hb | hb
          · subst hb; exact nb9
          · exact (hW7.so.ge hb).1
        · refine iteF c1 ⟨ss, C6, by rw [sk_no hlt c1]; exact hW⟩
      clear hW C6
      rintro _ w6 ⟨ss, C6, hW⟩
      refine (hcon (hEN C6)).idx hlt rfl fun p r _ hp hr => ?_
      refine rn_at (x := r.Kind) one3 hp rfl ?_
      rw [hr.kind]
      by_cases c3 : l[k].kind ≠ 3
      · exact iteT c3 ⟨hs, ss, xs, C6, by rw [hk_no hlt c3]; exact hW⟩
      refine iteF c3 ?_
      have c3 : l[k].kind = 3 := by simpa using c3
      refine Dr.mk fun w7 e7 _ => ?_
      replace hW := hW.ext e7
      replace C6 := C6.thenE e7
      clear hr hp e7
      refine (hcon (hEN C6)).idx hlt rfl fun p r _ hp hr => ?_
      refine rnl_at (x := r.Host) one9 hp rfl ?_
      rw [hr.host]
      refine (hcon (hEN C6)).idx hlt rfl fun p r _ hp hr => ?_
      refine rnl_at (x := r.Name) one9 hp rfl ?_
      rw [hr.name]
      clear hr hp
      have hdl : l[k] ∈ l := List.getElem_mem hlt
      have hhost : hostD l l[k] = ⟨l[k].host, l[k].name, l[k].rules.map (entD l), permS l l[k].name⟩ := rfl
      have hidx : ∀ {w'}, Chg (fun b => N ≤ b) w5 w' → ∀ {i : Int}, i = k → ∀ {K : Addr → Prop}, (∀ p r, At w' p (TResource.cells r) → ResD (fun b => b < w.heap.size) w' r l[k] → K p) → RnP PP Ptr (Instr.indexAt 22 (Sl.v s) (.int .i64 i)) K := fun c i hi K hK => (hcon (hEN c)).idx hlt hi fun p r _ => hK p r
      have hdr : l[k].rules.length ≤ tot l := by have := tot_upto l k hlt; omega
      have hyes := hk_yes hlt c3
      have hrd := hru _ hdl c3
      have hhd := hh _ hdl
      rw [hyes, hhost]
      clear hyes hhost
      generalize l[k] = d at hidx hdr hrd hdl hhd
      have gM := C6.size
      refine New.var (THost.cells ⟨d.host, d.name, Sl.nil, Sl.nil⟩) sz59 rfl (oc_host _) rfl fun b11 w8 e8 h11 nb11 => ?_
      have hM0 := hW.hb.lt
      generalize hMe : w7.heap.size = M at nb11 gM hM0
      have hCN : ∀ {w'}, Chg (fun b => M ≤ b) w8 w' → Chg (fun b => N ≤ b) w5 w' := fun c => (C6.thenE e8).trans (c.mono fun b _ hb => by omega)
      have g8 := e8.size
      have hH0 : HW M b11 w8 d.host d.name Sl.nil Sl.nil [] [] [] := ⟨h11, nb11, Own.nil_ _ _, Own.nil_ _ _, (fun b ⟨a, ha, _⟩ => by cases ha), (fun b ⟨a, ha, _⟩ => by cases ha), (fun b ⟨a, ha, _⟩ => by cases ha), trivial⟩
      refine Lp.mk (fun (i : Int) w' => ∃ (q : Nat) (es : Sl) (zs : List TEntry), i = q ∧ q ≤ d.rules.length ∧ Chg (fun b => M ≤ b) w8 w' ∧ HW M b11 w' d.host d.name es Sl.nil zs ((d.rules.take q).map (entD l)) []) (fun i => d.rules.length - i.toNat)
        ⟨0, _, _, rfl, Nat.zero_le _, Chg.refl _ _, hH0⟩ ?_
      clear hH0
      rintro i w9 K2 ⟨q, es, zs, rfl, hq, C9, hH⟩ hK2
      have g9 := C9.size
      refine hidx (hCN C9) rfl fun p r hp hr => ?_
      refine rn_at (x := r.Rules) one46 hp rfl ?_
      by_cases hlq : q < d.rules.length
      · rw [if_pos (by rw [hr.rules.len]; omega)]
        refine hidx (hCN C9) rfl fun p r hp hr => ?_
        refine rn_at (x := r.Rules) one46 hp rfl ?_
        refine rnp_idx sl46 hr.rules hlq rfl fun p _ hp => ?_
        refine rn_ldN (x := d.rules[q]) many91 hp rfl rfl ?_
        refine New.var (TRule.cells d.rules[q]) sz91 rfl (oc_rule _) rfl fun b13 w10 e10 h13 nb13 => ?_
        refine Dr.mk fun w11 e11 _ => ?_
        have E11 := e10.trans e11
        have hH11 := hH.ext E11
        have h13' := h13.ext e11
        have g11 := E11.size
        have C11 := C9.thenE E11
        have hKn11 := hKn.chg (hCN C11) (fun b hb => by omega)
        refine rnl_blk (x := es) one56 hH11.hb rfl rfl ?_
        refine rnl_blk (x := d.rules[q].Path) one9 h13' rfl rfl ?_
        refine rnl_blk (x := d.rules[q].Method) one9 h13' rfl rfl ?_
        refine ⟨_, rfl, ?_⟩
        refine rnl_blk (x := sq) one107 hKn11.hb9 rfl rfl ?_
        refine rnl_blk (x := d.rules[q].Split) one9 h13' rfl rfl ?_
        refine (at_ok hKn11.r d.rules[q].Split).mono ?_
        rintro _ w12 ⟨hw12, rfl⟩
        obtain rfl : w11 = w12 := hw12.symm
        refine ⟨Ext.refl _, ?_⟩
        have hsp := hrd _ (List.getElem_mem hlq)
        have hin := hkn _ hsp
        rcases atN_cases ns d.rules[q].Split with ⟨hx, hno⟩ | ⟨j, hj, hx, hnj⟩
        · exact absurd hin hno
        have hjq : j < qs.length := by rw [← hKn.len]; exact hj
        refine rnp_idx sl107 hKn11.hqs hjq hx fun p _ hp => ?_
        refine rn_at0 one23 hp ?_
        refine ⟨Ext.refl _, ?_⟩
        obtain ⟨ys, ry, dy⟩ := hKn11.el j hj hjq
        rw [hnj] at dy
        have hok := (sh_ok hf.stand 9 d.rules[q].Split).len
        refine (refSteps_ok ry dy (by unfold shF; omega)).mono ?_
        rintro t36 w12 ⟨e12, us, O12, d12⟩
        refine ⟨e12, ?_⟩
        have g12 := e12.size
        have hxl : zs.length = q := by rw [hH.el.len]; simp; omega
        refine HW.entry (hH11.ext e12) (x := ⟨d.rules[q].Path, d.rules[q].Method, t36⟩) (d := entD l d.rules[q]) ⟨rfl, rfl, us, O12.rd fun b hb => ?_, d12⟩ (by omega) (by omega) fun w13 es' c13 hH13 => ?_
        · have q1 := O12.ge hb
          have h7lt := hH.hb.lt
          refine ⟨⟨by omega, q1.2⟩, by omega, fun ho => ?_, fun ⟨a, ha, _⟩ => by cases ha⟩
          have h9 := (hH.eo.ge ho).2; omega
        · rw [hr.rules.wr hlq]
          have c48 : Chg (fun b => M ≤ b) w9 w13 := ((E11.trans e12).chg _).trans (c13.mono fun b _ hb => by
            rcases hb with hb | hb
            · subst hb; exact hH.lo
            · exact (hH.eo.ge hb).1)
          refine hK2 _ _ ⟨q + 1, es', zs ++ [⟨d.rules[q].Path, d.rules[q].Method, t36⟩], rfl, hlq, C9.trans c48, ?_⟩ (by omega)
          rw [List.take_add_one, List.getElem?_eq_getElem hlq, List.map_append]
          exact hH13
      rw [if_neg (by rw [hr.rules.len]; omega)]
      obtain rfl : q = d.rules.length := by omega
      rw [List.take_length] at hH
      clear hK2 hp hr
      -- permits
      refine Lp.mk (fun (i : Int) w' => ∃ (j : Nat) (ps : Sl), i = j ∧ j ≤ l.length ∧ Chg (fun b => M ≤ b) w8 w' ∧ HW M b11 w' d.host d.name es ps zs (d.rules.map (entD l)) ((l.take j).flatMap fun x => (rul4 d.name x).map toP)) (fun i => l.length - i.toNat)
        ⟨0, _, rfl, Nat.zero_le _, C9, hH⟩ ?_
      clear hH C9 g9
      rintro i w10 K2 ⟨j, ps, rfl, hj, C10, hH⟩ hK2
      have g10 := C10.size
      by_cases hlj : j < l.length
      · rw [if_pos (by rw [h.n]; omega)]
        have hupto := tot_upto l j hlj
        have hpl := rul4_len d.name (l.take j)
        have hrl : (rul4 d.name l[j]).length ≤ l[j].rules.length := by unfold rul4; split <;> simp
        have hjdx : ∀ {w'}, Chg (fun b => N ≤ b) w5 w' → ∀ {i : Int}, i = j → ∀ {K : Addr → Prop}, (∀ p r, At w' p (TResource.cells r) → ResD (fun b => b < w.heap.size) w' r l[j] → K p) → RnP PP Ptr (Instr.indexAt 22 (Sl.v s) (.int .i64 i)) K := fun c i hi K hK => (hcon (hEN c)).idx hlj hi fun p r _ => hK p r
        refine Lp.mk (fun (i : Int) w' => ∃ (q : Nat) (ps' : Sl), i = q ∧ q ≤ (rul4 d.name l[j]).length ∧ Chg (fun b => M ≤ b) w8 w' ∧ HW M b11 w' d.host d.name es ps' zs (d.rules.map (entD l)) (((l.take j).flatMap fun x => (rul4 d.name x).map toP) ++ ((rul4 d.name l[j]).take q).map toP)) (fun i => (rul4 d.name l[j]).length - i.toNat)
          ⟨0, ps, rfl, Nat.zero_le _, C10, by simpa using hH⟩ ?_
        clear hH C10 g10
        rintro i w11 K3 ⟨q, ps', rfl, hq, C11, hH⟩ hK3
        have g11 := C11.size
        refine ⟨fun x w' => Ext w11 w' ∧ x = decide (q < (rul4 d.name l[j]).length), ?_, ?_⟩
        · refine Dr.mk fun w12 e12 _ => ?_
          have C12 := C11.thenE e12
          refine hjdx (hCN C12) rfl fun p r hp hr => ?_
          refine rnl_at (x := r.Kind) one3 hp rfl ?_
          rw [hr.kind]
          unfold rul4
          by_cases c4 : l[j].kind = 4
          · refine iteT c4 ?_
            refine hjdx (hCN C12) rfl fun p r hp hr => ?_
            refine rnl_at (x := r.Route) one9 hp rfl ?_
            rw [hr.route]
            refine hidx (hCN C12) rfl fun p r hp hr => ?_
            refine rnl_at (x := r.Name) one9 hp rfl ?_
            rw [hr.name]
            by_cases c5 : l[j].route = d.name
            · refine iteT c5 ?_
              refine hjdx (hCN C12) rfl fun p r hp hr => ?_
              refine rnl_at (x := r.Rules) one46 hp rfl ?_
              refine ⟨e12, ?_⟩
              rw [if_pos ⟨c4, c5⟩, hr.rules.len]
              by_cases cq : q < l[j].rules.length
              · have : (q : Int) < (l[j].rules.length : Nat) := by omega
                simp [cq, this]
              · have : ¬ (q : Int) < (l[j].rules.length : Nat) := by omega
                simp [cq, this]
            · refine iteF c5 ⟨e12, ?_⟩
              rw [if_neg (fun h => c5 h.2)]; simp
          · refine iteF c4 ⟨e12, ?_⟩
            rw [if_neg (fun h => c4 h.1)]; simp
        rintro _ w12 ⟨e12, rfl⟩
        replace C11 := C11.thenE e12
        replace hH := hH.ext e12
        have g12 := e12.size
        by_cases hlq : q < (rul4 d.name l[j]).length
        · refine iteT (by simpa using hlq) ?_
          have hrr : rul4 d.name l[j] = l[j].rules := by
            unfold rul4 at hlq ⊢
            by_cases cc : l[j].kind = 4 ∧ l[j].route = d.name
            · rw [if_pos cc]
            · rw [if_neg cc] at hlq; simp at hlq
          rw [hrr] at hlq hrl hK3 hH hq
          refine hjdx (hCN C11) rfl fun p r hp hr => ?_
          refine rn_at (x := r.Rules) one46 hp rfl ?_
          refine rnp_idx sl46 hr.rules hlq rfl fun p _ hp => ?_
          refine rn_ldN (x := l[j].rules[q]) many91 hp rfl rfl ?_
          refine New.var (TRule.cells l[j].rules[q]) sz91 rfl (oc_rule _) rfl fun b16 w13 e13 h16 nb16 => ?_
          have hH13 := hH.ext e13
          have g13 := e13.size
          refine rn_blk (x := ps') one57 hH13.hb rfl rfl ?_
          refine rn_blk (x := l[j].rules[q].Path) one9 h16 rfl rfl ?_
          refine rn_blk (x := l[j].rules[q].Method) one9 h16 rfl rfl ?_
          refine rn_blk (x := l[j].rules[q].Allow) one4 h16 rfl rfl ?_
          refine HW.permit hH13 (x := toP l[j].rules[q]) (by rw [List.length_append, List.length_map, List.length_take]; omega) (by omega) fun w14 ps2 c14 hH14 _ => ?_
          rw [hr.rules.wr hlq]
          have c1214 : Chg (fun b => M ≤ b) w12 w14 := (e13.chg _).trans (c14.mono fun b _ hb => by
            rcases hb with hb | hb
            · subst hb; exact hH.lo
            · exact (hH.po.ge hb).1)
          refine hK3 _ _ ⟨q + 1, ps2, rfl, hlq, C11.trans c1214, ?_⟩ (by omega)
          rw [List.take_add_one, List.getElem?_eq_getElem hlq, List.map_append, ← List.append_assoc]
          exact hH14
        · refine iteF (by simpa using hlq) ?_
          obtain rfl : q = (rul4 d.name l[j]).length := by omega
          rw [List.take_length] at hH
          rw [h.wr hlj]
          refine hK2 _ _ ⟨j + 1, ps', rfl, hlj, C11, ?_⟩ (by omega)
          rw [List.take_add_one, List.getElem?_eq_getElem hlj, List.flatMap_append]
          simpa using hH
      rw [if_neg (by rw [h.n]; omega)]
      obtain rfl : j = l.length := by omega
      rw [List.take_length, perm4] at hH
      clear hK2
      -- where it goes
      have c810 : Chg (fun b => M ≤ b) w7 w10 := (e8.chg _).trans C10
      have hW10 : TW N b9 w10 v hs ss xs (hk l k) (sk l (k + 1)) := hW.chg c810 (fun b _ hb => by omega)
      have hx0 : HostD (fun b => M ≤ b ∧ b < w10.heap.size) w10 ⟨d.host, d.name, es, ps⟩ (hostD l d) := hH.done
      have hown : ∀ b, own? hs b → b < M := fun b hb => by have := (hW.ho.ge hb).2; omega
      have hown2 : ∀ b, own? ss b → b < M := fun b hb => by have := (hW.so.ge hb).2; omega
      have h11 := hH.hb
      have CN := hCN C10
      clear hW hH C10
      have hRx : Rd THost.cells 4 (fun b => b < M) w10 hs xs := hW10.ho.rd hown
      have hxl : xs.length ≤ 64 := by
        have h1 := hW10.el.len
        have h2 := dk_len 3 (l.take k)
        rw [List.length_take] at h2
        rw [h1]; unfold hk; rw [stb_len, List.length_map]; omega
      refine rn_blk (x := hs) one51 hW10.hb rfl rfl ?_
      refine Lp.mk (fun (i : Int) w' => ∃ q : Nat, i = q ∧ q ≤ xs.length ∧ Ext w10 w' ∧ ∀ j (hj : j < xs.length), q ≤ j → ltH ⟨d.host, d.name, es, ps⟩ xs[j] = true) (fun i => i.toNat)
        ⟨xs.length, by rw [hRx.len], Nat.le_refl _, Ext.refl _, fun j hj h => absurd hj (by omega)⟩ ?_
      rintro i w11 K2 ⟨q, rfl, hq, e11, hgt⟩ hK2
      refine ⟨fun x w' => Ext w10 w' ∧ x = (decide (0 < q) && decide (∀ h : q - 1 < xs.length, ltH ⟨d.host, d.name, es, ps⟩ xs[q - 1] = true)), ?_, ?_⟩
      · refine Dr.mk fun w12 e12 _ => ?_
        have E12 := e11.trans e12
        by_cases cq : 0 < q
        · refine iteT (by omega) ?_
          have hW12 := hW10.ext E12
          refine rnl_blk (x := hs) one51 hW12.hb rfl rfl ?_
          rw [wrapI (x := (q : Int) - 1) (by omega) (by omega)]
          have hq1 : q - 1 < xs.length := by omega
          refine rnp_idx sl51 (hRx.ext E12) hq1 (by omega) fun p _ hp => ?_
          refine rnl_at (x := xs[q - 1].Host) one9 hp rfl ?_
          refine rnl_blk (x := d.host) one9 (h11.ext E12) rfl rfl ?_
          have hxh : xs[q - 1].Host.size ≤ maxLen := by
            have hi' : q - 1 < (hk l k).length := by rw [← hW10.el.len]; exact hq1
            rw [(hW10.el.get _ hq1 hi').host]
            have hm : (hk l k)[q - 1] ∈ (dk 3 (l.take k)).map (hostD l) := mem_stb.1 (List.getElem_mem hi')
            obtain ⟨y, hy, hye⟩ := List.mem_map.1 hm
            rw [← hye]
            exact hh _ (List.mem_of_mem_take (List.mem_filter.1 hy).1)
          refine (refOrder_ok xs[q - 1].Host d.host hxh hhd).mono ?_
          rintro _ w13 ⟨e13, rfl⟩
          refine ⟨E12.trans e13, ?_⟩
          have : (0 < ordS xs[q - 1].Host d.host) ↔ ordS d.host xs[q - 1].Host < 0 := ordK_pos
          simp [cq, hq1, ltH, this]
        · exact iteF (by omega) ⟨E12, by simp [cq]⟩
      clear e11
      rintro _ w12 ⟨e12, rfl⟩
      by_cases cq : 0 < q ∧ ∀ h : q - 1 < xs.length, ltH ⟨d.host, d.name, es, ps⟩ xs[q - 1] = true
      · refine iteT (by simpa using cq) ?_
        rw [wrapI (x := (q : Int) - 1) (by omega) (by omega)]
        refine hK2 _ _ ⟨q - 1, by omega, by omega, e12, fun j hj hqj => ?_⟩ (by omega)
        by_cases e : j = q - 1
        · subst e; exact cq.2 hj
        · exact hgt j hj (by omega)
      refine iteF (by simpa using cq) ?_
      clear hK2
      have hW12 := hW10.ext e12
      have hR12 := hRx.ext e12
      have g12 := e12.size
      have hB12 : N ≤ w12.heap.size := by have := CN.size; omega
      -- the place is the one where it is put
      have hplace : ins ltH ⟨d.host, d.name, es, ps⟩ xs = xs.take q ++ (⟨d.host, d.name, es, ps⟩ : THost) :: xs.drop q := by
        refine ins_at hq (fun i hi hiq => ?_) (fun h => hgt q h (Nat.le_refl _))
        have h1 : ltH ⟨d.host, d.name, es, ps⟩ xs[q - 1] = false := by
          cases e : ltH ⟨d.host, d.name, es, ps⟩ xs[q - 1] with
          | false => rfl
          | true => exact absurd ⟨by omega, fun _ => e⟩ cq
        by_cases e : i = q - 1
        · subst e; exact h1
        · refine wo_host.ntr _ _ _ h1 ?_
          have hl := hW10.el.len
          have hs1 := stb_pw wo_ltD ((dk 3 (l.take k)).map (hostD l)) i (q - 1) (show i < (hk l k).length by omega) (show q - 1 < (hk l k).length by omega) (by omega)
          rw [(hW10.el.get (q - 1) (by omega) (by omega)).ltE (hW10.el.get i hi (by omega))]
          exact hs1
      refine rn_blk (x := hs) one51 hW12.hb rfl rfl ?_
      have hsn := hR12.len
      have hsc := hR12.cap
      refine rnp_slice sl51 none (some q) rfl rfl (Nat.zero_le _) (by simp only [Option.getD_some]; omega) ?_
      simp only [Option.getD_none, Option.getD_some]
      have hR1 := hR12.cut (lo := 0) (hi := q) (Nat.zero_le _) hq
      rw [List.drop_zero] at hR1
      refine rn_app (l := []) (l' := xs.take q) el51 (Own.nil_ N w12) hR1 (fun _ => rfl) oc_host (by simp; omega) (by decide) hB12 fun t201 w13 O13 c13 n13 => ?_
      rw [List.nil_append] at O13
      have e13 : Ext w12 w13 := (Ext.refl _).then c13 (fun b ⟨a, ha, _⟩ => by cases ha)
      have n13' : ∀ b, own? t201 b → w12.heap.size ≤ b := fun b hb => by
        rcases n13 b hb with ⟨a, ha, _⟩ | h
        · cases ha
        · omega
      have E13 := e12.trans e13
      refine rn_blkN (x := (⟨d.host, d.name, es, ps⟩ : THost)) many59 (h11.ext E13) rfl rfl ?_
      refine New.mk fun b204 w14 e14 h204 _ _ => ?_
      have g13 := e13.size; have g14 := e14.size
      refine rn_app1 (x := (⟨d.host, d.name, es, ps⟩ : THost)) el51 (O13.ext e14) h204 rfl rfl (oc_host _) (by simp; omega) (by decide) (by omega) fun t205 w15 O15 c15 n15 => ?_
      have g15 := c15.size
      have n15' : ∀ b, own? t205 b → w12.heap.size ≤ b := fun b hb => by
        rcases n15 b hb with h | h
        · exact n13' b h
        · omega
      have e15 : Ext w12 w15 := (e13.trans e14).then c15 (fun b hb => n13' b hb)
      refine rn_blk (x := hs) one51 (hW12.ext e15).hb rfl rfl ?_
      refine rnp_slice sl51 (some q) none rfl rfl (by simp only [Option.getD_some, Option.getD_none]; omega) (by simp only [Option.getD_none]; omega) ?_
      simp only [Option.getD_none, Option.getD_some]
      have hR2 := (hR12.ext e15).cut (lo := q) (hi := xs.length) hq (Nat.le_refl _)
      rw [List.take_length, ← hsn] at hR2
      refine rn_app (l' := xs.drop q) el51 O15 hR2 (fun _ => rfl) oc_host (by simp; omega) (by decide) (by omega) fun t211 w16 O16 c16 n16 => ?_
      have g16 := c16.size
      have n16' : ∀ b, own? t211 b → w12.heap.size ≤ b := fun b hb => by
        rcases n16 b hb with h | h
        · exact n15' b h
        · omega
      have e16 : Ext w12 w16 := e15.then c16 (fun b hb => n15' b hb)
      rw [List.append_assoc, List.singleton_append, ← hplace] at O16
      have hcar := hW12.carry (hs' := t211) (e16.chg (own? hs)) (fun b hb => .inr (n16' b hb))
      refine hW12.set O16 (e16.chg _) (fun b hb => .inr (n16' b hb)) (All2.ins (lt := ltH) (lt' := ltD) (fun x x' y y' h h' => h.ltE h') ((hx0.ext (e12.trans e16)).mono fun b hb => ?_) hcar) fun w17 c17 hW17 => ?_
      · have := hb.2
        refine ⟨⟨by omega, by omega⟩, by omega, fun ho => ?_, fun ho => ?_⟩
        · have := n16' b ho; omega
        · have := hown2 b ho; omega
      · refine ⟨t211, ss, _, (CN.thenE (e12.trans e16)).trans (c17.mono fun b _ hb => by omega), hW17⟩
    · rintro _ w7 ⟨hs, ss, xs, C7, hW7⟩
      rw [h.wr hlt]
      exact hK _ _ ⟨k + 1, hs, ss, xs, rfl, hlt, C7, hW7⟩ (by omega)
  · rw [if_neg (by rw [h.n]; omega)]
    obtain rfl : k = l.length := by omega
    have e1 : hk l l.length = hostsS l := by unfold hk; rw [List.take_length]; rfl
    have e2 : sk l l.length = servS l := by unfold sk; rw [List.take_length]; rfl
    rw [e1, e2] at hW
    refine rn_blkN (x := (⟨v, hs, ss⟩ : TTables)) many53 hW.hb rfl rfl ?_
    have h4w : Blk w6 b4 53 (TTables.cells noT) := ((h4'.ext e4).ext e5).chg C6 (by omega)
    refine rnu_st (b := b4) (o := 0) rfl h4w (TTables.cells ⟨v, hs, ss⟩) sz53 rfl (oc_tab _) (by simp [TTables.cells]) fun w11 c11 s11 hb11 => ?_
    replace hb11 : Blk w11 b4 53 (TTables.cells ⟨v, hs, ss⟩) := hb11
    refine rnr_ldN (x := (⟨v, hs, ss⟩ : TTables)) many53 hb11.whole rfl rfl ?_
    have hR := hW.done.chg c11 (fun b hb _ e => by omega)
    have g11 := c11.size
    refine ⟨(hEN C6).then c11 (fun b hb => by omega), ?_, ?_⟩
    · rw [hz, c0]
    · rw [hans]; exact hR.mono fun b hb => ⟨by omega, by omega⟩
end
end Go.Proofs.Ytdoeegfcmbcbkaa.Ct


namespace Go.Proofs.Ytdoeegfcmbcbkaa.Ct
open Go Go.Eng Tr
set_option linter.unusedVariables false
set_option maxRecDepth 100000

theorem eqPermit_run (x y : TPermit) (w : World) : (Op.equal 89 x.v y.v).run PP w = .ok (x.Path == y.Path && (x.Method == y.Method && x.Allow == y.Allow)) w := by
  have h1 : ∀ (w : World) (a b : ByteArray), (Op.equalIn (9998 + 1) 9 (.string a) (.string b)).run PP w = .ok (a == b) w := fun w a b => by
    rw [run_equalIn_string w 9998 9 a b Try.underlying9, beq_toListBytes]
  have h2 : ∀ (w : World) (a b : Bool), (Op.equalIn (9998 + 1) 4 (.bool a) (.bool b)).run PP w = .ok (a == b) w := fun w a b => run_equalIn_bool' w 9998 4 a b Try.underlying4
  have hp : ∀ (w : World) (o : Nat) (t : TypeId) (v : Value) (cs : Array Value), One PP t → cs[o]? = some v → (part t cs o).run PP w = .ok v w := fun w o t v cs h hv => part_one h hv
  show (Op.equalIn (9999 + 1) 89 (.agg (Array.mk x.cells)) (.agg (Array.mk y.cells))).run PP w = _
  rw [run_equalIn_struct w 9999 89 _ _ (by kernel_rfl) (by kernel_rfl)]
  have hf : (Program.fieldsOf PP 89).toList = [⟨ "Path", 9, 0, false, "", "", 0⟩, ⟨ "Method", 9, 1, false, "", "", 16⟩, ⟨ "Allow", 4, 2, false, "", "", 32⟩] := by kernel_rfl
  rw [hf]
  have n1 : ("Path" : String) ≠ "_" := by decide
  have n2 : ("Method" : String) ≠ "_" := by decide
  have n4 : ("Allow" : String) ≠ "_" := by decide
  simp only [Op.eqFields, if_pos n1, if_pos n2, if_pos n4, Sem.run_bind]
  rw [hp w 0 9 (.string x.Path) _ one9 rfl, Result.andThen_ok, hp w 0 9 (.string y.Path) _ one9 rfl, Result.andThen_ok, h1, Result.andThen_ok]
  cases x.Path == y.Path
  · rfl
  rw [if_neg (by simp), Sem.run_bind, hp w 1 9 (.string x.Method) _ one9 rfl, Result.andThen_ok, Sem.run_bind, hp w 1 9 (.string y.Method) _ one9 rfl, Result.andThen_ok, Sem.run_bind, h1, Result.andThen_ok]
  cases x.Method == y.Method
  · rfl
  rw [if_neg (by simp), Sem.run_bind, hp w 2 4 (.bool x.Allow) _ one4 rfl, Result.andThen_ok, Sem.run_bind, hp w 2 4 (.bool y.Allow) _ one4 rfl, Result.andThen_ok, Sem.run_bind, h2, Result.andThen_ok]
  cases x.Allow == y.Allow <;> rfl
theorem eqPermit_self (x : TPermit) (w : World) : (Op.equal 89 x.v x.v).run PP w = .ok true w := by
  rw [eqPermit_run]; simp [beq_bytes]
section
variable {w : World} {F G : Nat → Prop}
theorem sameHost_ok {h h' : THost} {d : DHost} (h0 : HostD F w h d) (h1 : HostD G w h' d) : Ans Value.bool 81 #[h.v, h'.v] w true := by
  refine c81 ?_
  unfold f81
  refine New.mk fun b2 w1 e1 h2 _ _ => ?_
  refine New.mk fun b3 w2 e2 h3 _ _ => ?_
  replace h2 := h2.ext e2
  replace h0 := h0.ext (e1.trans e2); replace h1 := h1.ext (e1.trans e2)
  replace e1 := e1.trans e2
  obtain ⟨es, re, ee⟩ := h0.entries
  obtain ⟨es', re', ee'⟩ := h1.entries
  have l1 := ee.len; have l2 := ee'.len
  refine ⟨fun x w' => w' = w2 ∧ x = false, ?_, ?_⟩
  · refine rn_blk one9 h2 rfl rfl ?_
    refine rn_blk one9 h3 rfl rfl ?_
    refine iteF (by rw [h0.host, h1.host]; simp) ?_
    refine rn_blk one9 h2 rfl rfl ?_
    refine rn_blk one9 h3 rfl rfl ?_
    refine iteF (by rw [h0.route, h1.route]; simp) ?_
    refine rn_blk (x := h.Entries) one56 h2 rfl rfl ?_
    refine rn_blk (x := h'.Entries) one56 h3 rfl rfl ?_
    refine iteF (by rw [re.len, re'.len, l1, l2]; simp) ?_
    refine rn_blk (x := h.Permits) one57 h2 rfl rfl ?_
    refine rn_blk (x := h'.Permits) one57 h3 rfl rfl ?_
    exact ⟨rfl, by rw [h0.permits.len, h1.permits.len]; simp⟩
  rintro _ w3 ⟨hw3, rfl⟩
  obtain rfl : w2 = w3 := hw3.symm
  refine iteF (by simp) ?_
  refine Lp.mk (fun i w' => ∃ k : Nat, i = k ∧ k ≤ d.entries.length ∧ Ext w2 w') (fun i => d.entries.length - i.toNat) ⟨0, rfl, Nat.zero_le _, Ext.refl _⟩ ?_
  rintro i w3 K ⟨k, rfl, hk, hE⟩ hK
  refine rn_blk (x := h.Entries) one56 (h2.ext hE) rfl rfl ?_
  by_cases hlt : k < d.entries.length
  · rw [if_pos (by rw [re.len, l1]; omega)]
    refine ⟨fun x w' => Ext w2 w' ∧ x = false, ?_, ?_⟩
    · refine Dr.mk fun w4 e4 _ => ?_
      replace hE := hE.trans e4
      have h2' := h2.ext hE; have h3' := h3.ext hE
      have k1 : k < es.length := by omega
      have k2 : k < es'.length := by omega
      have d1 := (ee.get k k1 hlt); have d2 := (ee'.get k k2 hlt)
      refine rnl_blk (x := h.Entries) one56 h2' rfl rfl ?_
      refine rnp_idx sl56 (re.ext hE) k1 rfl fun p _ hp => ?_
      refine rnl_at (x := es[k].Path) one9 hp rfl ?_
      refine rnl_blk (x := h'.Entries) one56 h3' rfl rfl ?_
      refine rnp_idx sl56 (re'.ext hE) k2 rfl fun q _ hq => ?_
      refine rnl_at (x := es'[k].Path) one9 hq rfl ?_
      refine iteF (by rw [d1.path, d2.path]; simp) ?_
      refine rnl_blk (x := h.Entries) one56 h2' rfl rfl ?_
      refine rnp_idx sl56 (re.ext hE) k1 rfl fun p _ hp => ?_
      refine rnl_at (x := es[k].Method) one9 hp rfl ?_
      refine rnl_blk (x := h'.Entries) one56 h3' rfl rfl ?_
      refine rnp_idx sl56 (re'.ext hE) k2 rfl fun q _ hq => ?_
      refine rnl_at (x := es'[k].Method) one9 hq rfl ?_
      refine iteF (by rw [d1.method, d2.method]; simp) ?_
      refine rnl_blk (x := h.Entries) one56 h2' rfl rfl ?_
      refine rnp_idx sl56 (re.ext hE) k1 rfl fun p _ hp => ?_
      refine rnl_at (x := es[k].Shares) one23 hp rfl ?_
      refine rnl_blk (x := h'.Entries) one56 h3' rfl rfl ?_
      refine rnp_idx sl56 (re'.ext hE) k2 rfl fun q _ hq => ?_
      refine rnl_at (x := es'[k].Shares) one23 hq rfl ?_
      obtain ⟨xs, rx, dx⟩ := d1.shares
      obtain ⟨ys, ry, dy⟩ := d2.shares
      refine (sharesF_ok (rx.ext hE) (ry.ext hE) dx dy).mono ?_
      rintro _ w5 ⟨e5, rfl⟩
      exact ⟨e5, hE.trans e5, rfl⟩
    · rintro _ w4 ⟨e4, rfl⟩
      refine iteF (by simp) ?_
      rw [re.wr (by omega)]
      exact hK _ _ ⟨k + 1, rfl, hlt, e4⟩ (by omega)
  rw [if_neg (by rw [re.len, l1]; omega)]
  clear hK
  have hp0 := h0.permits; have hp1 := h1.permits
  refine Lp.mk (fun i w' => ∃ k : Nat, i = k ∧ k ≤ d.permits.length ∧ Ext w2 w') (fun i => d.permits.length - i.toNat) ⟨0, rfl, Nat.zero_le _, hE⟩ ?_
  clear hE
  rintro i w4 K ⟨k, rfl, hk, hE⟩ hK
  refine rn_blk (x := h.Permits) one57 (h2.ext hE) rfl rfl ?_
  by_cases hlt : k < d.permits.length
  · rw [if_pos (by rw [hp0.len]; omega)]
    refine Dr.mk fun w5 e5 _ => ?_
    replace hE := hE.trans e5
    refine rnl_blk (x := h.Permits) one57 (h2.ext hE) rfl rfl ?_
    refine rnp_idx sl57 (hp0.ext hE) hlt rfl fun p _ hp => ?_
    refine rnl_ldN (x := d.permits[k]) many89 hp rfl rfl ?_
    refine rnl_blk (x := h'.Permits) one57 (h3.ext hE) rfl rfl ?_
    refine rnp_idx sl57 (hp1.ext hE) hlt rfl fun q _ hq => ?_
    refine rnl_ldN (x := d.permits[k]) many89 hq rfl rfl ?_
    refine RnP.of (x := false) (fun w => by simp only [Sem.run_bind, eqPermit_self, Result.andThen_ok, Sem.run_pure]; rfl) ?_
    refine iteF (by simp) ?_
    rw [hp0.wr hlt]
    exact hK _ _ ⟨k + 1, rfl, hlt, hE⟩ (by omega)
  · rw [if_neg (by rw [hp0.len]; omega)]
    exact ⟨e1.trans hE, rfl⟩
theorem same_ok {t t' : TTables} {d : DTab} (h0 : TabD F w t d) (h1 : TabD G w t' d) : Ans Value.bool 37 #[t.v, t'.v] w true := by
  refine c37 ?_
  unfold f37
  refine New.mk fun b2 w1 e1 h2 _ _ => ?_
  refine New.mk fun b3 w2 e2 h3 _ _ => ?_
  replace h2 := h2.ext e2
  replace h0 := h0.ext (e1.trans e2); replace h1 := h1.ext (e1.trans e2)
  replace e1 := e1.trans e2
  obtain ⟨hs, rh, dh⟩ := h0.hosts
  obtain ⟨hs', rh', dh'⟩ := h1.hosts
  have l1 := dh.len; have l2 := dh'.len
  refine ⟨fun x w' => Ext w2 w' ∧ x = false, ?_, ?_⟩
  · refine rn_blk one3 h2 rfl rfl ?_
    refine rn_blk one3 h3 rfl rfl ?_
    refine iteF (by rw [h0.version, h1.version]; simp) ?_
    refine rn_blk (x := t.Hosts) one51 h2 rfl rfl ?_
    refine rn_blk (x := t'.Hosts) one51 h3 rfl rfl ?_
    refine iteF (by rw [rh.len, rh'.len, l1, l2]; simp) ?_
    refine rn_blk (x := t.Services) one44 h2 rfl rfl ?_
    refine rn_blk (x := t'.Services) one44 h3 rfl rfl ?_
    refine (texts_ok h0.services h1.services).mono ?_
    rintro _ w3 ⟨e3, rfl⟩
    exact ⟨e3, rfl⟩
  rintro _ w3 ⟨e3, rfl⟩
  refine iteF (by simp) ?_
  refine Lp.mk (fun i w' => ∃ k : Nat, i = k ∧ k ≤ d.hosts.length ∧ Ext w2 w') (fun i => d.hosts.length - i.toNat) ⟨0, rfl, Nat.zero_le _, e3⟩ ?_
  rintro i w4 K ⟨k, rfl, hk, hE⟩ hK
  refine rn_blk (x := t.Hosts) one51 (h2.ext hE) rfl rfl ?_
  by_cases hlt : k < d.hosts.length
  · rw [if_pos (by rw [rh.len, l1]; omega)]
    refine Dr.mk fun w5 e5 _ => ?_
    replace hE := hE.trans e5
    have k1 : k < hs.length := by omega
    have k2 : k < hs'.length := by omega
    refine rnl_blk (x := t.Hosts) one51 (h2.ext hE) rfl rfl ?_
    refine rnp_idx sl51 (rh.ext hE) k1 rfl fun p _ hp => ?_
    refine rnl_ldN (x := hs[k]) many59 hp rfl rfl ?_
    refine rnl_blk (x := t'.Hosts) one51 (h3.ext hE) rfl rfl ?_
    refine rnp_idx sl51 (rh'.ext hE) k2 rfl fun q _ hq => ?_
    refine rnl_ldN (x := hs'[k]) many59 hq rfl rfl ?_
    refine (sameHost_ok ((dh.get k k1 hlt).ext hE) ((dh'.get k k2 hlt).ext hE)).mono ?_
    rintro _ w6 ⟨e6, rfl⟩
    refine iteF (by simp) ?_
    rw [rh.wr k1]
    exact hK _ _ ⟨k + 1, rfl, hlt, hE.trans e6⟩ (by omega)
  · rw [if_neg (by rw [rh.len, l1]; omega)]
    exact ⟨e1.trans hE, rfl⟩
end
end Go.Proofs.Ytdoeegfcmbcbkaa.Ct


namespace Go.Eng
open Go
set_option linter.unusedVariables false
def rowAt (s : Sl) (k sz : Nat) : Addr := (s.a.getD ⟨0, 0, none⟩).add (k * sz)
section
variable {α β : Type} {cells : α → List Value} {sz T B : Nat} {P : Program} {w w0 : World} {s : Sl} {l : List α} {enc : β → Value} {x : β} {t e tf k f : Nat}
theorem Own.at_ (h : Own cells sz T B w s l) (hk : k < l.length) : s.a.isSome = true ∧ At w (rowAt s k sz) (cells l[k]) := by
  obtain ⟨a, ha, _, hat⟩ := (h.rd (F := fun _ => True) fun _ _ => trivial).el k hk
  refine ⟨by rw [ha]; rfl, ?_⟩
  unfold rowAt; rw [ha]; exact hat
theorem rnp_ownAt (ht : SlT P t e sz) (h : Own cells sz T B w s l) (hk : k < l.length) {i : Int} (hi : i = k) {K : Addr → Prop} (hK : K (rowAt s k sz)) : RnP P Ptr (Instr.indexAt t (Sl.v s) (.int .i64 i)) K := by
  obtain ⟨a, ha, _, hat⟩ := (h.rd (F := fun _ => True) fun _ _ => trivial).el k hk
  subst hi
  refine ⟨_, fun w => idx_run ht ha (by rw [h.len]; exact hk) w, ?_⟩
  unfold rowAt at hK; rw [ha] at hK; exact hK
theorem rn_ownAt (h1 : One P t) (h : Own cells sz T B w s l) (hk : k < l.length) (hi : (cells l[k])[f]? = some (enc x)) {K : β → World → Prop} (hK : K x w) : Rn P enc (Instr.loadAt t (Ptr ((rowAt s k sz).add f))) w K :=
  rn_at h1 (h.at_ hk).2 hi hK
theorem rnl_ownAt (h1 : One P t) (h : Own cells sz T B w0 s l) (hk : k < l.length) (hi : (cells l[k])[f]? = some (enc x)) {K : β → Prop} (hK : K x) : RnL P enc (Instr.loadAt t (Ptr ((rowAt s k sz).add f))) w0 K :=
  rnl_at h1 (h.at_ hk).2 hi hK
theorem rnu_ownAt {v : Value} {vs : List Value} {x' : α} {K : World → Prop} (h : Own cells sz T B w s l) (hk : k < l.length) (hf : f + vs.length ≤ sz)
    (hs : (P.info? tf).map (·.size) = some vs.length) (hv : v.cells = vs.toArray) (h1 : ∀ u ∈ vs, u.oneCell' = true) (hx : cells x' = over (cells l[k]) f vs)
    (hK : ∀ w', Chg (own? s) w w' → Own cells sz T B w' s (l.set k x') → w'.heap.size = w.heap.size → K w') : RnU P (Instr.storeAt tf (Ptr ((rowAt s k sz).add f)) v) w K := by
  have hsz := h.sz_
  obtain ⟨hrl, hn | ⟨g, cap, cur, hv', hbg, hg, hnc, hcm, hcs, htake⟩⟩ := h.row
  · omega
  have hn := h.len
  have ha : s.a = some ⟨g, 0, none⟩ := by obtain ⟨a, n, c⟩ := s; simp only [Sl.v, Value.slice.injEq] at hv'; exact hv'.1
  have hb : Blk w g T cur.toList := by unfold Blk; rw [hg]
  have hlim : k * sz + sz ≤ l.length * sz := by rw [← Nat.succ_mul]; exact Nat.mul_le_mul_right _ hk
  have hle : l.length * sz ≤ cap * sz := Nat.mul_le_mul_right _ hnc
  have hcl : cur.toList.length = cap * sz := by simpa using hcs
  have hp : (rowAt s k sz).add f = ⟨g, k * sz + f, none⟩ := by unfold rowAt; rw [ha, Option.getD_some, blk_add, blk_add, Nat.zero_add]
  refine rnu_st (b := g) (o := k * sz + f) hp hb vs hs hv h1 (by omega) fun w' c s' hb' => ?_
  refine hK w' (c.mono fun b _ hb => ⟨_, ha, hb.symm⟩) ⟨⟨?_, .inr ⟨g, cap, (over cur.toList (k * sz + f) vs).toArray, ?_, hbg, hb', ?_, hcm, ?_, ?_⟩⟩, ?_⟩ s'
  · rw [flatMap_over l k hk hsz hf hx, List.length_set, over_length (by rw [hrl]; omega), hrl]
  · rw [List.length_set]; exact hv'
  · rw [List.length_set]; exact hnc
  · rw [List.size_toArray, over_length (by omega), hcl]
  · rw [List.length_set, List.toList_toArray, over_take (by omega) (by omega), htake, flatMap_over l k hk hsz hf hx]
  · intro x hx'
    rcases List.mem_or_eq_of_mem_set hx' with hx' | rfl
    · exact hsz x hx'
    · rw [hx, over_length (by rw [hsz _ (List.getElem_mem hk)]; omega)]; exact hsz _ (List.getElem_mem hk)
theorem clone_body {bytes ty : Nat} {z : Value} {F : Nat → Prop} {R : Sl → World → Prop} (ht : ElT P t T sz bytes z) (h : Rd cells sz F w s l) (hsz : ∀ x, (cells x).length = sz) (h1 : ∀ x, ∀ u ∈ cells x, u.oneCell' = true)
    (hb : l.length * bytes ≤ 140737488355328) (hpos : 0 < bytes) (hR : ∀ s' w', Ext w w' → Own cells sz T w.heap.size w' s' l → R s' w') :
    if s.a.isNone = true then R Sl.nil w else New T [] w fun b5 w => Rn P Sl.v (Builtin.append_ #[t, t] ty #[Sl.v ⟨some ⟨b5, 0, none⟩, 0, 0⟩, Sl.v s]) w fun t7 w => R t7 w := by
  by_cases c : s.a.isNone = true
  · refine iteT c ?_
    have h0 : l = [] := by
      cases l with
      | nil => rfl
      | cons x xs =>
        obtain ⟨a, ha, _⟩ := h.el 0 (by simp)
        rw [ha] at c; cases c
    subst h0
    exact hR _ _ (Ext.refl _) (Own.nil_ _ _)
  · refine iteF c ?_
    refine New.mk fun b5 w1 e1 h5 n5 s5 => ?_
    have g1 := e1.size
    refine rn_app (B := w.heap.size) ht (Own.empty h5 (by omega)) (h.ext e1) hsz h1 (by simpa using hb) hpos g1 fun x w2 O2 c2 n2 => ?_
    refine hR x w2 (e1.then c2 (fun b ⟨a, ha, e⟩ => by cases ha; simp only at e; omega)) O2
end
end Go.Eng
namespace Go.Proofs.Ytdoeegfcmbcbkaa.Ct
open Go Go.Eng Tr
set_option linter.unusedVariables false
set_option maxRecDepth 100000
theorem EntD.ext {F : Nat → Prop} {w w' : World} {e : TEntry} {d : DEntry} (h : EntD F w e d) (k : Ext w w') : EntD F w' e d := h.chg (k.chg fun _ => False) (fun _ _ _ h => h)
section
variable {w : World} {F : Nat → Prop} {s : Sl}
theorem cloneTexts_ok {l : List ByteArray} (h : Rd bs 1 F w s l) (hb : l.length * 16 ≤ 140737488355328) : Cal PP Sl.v 82 #[s.v] w fun s' w' => Ext w w' ∧ Own bs 1 9 w.heap.size w' s' l := by
  refine c82 ?_
  unfold f82
  exact clone_body el44 h one_bs oc_bs hb (by decide) fun s' w' e o => ⟨e, o⟩
theorem cloneHosts_ok {l : List THost} (h : Rd THost.cells 4 F w s l) (hb : l.length * 80 ≤ 140737488355328) : Cal PP Sl.v 83 #[s.v] w fun s' w' => Ext w w' ∧ Own THost.cells 4 59 w.heap.size w' s' l := by
  refine c83 ?_
  unfold f83
  exact clone_body el51 h (fun _ => rfl) oc_host hb (by decide) fun s' w' e o => ⟨e, o⟩
theorem clonePermits_ok {l : List TPermit} (h : Rd TPermit.cells 3 F w s l) (hb : l.length * 40 ≤ 140737488355328) : Cal PP Sl.v 84 #[s.v] w fun s' w' => Ext w w' ∧ Own TPermit.cells 3 89 w.heap.size w' s' l := by
  refine c84 ?_
  unfold f84
  exact clone_body el57 h (fun _ => rfl) oc_permit hb (by decide) fun s' w' e o => ⟨e, o⟩
theorem cloneEntries_ok {l : List TEntry} (h : Rd TEntry.cells 3 F w s l) (hb : l.length * 56 ≤ 140737488355328) : Cal PP Sl.v 85 #[s.v] w fun s' w' => Ext w w' ∧ Own TEntry.cells 3 61 w.heap.size w' s' l := by
  refine c85 ?_
  unfold f85
  exact clone_body el56 h (fun _ => rfl) oc_entry hb (by decide) fun s' w' e o => ⟨e, o⟩
theorem cloneShares2_ok {l : List TShare} (h : Rd TShare.cells 2 F w s l) (hb : l.length * 24 ≤ 140737488355328) : Cal PP Sl.v 56 #[s.v] w fun s' w' => Ext w w' ∧ Own TShare.cells 2 32 w.heap.size w' s' l := by
  refine c56 ?_
  unfold f56
  exact clone_body el23 h (fun _ => rfl) oc_share hb (by decide) fun s' w' e o => ⟨e, o⟩
structure FitT (d : DTab) : Prop where
  h : d.hosts.length ≤ 1048576
  s : d.services.length ≤ 1048576
  e : ∀ h ∈ d.hosts, h.entries.length ≤ 1048576
  p : ∀ h ∈ d.hosts, h.permits.length ≤ 1048576
  q : ∀ h ∈ d.hosts, ∀ e ∈ h.entries, e.shares.length ≤ 1048576
theorem EntD.low {e : TEntry} {d : DEntry} (h : EntD F w e d) : EntD (fun b => b < w.heap.size) w e d := ⟨h.path, h.method, let ⟨xs, r, k⟩ := h.shares; ⟨xs, (Rd.low r (fun _ => by simp [TShare.cells])).mono fun b hb => hb.2, k⟩⟩
theorem HostD.low {h : THost} {d : DHost} (k : HostD F w h d) : HostD (fun b => b < w.heap.size) w h d := ⟨k.host, k.route, let ⟨es, r, a⟩ := k.entries; ⟨es, (Rd.low r (fun _ => by simp [TEntry.cells])).mono fun b hb => hb.2, a.mono fun _ _ x => x.low⟩, (Rd.low k.permits (fun _ => by simp [TPermit.cells])).mono fun b hb => hb.2⟩
theorem TabD.low {t : TTables} {d : DTab} (k : TabD F w t d) : TabD (fun b => b < w.heap.size) w t d := ⟨k.version, let ⟨es, r, a⟩ := k.hosts; ⟨es, (Rd.low r (fun _ => by simp [THost.cells])).mono fun b hb => hb.2, a.mono fun _ _ x => x.low⟩, (Rd.low k.services (fun _ => by simp [bs])).mono fun b hb => hb.2⟩
theorem copy_ok {t : TTables} {d : DTab} (h : TabD F w t d) (hf : FitT d) : Cal PP TTables.v 38 #[t.v] w fun x w' => Ext w w' ∧ TabD (fun b => w.heap.size ≤ b ∧ b < w'.heap.size) w' x d := by
  have hl := h.low
  obtain ⟨xs0, rh, ah⟩ := hl.hosts
  have hs := hl.services
  refine c38 ?_
  unfold f38
  refine New.mk fun b1 w1 e1 h1 n1 s1 => ?_
  refine New.mk fun b2 w2 e2 h2 n2 s2 => ?_
  replace h1 := h1.ext e2
  have E2 := e1.trans e2
  have g1 := e1.size; have g2 := e2.size
  refine rn_blk (x := t.Services) one44 h1 rfl rfl ?_
  refine (cloneTexts_ok (hs.ext E2) (by have := hf.s; omega)).mono ?_
  rintro ss w3 ⟨e3, O3⟩
  have g3 := e3.size
  refine rnu_st (b := b1) (o := 2) rfl (h1.ext e3) [Sl.v ss] sz44 rfl (by simp [Sl.v, Value.oneCell']) (by simp [TTables.cells]) fun w4 c4 s4 hb4 => ?_
  replace hb4 : Blk w4 b1 53 (TTables.cells ⟨t.Version, t.Hosts, ss⟩) := hb4
  have h2' := (h2.ext e3).chg c4 (by omega)
  have O4 := O3.chg c4 (fun b hb e => by have := (O3.ge hb).1; omega)
  have E4 : Ext w w4 := (E2.trans e3).then c4 (fun b hb => by omega)
  have g4 := c4.size
  refine rn_blk (x := t.Hosts) one51 hb4 rfl rfl ?_
  refine (cloneHosts_ok (rh.ext E4) (by have := hf.h; rw [ah.len]; omega)).mono ?_
  rintro hs5 w5 ⟨e5, O5⟩
  have g5 := e5.size
  refine rnu_st (b := b1) (o := 1) rfl (hb4.ext e5) [Sl.v hs5] sz51 rfl (by simp [Sl.v, Value.oneCell']) (by simp [TTables.cells]) fun w6 c6 s6 hb6 => ?_
  replace hb6 : Blk w6 b1 53 (TTables.cells ⟨t.Version, hs5, ss⟩) := hb6
  have lo5 : ∀ b, own? hs5 b → w4.heap.size ≤ b ∧ b < w5.heap.size := fun b hb => O5.ge hb
  have lo3 : ∀ b, own? ss b → w2.heap.size ≤ b ∧ b < w3.heap.size := fun b hb => O3.ge hb
  have O6 := O5.chg c6 (fun b hb e => by have := (lo5 b hb).1; omega)
  have S6 := (O4.ext e5).chg c6 (fun b hb e => by have := (lo3 b hb).1; omega)
  have E6 : Ext w w6 := (E4.trans e5).then c6 (fun b hb => by omega)
  have h26 := (h2'.ext e5).chg c6 (by omega)
  have g6 := c6.size
  refine rn_blk (x := hs5) one51 hb6 rfl rfl ?_
  have hlen := ah.len
  have ah6 := ah.mono fun _ _ x => x.ext E6
  clear O5 O4 ah
  refine Lp.mk (fun (i : Int) w' => ∃ (k : Nat) (xs : List THost), i = k ∧ k ≤ xs.length ∧ xs.length = d.hosts.length ∧ Chg (fun b => own? hs5 b ∨ w6.heap.size ≤ b) w6 w' ∧ Own THost.cells 4 59 w4.heap.size w' hs5 xs ∧
      (∀ j (h1 : j < xs.length) (h2 : j < d.hosts.length), j < k → HostD (fun b => (w.heap.size ≤ b ∧ b < w'.heap.size) ∧ b ≠ b2 ∧ ¬ own? hs5 b) w' xs[j] d.hosts[j]) ∧
      (∀ j (h1 : j < xs.length) (h2 : j < d.hosts.length), k ≤ j → HostD (fun b => b < w.heap.size) w' xs[j] d.hosts[j])) (fun i => d.hosts.length - i.toNat)
    ⟨0, xs0, rfl, Nat.zero_le _, hlen, Chg.refl _ _, O6, fun j _ _ h => absurd h (Nat.not_lt_zero _), fun j h1 h2 _ => ah6.get j h1 h2⟩ ?_
  rintro i w7 K ⟨k, xs, rfl, hk, hxl, C7, O7, hA, hB⟩ hK
  have C7' : ∀ b, (own? hs5 b ∨ w6.heap.size ≤ b) → w4.heap.size ≤ b := fun b hb => by
    rcases hb with hb | hb
    · exact (lo5 b hb).1
    · omega
  have E7 : Ext w w7 := E6.then C7 (fun b hb => by have := C7' b hb; omega)
  have g7 := C7.size
  have hb7 : Blk w7 b1 53 (TTables.cells ⟨t.Version, hs5, ss⟩) := hb6.chg C7 (fun hb => by have := C7' _ hb; omega)
  have ol := O6.len
  by_cases hlt : k < d.hosts.length
  · rw [if_pos (by omega)]
    have hkx : k < xs.length := by omega
    have hH := hB k hkx hlt (Nat.le_refl _)
    have hmem := List.getElem_mem hlt
    have hAll := hA
    refine rn_blk (x := hs5) one51 hb7 rfl rfl ?_
    refine rnp_ownAt sl51 O7 hkx rfl ?_
    refine rn_ownAt (x := xs[k].Permits) one57 O7 hkx rfl ?_
    refine (clonePermits_ok hH.permits (by have := hf.p _ hmem; omega)).mono ?_
    rintro ps w8 ⟨e8, P8⟩
    have g8 := e8.size
    refine rnu_ownAt (f := 3) (vs := [Sl.v ps]) (x' := ⟨xs[k].Host, xs[k].Route, xs[k].Entries, ps⟩) (O7.ext e8) hkx (by simp) sz57 rfl (by simp [Sl.v, Value.oneCell']) rfl fun w9 c9 O9 s9 => ?_
    have lo : ∀ b, own? hs5 b → b < w7.heap.size := fun b hb => by have := (lo5 b hb).2; omega
    have P9 := P8.chg c9 (fun b hb ho => by have := (P8.ge hb).1; have := lo b ho; omega)
    have hkx9 : k < (xs.set k ⟨xs[k].Host, xs[k].Route, xs[k].Entries, ps⟩).length := by simpa using hkx
    obtain ⟨es, re, ae⟩ := hH.entries
    have re9 := (re.ext e8).chg c9 (fun b hb _ ho => by have := (lo5 b ho).1; omega)
    have E9 : Ext w w9 := (E7.trans e8).then c9 (fun b ho => by have := (lo5 b ho).1; omega)
    refine rn_ownAt (x := xs[k].Entries) one56 O9 hkx9 (by simp [THost.cells]) ?_
    refine (cloneEntries_ok re9 (by have := hf.e _ hmem; rw [ae.len]; omega)).mono ?_
    rintro es' w10 ⟨e10, Q10⟩
    have g9 := c9.size; have g10 := e10.size
    refine rnu_ownAt (f := 2) (vs := [Sl.v es']) (x' := ⟨xs[k].Host, xs[k].Route, es', ps⟩) (O9.ext e10) hkx9 (by simp) sz56 rfl (by simp [Sl.v, Value.oneCell']) (by simp [THost.cells, over]) fun w11 c11 O11 s11 => ?_
    rw [List.set_set] at O11
    have g11 := c11.size
    have P11 := (P9.ext e10).chg c11 (fun b hb ho => by have := (P8.ge hb).1; have := lo b ho; omega)
    have Q11 := Q10.chg c11 (fun b hb ho => by have := (Q10.ge hb).1; have := lo b ho; omega)
    have hkx11 : k < (xs.set k ⟨xs[k].Host, xs[k].Route, es', ps⟩).length := by simpa using hkx
    have lp : ∀ b, own? ps b → w7.heap.size ≤ b ∧ b < w8.heap.size := fun b hb => P8.ge hb
    have lq : ∀ b, own? es' b → w9.heap.size ≤ b ∧ b < w10.heap.size := fun b hb => Q10.ge hb
    have E711 : Chg (fun b => own? hs5 b ∨ w7.heap.size ≤ b) w7 w11 := ((((e8.chg _).trans (c9.mono fun b _ hb => .inl hb)).trans (e10.chg _)).trans (c11.mono fun b _ hb => .inl hb))
    have E11 : Ext w w11 := (E9.trans e10).then c11 (fun b ho => by have := (lo5 b ho).1; omega)
    have ae11 : All2 (EntD (fun b => b < w.heap.size) w11) es d.hosts[k].entries := ae.mono fun _ _ x => x.chg E711 (fun b hb _ hs => by
      rcases hs with hs | hs
      · have := (lo5 b hs).1; omega
      · have := E7.size; omega)
    refine rn_ownAt (x := es') one56 O11 hkx11 (by simp [THost.cells]) ?_
    have ael := ae.len
    have eln := Q10.len
    refine Lp.mk (fun (i : Int) w' => ∃ (j : Nat) (zs : List TEntry), i = j ∧ j ≤ zs.length ∧ zs.length = d.hosts[k].entries.length ∧ Chg (fun b => own? es' b ∨ w11.heap.size ≤ b) w11 w' ∧ Own TEntry.cells 3 61 w9.heap.size w' es' zs ∧
        (∀ q (h1 : q < zs.length) (h2 : q < d.hosts[k].entries.length), q < j → EntD (fun b => (w.heap.size ≤ b ∧ b < w'.heap.size) ∧ b ≠ b2 ∧ ¬ own? hs5 b ∧ ¬ own? es' b) w' zs[q] d.hosts[k].entries[q]) ∧
        (∀ q (h1 : q < zs.length) (h2 : q < d.hosts[k].entries.length), j ≤ q → EntD (fun b => b < w.heap.size) w' zs[q] d.hosts[k].entries[q])) (fun i => d.hosts[k].entries.length - i.toNat)
      ⟨0, es, rfl, Nat.zero_le _, ael, Chg.refl _ _, Q11, fun j _ _ h => absurd h (Nat.not_lt_zero _), fun q h1 h2 _ => ae11.get q h1 h2⟩ ?_
    clear ae11 ae re re9 hH P9 Q11
    rintro i w12 K2 ⟨j, zs, rfl, hj, hzl, C12, Q12, zA, zB⟩ hK2
    have g12 := C12.size
    have E12 : Ext w w12 := E11.then C12 (fun b hb => by
      rcases hb with hb | hb
      · have := (lq b hb).1; have := E9.size; omega
      · have := E11.size; omega)
    have O12 := O11.chg C12 (fun b ho hs => by
      have := lo b ho
      rcases hs with hs | hs
      · have := (lq b hs).1; omega
      · omega)
    by_cases hlj : j < d.hosts[k].entries.length
    · rw [if_pos (by omega)]
      have hjz : j < zs.length := by omega
      refine Dr.mk fun w13 e13 _ => ?_
      have g13 := e13.size
      have O13 := O12.ext e13
      have Q13 := Q12.ext e13
      refine rnl_ownAt (x := es') one56 O13 hkx11 (by simp [THost.cells]) ?_
      refine rnl_ownAt (x := es') one56 O13 hkx11 (by simp [THost.cells]) ?_
      refine rnp_ownAt sl56 Q13 hjz rfl ?_
      refine rnl_ownAt (x := zs[j].Shares) one23 Q13 hjz rfl ?_
      have hE := (zB j hjz hlj (Nat.le_refl _)).ext e13
      obtain ⟨ys, ry, dy⟩ := hE.shares
      refine (cloneShares2_ok ry (by have := hf.q _ hmem _ (List.getElem_mem hlj); rw [dy.len]; omega)).mono ?_
      rintro sh w14 ⟨e14, R14⟩
      refine ⟨e14, ?_⟩
      have g14 := e14.size
      refine rnp_ownAt sl56 (Q13.ext e14) hjz rfl ?_
      refine rnu_ownAt (f := 2) (vs := [Sl.v sh]) (x' := ⟨zs[j].Path, zs[j].Method, sh⟩) (Q13.ext e14) hjz (by simp) sz23 rfl (by simp [Sl.v, Value.oneCell']) rfl fun w15 c15 Q15 s15 => ?_
      have g15 := c15.size
      have lr : ∀ b, own? sh b → w13.heap.size ≤ b ∧ b < w14.heap.size := fun b hb => R14.ge hb
      have R15 := R14.chg c15 (fun b hb ho => by have := (lr b hb).1; have := (lq b ho).2; omega)
      rw [(Q12.rd (F := fun _ => True) fun _ _ => trivial).wr hjz]
      have C1215 : Chg (fun b => own? es' b ∨ w11.heap.size ≤ b) w12 w15 := ((e13.trans e14).chg _).trans (c15.mono fun b _ hb => .inl hb)
      refine hK2 _ _ ⟨j + 1, _, rfl, by rw [List.length_set]; omega, by rw [List.length_set]; exact hzl, C12.trans C1215, Q15, fun q h1 h2 hq => ?_, fun q h1 h2 hq => ?_⟩ (by omega)
      · by_cases e : q = j
        · subst e
          rw [List.getElem_set_self]
          refine ⟨hE.path, hE.method, ys, R15.rd fun b hb => ?_, dy⟩
          have := lr b hb
          have := E12.size
          exact ⟨⟨by omega, by omega⟩, by omega, fun ho => by have := lo b ho; omega, fun ho => by have := (lq b ho).2; omega⟩
        · rw [List.getElem_set_ne (by omega)]
          exact ((zA q (by simpa using h1) h2 (by omega)).chg (((e13.trans e14).chg _).trans c15) (fun b hb _ hs => hb.2.2.2 hs)).mono fun b hb => ⟨⟨hb.1.1, by have := hb.1.2; omega⟩, hb.2⟩
      · rw [List.getElem_set_ne (by omega)]
        exact (zB q (by simpa using h1) h2 (by omega)).chg C1215 (fun b hb _ hs => by
          rcases hs with hs | hs
          · have := (lq b hs).1; have := E9.size; omega
          · have := E11.size; omega)
    · rw [if_neg (by omega)]
      rw [(O7.rd (F := fun _ => True) fun _ _ => trivial).wr hkx]
      have P12 := P11.chg C12 (fun b hb hs => by
        have := lp b hb
        rcases hs with hs | hs
        · have := (lq b hs).1; omega
        · omega)
      have C712 : Chg (fun b => own? hs5 b ∨ w7.heap.size ≤ b) w7 w12 := E711.trans (C12.mono fun b _ hb => by
        rcases hb with hb | hb
        · have := (lq b hb).1; exact .inr (by omega)
        · exact .inr (by omega))
      refine hK _ _ ⟨k + 1, _, rfl, by rw [List.length_set]; omega, by rw [List.length_set]; exact hxl, C7.trans (C712.mono fun b _ hb => by
        rcases hb with hb | hb
        · exact .inl hb
        · exact .inr (by omega)), O12, fun q h1 h2 hq => ?_, fun q h1 h2 hq => ?_⟩ (by omega)
      · by_cases e : q = k
        · subst e
          rw [List.getElem_set_self]
          have hb0 := hB q hkx hlt (Nat.le_refl _)
          refine ⟨hb0.host, hb0.route, ⟨zs, Q12.rd fun b hb => ?_, All2.of hzl fun a h3 h4 => (zA a h3 h4 (by omega)).mono fun b hb => ⟨hb.1, hb.2.1, hb.2.2.1⟩⟩, P12.rd fun b hb => ?_⟩
          · have := lq b hb
            have := E9.size
            exact ⟨⟨by omega, by omega⟩, by omega, fun ho => by have := lo b ho; omega⟩
          · have := lp b hb
            have := E7.size
            exact ⟨⟨by omega, by omega⟩, by omega, fun ho => by have := lo b ho; omega⟩
        · rw [List.getElem_set_ne (by omega)]
          exact ((hA q (by simpa using h1) h2 (by omega)).chg C712 (fun b hb hlt hs => by
            rcases hs with hs | hs
            · exact hb.2.2 hs
            · omega)).mono fun b hb => ⟨⟨hb.1.1, by have := hb.1.2; omega⟩, hb.2⟩
      · rw [List.getElem_set_ne (by omega)]
        exact (hB q (by simpa using h1) h2 (by omega)).chg C712 (fun b hb _ hs => by
          rcases hs with hs | hs
          · have := (lo5 b hs).1; omega
          · have := E7.size; omega)
  · rw [if_neg (by omega)]
    refine rn_blkN (x := (⟨t.Version, hs5, ss⟩ : TTables)) many53 hb7 rfl rfl ?_
    refine rnu_st (b := b2) (o := 0) rfl (h26.chg C7 (fun hb => by have := C7' _ hb; omega)) (TTables.cells ⟨t.Version, hs5, ss⟩) sz53 rfl (oc_tab _) (by simp [TTables.cells]) fun w11 c11 s11 hb11 => ?_
    replace hb11 : Blk w11 b2 53 (TTables.cells ⟨t.Version, hs5, ss⟩) := hb11
    refine rnr_ldN (x := (⟨t.Version, hs5, ss⟩ : TTables)) many53 hb11.whole rfl rfl ?_
    have g11 := c11.size
    refine ⟨E7.then c11 (fun b hb => by omega), h.version, ⟨xs, (O7.chg c11 (fun b ho e => by have := (lo5 b ho).1; omega)).rd fun b hb => ?_, All2.of hxl fun j h1 h2 => ?_⟩, ((S6.chg C7 (fun b hb hs => ?_)).chg c11 (fun b hb e => ?_)).rd fun b hb => ?_⟩
    · have := lo5 b hb; exact ⟨by omega, by omega⟩
    · exact ((hA j h1 h2 (by omega)).chg c11 (fun b hb _ e => hb.2.1 e)).mono fun b hb => ⟨hb.1.1, by have := hb.1.2; omega⟩
    · have := C7' b hs; have := (lo3 b hb).2; omega
    · have := (lo3 b hb).1; omega
    · have := lo3 b hb; exact ⟨by omega, by omega⟩
def goneT : TTarget := ⟨⟨#[103, 111, 110, 101]⟩, ⟨#[]⟩, 0⟩
def goneR : TRule := ⟨⟨#[103, 111, 110, 101]⟩, ⟨#[]⟩, ⟨#[]⟩, false⟩
def goneD : TResource := ⟨-9, ⟨#[]⟩, Sl.nil, Sl.nil, ⟨#[]⟩, Sl.nil, ⟨#[]⟩, false⟩
theorem gone_ok {B N : Nat} {rs : List TResource} (h : Loose B N w s rs) : Cal PP (fun _ : Unit => Value.tuple #[]) 39 #[s.v] w fun _ w' => Chg (fun b => B ≤ b ∧ b < N) w w' ∧ w'.heap.size = w.heap.size := by
  refine c39 ?_
  unfold f39
  have hn := h.own.len
  refine Lp.mk (fun (i : Int) w' => ∃ (k : Nat) (rs' : List TResource), i = k ∧ k ≤ rs'.length ∧ rs'.length = rs.length ∧ Chg (fun b => B ≤ b ∧ b < N) w w' ∧ w'.heap.size = w.heap.size ∧ Loose B N w' s rs') (fun i => rs.length - i.toNat)
    ⟨0, rs, rfl, Nat.zero_le _, rfl, Chg.refl _ _, rfl, h⟩ ?_
  clear h
  rintro i w1 K ⟨k, rs', rfl, hk, hl, C1, s1, h⟩ hK
  by_cases hlt : k < rs'.length
  · rw [if_pos (by omega)]
    have hr := List.getElem_mem hlt
    generalize hre : rs'[k] = r at hr
    have hst : ∀ {w2 : World}, (Chg (fun b => (B ≤ b ∧ b < N) ∧ ¬ own? s b) w1 w2) → (∀ (G : Nat → Prop) (s' : Sl) (z : Nat), Wr G w1 s' z → Wr G w2 s' z) → Loose B N w2 s rs' := fun c hw =>
      ⟨h.own.chg c (fun b hb hs => hs.2 hb), h.lim, fun r hr => hw _ _ _ (h.e r hr), fun r hr => hw _ _ _ (h.t r hr), fun r hr => hw _ _ _ (h.u r hr)⟩
    refine Lp.mk (fun (i : Int) w' => ∃ j : Nat, i = j ∧ j ≤ r.Targets.n ∧ Chg (fun b => (B ≤ b ∧ b < N) ∧ ¬ own? s b) w1 w' ∧ w'.heap.size = w1.heap.size ∧ ∀ (G : Nat → Prop) (s' : Sl) (z : Nat), Wr G w1 s' z → Wr G w' s' z) (fun i => r.Targets.n - i.toNat)
      ⟨0, rfl, Nat.zero_le _, Chg.refl _ _, rfl, fun _ _ _ h => h⟩ ?_
    rintro i w2 K2 ⟨j, rfl, hj, C2, s2, W2⟩ hK2
    have hL := hst C2 W2
    refine rnp_ownAt sl22 hL.own hlt rfl ?_
    refine rn_ownAt (x := r.Targets) one45 hL.own hlt (by rw [hre]; rfl) ?_
    by_cases hlj : j < r.Targets.n
    · rw [if_pos (by omega)]
      refine rnp_ownAt sl22 hL.own hlt rfl ?_
      refine rn_ownAt (x := r.Targets) one45 hL.own hlt (by rw [hre]; rfl) ?_
      refine wr_set sl45 (hL.t r hr) hlj rfl (vs := TTarget.cells goneT) (by simp [TTarget.cells]) sz84 rfl (oc_target _) fun w3 c3 W3 s3 => ?_
      rw [wrapI (x := (j : Int) + 1) (by omega) (by have := (hL.t r hr).1; unfold maxLen at this; omega)]
      exact hK2 _ _ ⟨j + 1, rfl, hlj, C2.trans c3, by omega, fun G s' z hw => W3 _ _ _ (W2 _ _ _ hw)⟩ (by omega)
    rw [if_neg (by omega)]
    clear hK2
    refine Lp.mk (fun (i : Int) w' => ∃ j : Nat, i = j ∧ j ≤ r.Rules.n ∧ Chg (fun b => (B ≤ b ∧ b < N) ∧ ¬ own? s b) w1 w' ∧ w'.heap.size = w1.heap.size ∧ ∀ (G : Nat → Prop) (s' : Sl) (z : Nat), Wr G w1 s' z → Wr G w' s' z) (fun i => r.Rules.n - i.toNat)
      ⟨0, rfl, Nat.zero_le _, C2, s2, W2⟩ ?_
    clear hL C2 s2 W2 hlj hj
    rintro i w2 K2 ⟨j, rfl, hj, C2, s2, W2⟩ hK2
    have hL := hst C2 W2
    refine rnp_ownAt sl22 hL.own hlt rfl ?_
    refine rn_ownAt (x := r.Rules) one46 hL.own hlt (by rw [hre]; rfl) ?_
    by_cases hlj : j < r.Rules.n
    · rw [if_pos (by omega)]
      refine rnp_ownAt sl22 hL.own hlt rfl ?_
      refine rn_ownAt (x := r.Rules) one46 hL.own hlt (by rw [hre]; rfl) ?_
      refine wr_set sl46 (hL.u r hr) hlj rfl (vs := TRule.cells goneR) (by simp [TRule.cells]) sz91 rfl (oc_rule _) fun w3 c3 W3 s3 => ?_
      rw [wrapI (x := (j : Int) + 1) (by omega) (by have := (hL.u r hr).1; unfold maxLen at this; omega)]
      exact hK2 _ _ ⟨j + 1, rfl, hlj, C2.trans c3, by omega, fun G s' z hw => W3 _ _ _ (W2 _ _ _ hw)⟩ (by omega)
    rw [if_neg (by omega)]
    clear hK2
    refine own_setN (f := 0) (vs := TResource.cells goneD) (x' := goneD) sl22 hL.own hlt rfl (by simp [TResource.cells]) sz48 rfl (oc_res _) (by simp [over, TResource.cells]) fun w3 c3 O3 s3 => ?_
    rw [(hL.own.rd (F := fun _ => True) fun _ _ => trivial).wr hlt]
    have hw : ∀ r' ∈ rs'.set k goneD, r' = goneD ∨ r' ∈ rs' := fun r' hr' => (List.mem_or_eq_of_mem_set hr').symm
    refine hK _ _ ⟨k + 1, _, rfl, by rw [List.length_set]; omega, by rw [List.length_set]; exact hl, C1.trans ((C2.mono fun b _ hb => hb.1).trans (c3.mono fun b _ hb => ⟨(hL.own.ge hb).1, hL.lim b hb⟩)), by omega, ⟨O3, h.lim, fun r' hr' => ?_, fun r' hr' => ?_, fun r' hr' => ?_⟩⟩ (by omega)
    all_goals
      rcases hw r' hr' with e | e
    · subst e; exact Wr.nil_ _ _ _
    · exact (hL.e r' e).chg c3 (fun b hb _ ho => hb.2 ho)
    · subst e; exact Wr.nil_ _ _ _
    · exact (hL.t r' e).chg c3 (fun b hb _ ho => hb.2 ho)
    · subst e; exact Wr.nil_ _ _ _
    · exact (hL.u r' e).chg c3 (fun b hb _ ho => hb.2 ho)
  · rw [if_neg (by omega)]
    exact ⟨C1, s1⟩
end
end Go.Proofs.Ytdoeegfcmbcbkaa.Ct


