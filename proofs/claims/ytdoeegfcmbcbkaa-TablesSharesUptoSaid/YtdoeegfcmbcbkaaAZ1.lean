/- A part of the proof whose last text is YtdoeegfcmbcbkaaAZ4. -/
import Derived.Test.YtdoeegfcmbcbkaaAZ0
set_option linter.all false
/- Made by program: typed transformers of the functions, each met by its code. -/
namespace Go.Proofs.Ytdoeegfcmbcbkaa.Tr
open Go Go.Eng
set_option linter.unusedVariables false
set_option maxRecDepth 100000
set_option maxHeartbeats 4000000
/-- turnpike/turnpikelaw15.twin; slots 0:l, 1:l, 3:out, 4:i, 5:r -/
def f16 (t0 : Sl) (R : (Sl) → World → Prop) (w : World) : Prop :=
  Lp (σ := Sl × Int) (fun s1 w n1 =>
    if s1.2 < (t0.n : Int) then
      RnP Try.prog Ptr (Instr.indexAt 22 (Sl.v t0) (.int .i64 s1.2)) fun t14 =>
      Rn Try.prog TResource.v (Instr.loadAt 48 (Ptr t14)) w fun t15 w =>
      New 48 (TResource.cells (⟨0, ⟨#[]⟩, Sl.nil, Sl.nil, ⟨#[]⟩, Sl.nil, ⟨#[]⟩, false⟩ : TResource)) w fun b5 w =>
      RnU Try.prog (Instr.storeAt 48 (Ptr (⟨b5, 0, none⟩ : Addr)) (TResource.v t15)) w fun w =>
      New 9 [] w fun b16 w =>
      Rn Try.prog Sl.v (Instr.loadAt 44 (Ptr ((⟨b5, 0, none⟩ : Addr).add 2))) w fun t18 w =>
      Rn Try.prog Sl.v (Builtin.append_ #[44, 44] 44 #[(Sl.v (⟨some ⟨b16, 0, none⟩, 0, 0⟩ : Sl)), (Sl.v t18)]) w fun t19 w =>
      RnU Try.prog (Instr.storeAt 44 (Ptr ((⟨b5, 0, none⟩ : Addr).add 2)) (Sl.v t19)) w fun w =>
      New 84 [] w fun b21 w =>
      Rn Try.prog Sl.v (Instr.loadAt 45 (Ptr ((⟨b5, 0, none⟩ : Addr).add 3))) w fun t23 w =>
      Rn Try.prog Sl.v (Builtin.append_ #[45, 45] 45 #[(Sl.v (⟨some ⟨b21, 0, none⟩, 0, 0⟩ : Sl)), (Sl.v t23)]) w fun t24 w =>
      RnU Try.prog (Instr.storeAt 45 (Ptr ((⟨b5, 0, none⟩ : Addr).add 3)) (Sl.v t24)) w fun w =>
      New 91 [] w fun b26 w =>
      Rn Try.prog Sl.v (Instr.loadAt 46 (Ptr ((⟨b5, 0, none⟩ : Addr).add 5))) w fun t28 w =>
      Rn Try.prog Sl.v (Builtin.append_ #[46, 46] 46 #[(Sl.v (⟨some ⟨b26, 0, none⟩, 0, 0⟩ : Sl)), (Sl.v t28)]) w fun t29 w =>
      RnU Try.prog (Instr.storeAt 46 (Ptr ((⟨b5, 0, none⟩ : Addr).add 5)) (Sl.v t29)) w fun w =>
      Rn Try.prog TResource.v (Instr.loadAt 48 (Ptr (⟨b5, 0, none⟩ : Addr))) w fun t32 w =>
      New 48 ((TResource.cells t32)) w fun b33 w =>
      Rn Try.prog Sl.v (Builtin.append_ #[22, 22] 22 #[(Sl.v s1.1), (Sl.v (⟨some ⟨b33, 0, none⟩, 1, 1⟩ : Sl))]) w fun t34 w =>
      n1 (t34, (IntKind.i64.wrap (s1.2 + 1))) w
    else
      New 48 ((TResource.cells (⟨(-77), ⟨#[]⟩, Sl.nil, Sl.nil, ⟨#[]⟩, Sl.nil, ⟨#[]⟩, false⟩ : TResource))) w fun b37 w =>
      Rn Try.prog Sl.v (Builtin.append_ #[22, 22] 22 #[(Sl.v s1.1), (Sl.v (⟨some ⟨b37, 0, none⟩, 1, 1⟩ : Sl))]) w fun t38 w =>
      RnP Try.prog Sl.v (Instr.sliceAt 22 (Sl.v t38) none (some (.int .i64 (t0.n : Int))) none) fun t42 =>
      R t42 w
  ) (Sl.nil, 0) w
theorem c16 {t0 : Sl} {R : (Sl) → World → Prop} {w : World} (h : f16 t0 R w) :
    Cal Try.prog Sl.v 16 #[(Sl.v t0)] w R := by
  unfold f16 at h
  refine calls_ Try.func16 Try.ntmps16 rfl rfl ?_
  refine seq_ ?_
  refine region_ ?_
  refine st_val (ex_assign (v := (Sl.v Sl.nil)) rfl) ?_
  refine wl_nil ?_
  refine then_n ?_
  refine seq_ ?_
  refine region_ ?_
  refine st_val (ex_assign (v := (Sl.v Sl.nil)) rfl) ?_
  refine wl_nil ?_
  refine then_n ?_
  refine seq_ ?_
  refine seq_ ?_
  refine region_ ?_
  refine st_val (ex_assign (v := (.int .i64 0)) rfl) ?_
  refine wl_nil ?_
  refine then_n ?_
  refine wp_block ?_
  refine wp_lp (σ := Sl × Int) (fun s1 a => ∃ j, a = F 43 (upds j [(0, (Sl.v t0)), (3, (Sl.v s1.1)), (4, (.int .i64 s1.2))])) h (mk_upds (ae rfl (ae rfl (ae rfl ae0)))) ?_
  clear h; rintro s1 _ w n1 ⟨j, rfl⟩ h
  refine seq_ ?_
  refine seq_ ?_
  refine region_ ?_
  refine st_val (ex_move (v := (.int .i64 s1.2)) rfl) ?_
  refine st_val (ex_move (v := (Sl.v t0)) rfl) ?_
  refine st_val (ex_len (s := t0) Try.underlying22 rfl) ?_
  refine st_val (ex_lss (a := s1.2) (b := (t0.n : Int)) rfl rfl) ?_
  refine wl_nil ?_
  refine then_n ?_
  by_cases hc2 : s1.2 < (t0.n : Int)
  · rw [if_pos hc2] at h; refine cond_1 (b := (decide (s1.2 < (t0.n : Int)))) rfl (decide_eq_true hc2) ?_
    refine wp_skip ?_
    refine then_n ?_
    refine seq_ ?_
    refine wp_block ?_
    refine seq_ ?_
    refine region_ ?_
    refine st_val (ex_move (v := (Sl.v t0)) rfl) ?_
    refine st_val (ex_move (v := (.int .i64 s1.2)) rfl) ?_
    refine st_rnp (fun r => ex_indexAddr rfl rfl r) h ?_; clear h; intro t14 h
    refine st_rn (fun r => ex_load rfl r) h ?_; clear h; intro t15 w h
    refine st_new (f := (fun b => Ptr ⟨b, 0, none⟩)) (ex_allocN zero48 rfl) h ?_; clear h; intro b5 w h
    refine st_rnu (fun r => ex_store rfl rfl r) h ?_; clear h; intro w h
    refine wl_nil ?_
    refine then_n ?_
    refine seq_ ?_
    refine region_ ?_
    refine st_new (f := (fun b => Sl.v ⟨some ⟨b, 0, none⟩, 0, 0⟩)) (ex_buildSlice (a' := []) rfl (e_buildSlice0 Try.underlying44 info9 _)) h ?_; clear h; intro b16 w h
    refine st_val (ex_fa fa48_2 (p := (⟨b5, 0, none⟩ : Addr)) rfl) ?_
    refine st_rn (fun r => ex_load rfl r) h ?_; clear h; intro t18 w h
    refine st_rn (fun r => ex_builtin rfl (fun _ => rfl) r) h ?_; clear h; intro t19 w h
    refine st_val (ex_fa fa48_2 (p := (⟨b5, 0, none⟩ : Addr)) rfl) ?_
    refine st_rnu (fun r => ex_store rfl rfl r) h ?_; clear h; intro w h
    refine wl_nil ?_
    refine then_n ?_
    refine seq_ ?_
    refine region_ ?_
    refine st_new (f := (fun b => Sl.v ⟨some ⟨b, 0, none⟩, 0, 0⟩)) (ex_buildSlice (a' := []) rfl (e_buildSlice0 Try.underlying45 info84 _)) h ?_; clear h; intro b21 w h
    refine st_val (ex_fa fa48_3 (p := (⟨b5, 0, none⟩ : Addr)) rfl) ?_
    refine st_rn (fun r => ex_load rfl r) h ?_; clear h; intro t23 w h
    refine st_rn (fun r => ex_builtin rfl (fun _ => rfl) r) h ?_; clear h; intro t24 w h
    refine st_val (ex_fa fa48_3 (p := (⟨b5, 0, none⟩ : Addr)) rfl) ?_
    refine st_rnu (fun r => ex_store rfl rfl r) h ?_; clear h; intro w h
    refine wl_nil ?_
    refine then_n ?_
    refine seq_ ?_
    refine region_ ?_
    refine st_new (f := (fun b => Sl.v ⟨some ⟨b, 0, none⟩, 0, 0⟩)) (ex_buildSlice (a' := []) rfl (e_buildSlice0 Try.underlying46 info91 _)) h ?_; clear h; intro b26 w h
    refine st_val (ex_fa fa48_5 (p := (⟨b5, 0, none⟩ : Addr)) rfl) ?_
    refine st_rn (fun r => ex_load rfl r) h ?_; clear h; intro t28 w h
    refine st_rn (fun r => ex_builtin rfl (fun _ => rfl) r) h ?_; clear h; intro t29 w h
    refine st_val (ex_fa fa48_5 (p := (⟨b5, 0, none⟩ : Addr)) rfl) ?_
    refine st_rnu (fun r => ex_store rfl rfl r) h ?_; clear h; intro w h
    refine wl_nil ?_
    refine then_n ?_
    refine region_ ?_
    refine st_val (ex_move (v := (Sl.v s1.1)) rfl) ?_
    refine st_rn (fun r => ex_load rfl r) h ?_; clear h; intro t32 w h
    refine st_new (f := (fun b => Sl.v ⟨some ⟨b, 0, none⟩, 1, 1⟩)) (ex_buildSlice (a' := [(0, (TResource.v t32))]) rfl (e_buildSlice (cs := ((TResource.cells t32))) Try.underlying22 info48 iz48 (by decide +kernel) (by decide +kernel) (by kernel_rfl) _)) h ?_; clear h; intro b33 w h
    refine st_rn (fun r => ex_builtin rfl (fun _ => rfl) r) h ?_; clear h; intro t34 w h
    refine st_val (ex_assign (v := (Sl.v t34)) rfl) ?_
    refine wl_nil ?_
    refine inb_n ?_
    refine then_n ?_
    refine region_ ?_
    refine st_val (ex_move (v := (.int .i64 s1.2)) rfl) ?_
    refine st_val (ex_add (a := s1.2) (b := 1) rfl rfl) ?_
    refine st_val (ex_assign (v := (.int .i64 (IntKind.i64.wrap (s1.2 + 1)))) rfl) ?_
    refine wl_nil ?_
    exact then_n ⟨(t34, (IntKind.i64.wrap (s1.2 + 1))), mk_upds (ae rfl (ae rfl (ae rfl ae0))), h⟩
  · rw [if_neg hc2] at h; refine cond_0 (b := (decide (s1.2 < (t0.n : Int)))) rfl (decide_eq_false hc2) ?_
    refine wp_exit ?_
    refine then_e ?_
    refine then_e ?_
    refine inb_e ?_
    refine then_n ?_
    refine seq_ ?_
    refine region_ ?_
    refine st_val (ex_move (v := (Sl.v s1.1)) rfl) ?_
    refine st_val (ex_build (a' := [(0, (.int .i64 (-77)))]) (v := TResource.v (⟨(-77), ⟨#[]⟩, Sl.nil, Sl.nil, ⟨#[]⟩, Sl.nil, ⟨#[]⟩, false⟩ : TResource)) rfl (e_build Try.underlying48 zero48 rfl pl48 rfl _)) ?_
    refine st_new (f := (fun b => Sl.v ⟨some ⟨b, 0, none⟩, 1, 1⟩)) (ex_buildSlice (a' := [(0, (TResource.v (⟨(-77), ⟨#[]⟩, Sl.nil, Sl.nil, ⟨#[]⟩, Sl.nil, ⟨#[]⟩, false⟩ : TResource)))]) rfl (e_buildSlice (cs := ((TResource.cells (⟨(-77), ⟨#[]⟩, Sl.nil, Sl.nil, ⟨#[]⟩, Sl.nil, ⟨#[]⟩, false⟩ : TResource)))) Try.underlying22 info48 iz48 (by decide +kernel) (by decide +kernel) (by kernel_rfl) _)) h ?_; clear h; intro b37 w h
    refine st_rn (fun r => ex_builtin rfl (fun _ => rfl) r) h ?_; clear h; intro t38 w h
    refine st_val (ex_assign (v := (Sl.v t38)) rfl) ?_
    refine wl_nil ?_
    refine then_n ?_
    refine seq_ ?_
    refine region_ ?_
    refine st_val (ex_move (v := (Sl.v t38)) rfl) ?_
    refine st_val (ex_move (v := (Sl.v t0)) rfl) ?_
    refine st_val (ex_len (s := t0) Try.underlying22 rfl) ?_
    refine st_rnp (fun r => ex_slice rfl rfl rfl rfl r) h ?_; clear h; intro t42 h
    refine st_val (ex_assign (v := (Sl.v t42)) rfl) ?_
    refine wl_nil ?_
    refine then_n ?_
    refine wp_ret ?_
    refine ret_1 rfl rfl ⟨t42, rfl, h⟩

/-- turnpike/tables.Shares; slots 0:conf, 1:split, 2:conf, 3:split, 6:_, 7:f -/
def f17 (t0 : Sl) (t1 : ByteArray) (R : (Sl × Int) → World → Prop) (w : World) : Prop :=
  New 9 [(.string t1)] w fun b3 w =>
  Cal Try.prog (fun x : Sl × TFault => Value.tuple #[(Sl.v x.1), (TFault.v x.2)]) 46 #[(Sl.v t0)] w fun t10 w =>
  New 80 (TFault.cells (⟨0, 0, 0⟩ : TFault)) w fun b7 w =>
  RnU Try.prog (Instr.storeAt 80 (Ptr (⟨b7, 0, none⟩ : Addr)) (TFault.v t10.2)) w fun w =>
  Rn Try.prog (Value.int .i64) (Instr.loadAt 25 (Ptr ((⟨b7, 0, none⟩ : Addr).add 2))) w fun t14 w =>
  if t14 ≠ 0 then
    Dr w fun w2 w =>
      RnL Try.prog (Value.int .i64) (Instr.loadAt 25 (Ptr ((⟨b7, 0, none⟩ : Addr).add 2))) w2 fun t17 =>
      R (Sl.nil, t17) w
  else
    Cal Try.prog Sl.v 54 #[(Sl.v t0), (.int .i64 2)] w fun t19 w =>
    Cal Try.prog Value.bool 53 #[(Sl.v t19), (Value.func (.func 55) #[] #[(Ptr (⟨b3, 0, none⟩ : Addr))])] w fun t21 w =>
    if (!t21) = true then
      R (Sl.nil, 2) w
    else
      Dr w fun w4 w =>
        RnL Try.prog Value.string (Instr.loadAt 9 (Ptr (⟨b3, 0, none⟩ : Addr))) w4 fun t25 =>
        Cal Try.prog Value.map 57 #[(Sl.v t0)] w (ExtK w fun t24 w =>
          Rn Try.prog Sl.v (Instr.lookup 97 (.map t24) (.string t25) false) w fun t26 w =>
          Cal Try.prog Sl.v 56 #[(Sl.v t26)] w fun t27 w =>
          R (t27, 0) w
        )
theorem c17 {t0 : Sl} {t1 : ByteArray} {R : (Sl × Int) → World → Prop} {w : World} (h : f17 t0 t1 R w) :
    Cal Try.prog (fun x : Sl × Int => Value.tuple #[(Sl.v x.1), (.int .i64 x.2)]) 17 #[(Sl.v t0), (.string t1)] w R := by
  unfold f17 at h
  refine calls_ Try.func17 Try.ntmps17 rfl rfl ?_
  refine seq_ ?_
  refine region_ ?_
  refine st_new (f := (fun b => Ptr ⟨b, 0, none⟩)) (ex_boxN rfl rfl) h ?_; clear h; intro b3 w h
  refine st_val (ex_assign (v := (Sl.v Sl.nil)) rfl) ?_
  refine st_val (ex_assign (v := (.int .i64 0)) rfl) ?_
  refine wl_nil ?_
  refine then_n ?_
  refine seq_ ?_
  refine seq_ ?_
  refine region_ ?_
  refine st_val (ex_move (v := (Sl.v t0)) rfl) ?_
  refine st_cal en46 rfl h ?_; clear h; intro t10 w h
  refine st_val (ex_move (v := (.tuple #[(Sl.v t10.1), (TFault.v t10.2)])) rfl) ?_
  refine st_val (ex_extract (u := (.tuple #[(Sl.v t10.1), (TFault.v t10.2)])) rfl (v := (Sl.v t10.1)) rfl) ?_
  refine st_val (ex_extract (u := (.tuple #[(Sl.v t10.1), (TFault.v t10.2)])) rfl (v := (TFault.v t10.2)) rfl) ?_
  refine st_new (f := (fun b => Ptr ⟨b, 0, none⟩)) (ex_allocN zero80 rfl) h ?_; clear h; intro b7 w h
  refine st_val (ex_assign (v := (Sl.v t10.1)) rfl) ?_
  refine st_rnu (fun r => ex_store rfl rfl r) h ?_; clear h; intro w h
  refine wl_nil ?_
  refine then_n ?_
  refine seq_ ?_
  refine region_ ?_
  refine st_val (ex_fa fa80_2 (p := (⟨b7, 0, none⟩ : Addr)) rfl) ?_
  refine st_rn (fun r => ex_load rfl r) h ?_; clear h; intro t14 w h
  refine st_val (ex_neq (a := t14) (b := 0) rfl rfl) ?_
  refine wl_nil ?_
  refine then_n ?_
  by_cases hc1 : t14 ≠ 0
  · rw [if_pos hc1] at h; refine cond_1 (b := (decide (t14 ≠ 0))) rfl (decide_eq_true hc1) ?_
    refine seq_ ?_
    refine dr_begin mixed [] (listed := #[false, false, false, false]) rfl (n := 4) rfl h ?_; clear h; intro w2 h
    have hE : Ext w2 w2 := Ext.refl _
    refine dr_takeP (i := 0) (by kernel_rfl) rfl (fun _ _ _ h => h) (fun _ => hE) (fun _ => ex_fa fa80_2 (p := (⟨b7, 0, none⟩ : Addr)) rfl) ?_
    obtain ⟨t17, ht17, h⟩ := h
    refine dr_take (i := 1) (by kernel_rfl) rfl (fun _ _ _ h => h) hE (fun _ hw => (fun r => ex_load rfl r) (ht17 _ hw)) ?_
    refine dr_takeP (i := 2) (by kernel_rfl) rfl (fun _ _ _ h => h) (fun _ => hE) (fun _ => ex_assign (v := (Sl.v Sl.nil)) rfl) ?_
    refine dr_takeP (i := 3) (by kernel_rfl) rfl (fun _ _ _ h => h) (fun _ => hE) (fun _ => ex_assign (v := (.int .i64 t17)) rfl) ?_
    refine dr_end (by kernel_rfl) ?_
    refine then_n ?_
    refine wp_ret ?_
    refine then_r ?_
    refine ret_2 rfl rfl rfl ⟨(Sl.nil, t17), rfl, h⟩
  · rw [if_neg hc1] at h; refine cond_0 (b := (decide (t14 ≠ 0))) rfl (decide_eq_false hc1) ?_
    refine wp_skip ?_
    refine then_n ?_
    refine seq_ ?_
    refine seq_ ?_
    refine region_ ?_
    refine st_val (ex_move (v := (Sl.v t0)) rfl) ?_
    refine st_cal en54 rfl h ?_; clear h; intro t19 w h
    refine st_val (ex_makeFunc rfl rfl) ?_
    refine st_cal en53 rfl h ?_; clear h; intro t21 w h
    refine st_val (ex_not (b := t21) rfl) ?_
    refine wl_nil ?_
    refine then_n ?_
    by_cases hc3 : (!t21) = true
    · rw [if_pos hc3] at h; refine cond_1 (b := (!t21)) rfl hc3 ?_
      refine seq_ ?_
      refine region_ ?_
      refine st_val (ex_assign (v := (Sl.v Sl.nil)) rfl) ?_
      refine st_val (ex_assign (v := (.int .i64 2)) rfl) ?_
      refine wl_nil ?_
      refine then_n ?_
      refine wp_ret ?_
      refine then_r ?_
      refine ret_2 rfl rfl rfl ⟨(Sl.nil, 2), rfl, h⟩
    · rw [if_neg hc3] at h; refine cond_0 (b := (!t21)) rfl (Bool.eq_false_iff.2 hc3) ?_
      refine wp_skip ?_
      refine then_n ?_
      refine seq_ ?_
      refine dr_begin mixed [3, 4] (listed := #[false, false, false, false, false, false, false]) rfl (n := 7) rfl h ?_; clear h; intro w4 h
      have hE : Ext w4 w4 := Ext.refl _
      refine dr_takeP (i := 0) (by kernel_rfl) rfl (fun _ _ _ h => h) (fun _ => hE) (fun _ => ex_move (v := (Sl.v t0)) rfl) ?_
      obtain ⟨t25, ht25, h⟩ := h
      refine dr_take (i := 2) (by kernel_rfl) rfl (fun _ _ _ h => h) hE (fun _ hw => (fun r => ex_load rfl r) (ht25 _ hw)) ?_
      refine dr_only (i := 1) (by kernel_rfl) rfl rfl ?_
      refine o_cal en57 rfl h ?_; clear h; intro t24 w h; obtain ⟨hx, h⟩ := h; replace hE := hE.trans hx; clear hx; refine ⟨fun _ => hE, ?_⟩
      refine dr_only (i := 3) (by kernel_rfl) rfl rfl ?_
      refine o_rn (fun r => ex_lookup rfl rfl r) h ?_; clear h; intro t26 w h; refine ⟨noG (by kernel_rfl), ?_⟩
      refine dr_only (i := 4) (by kernel_rfl) rfl rfl ?_
      refine o_cal en56 rfl h ?_; clear h; intro t27 w h; refine ⟨noG (by kernel_rfl), ?_⟩
      refine dr_takeP (i := 5) (by kernel_rfl) rfl (fun _ _ _ h => h) (noG (by kernel_rfl)) (fun _ => ex_assign (v := (Sl.v t27)) rfl) ?_
      refine dr_takeP (i := 6) (by kernel_rfl) rfl (fun _ _ _ h => h) (noG (by kernel_rfl)) (fun _ => ex_assign (v := (.int .i64 0)) rfl) ?_
      refine dr_end (by kernel_rfl) ?_
      refine then_n ?_
      refine wp_ret ?_
      refine ret_2 rfl rfl rfl ⟨(t27, 0), rfl, h⟩

/-- turnpike/turnpikeref15.Shares; slots 0:conf, 1:split, 2:conf, 3:split, 6:_, 7:f, 8:k, 9:at -/
def f18 (t0 : Sl) (t1 : ByteArray) (R : (Sl × Int) → World → Prop) (w : World) : Prop :=
  Cal Try.prog (fun x : Sl × TFault14 => Value.tuple #[(Sl.v x.1), (TFault14.v x.2)]) 58 #[(Sl.v t0)] w fun t12 w =>
  New 101 (TFault14.cells (⟨0, 0, 0⟩ : TFault14)) w fun b7 w =>
  RnU Try.prog (Instr.storeAt 101 (Ptr (⟨b7, 0, none⟩ : Addr)) (TFault14.v t12.2)) w fun w =>
  Rn Try.prog (Value.int .i64) (Instr.loadAt 3 (Ptr ((⟨b7, 0, none⟩ : Addr).add 2))) w fun t16 w =>
  if t16 ≠ 0 then
    Dr w fun w2 w =>
      RnL Try.prog (Value.int .i64) (Instr.loadAt 3 (Ptr ((⟨b7, 0, none⟩ : Addr).add 2))) w2 fun t19 =>
      R (Sl.nil, t19) w
  else
    Cal Try.prog Value.pointer 59 #[(Sl.v t0)] w fun t21 w =>
    Cal Try.prog (Value.int .i64) 60 #[(.pointer t21), (.string t1)] w fun t24 w =>
    if t24 < 0 then
      R (Sl.nil, 2) w
    else
      NotNil t21 fun t28 =>
      Rn Try.prog Sl.v (Instr.loadAt 107 (Ptr (t28.add 1))) w fun t30 w =>
      RnP Try.prog Ptr (Instr.indexAt 107 (Sl.v t30) (.int .i64 t24)) fun t32 =>
      Rn Try.prog Sl.v (Instr.loadAt 23 (Ptr t32)) w fun t33 w =>
      R (t33, 0) w
theorem c18 {t0 : Sl} {t1 : ByteArray} {R : (Sl × Int) → World → Prop} {w : World} (h : f18 t0 t1 R w) :
    Cal Try.prog (fun x : Sl × Int => Value.tuple #[(Sl.v x.1), (.int .i64 x.2)]) 18 #[(Sl.v t0), (.string t1)] w R := by
  unfold f18 at h
  refine calls_ Try.func18 Try.ntmps18 rfl rfl ?_
  refine seq_ ?_
  refine region_ ?_
  refine st_val (ex_assign (v := (Sl.v Sl.nil)) rfl) ?_
  refine st_val (ex_assign (v := (.int .i64 0)) rfl) ?_
  refine wl_nil ?_
  refine then_n ?_
  refine seq_ ?_
  refine region_ ?_
  refine st_val (ex_move (v := (Sl.v t0)) rfl) ?_
  refine st_cal en58 rfl h ?_; clear h; intro t12 w h
  refine st_val (ex_move (v := (.tuple #[(Sl.v t12.1), (TFault14.v t12.2)])) rfl) ?_
  refine st_val (ex_extract (u := (.tuple #[(Sl.v t12.1), (TFault14.v t12.2)])) rfl (v := (Sl.v t12.1)) rfl) ?_
  refine st_val (ex_extract (u := (.tuple #[(Sl.v t12.1), (TFault14.v t12.2)])) rfl (v := (TFault14.v t12.2)) rfl) ?_
  refine st_new (f := (fun b => Ptr ⟨b, 0, none⟩)) (ex_allocN zero101 rfl) h ?_; clear h; intro b7 w h
  refine st_val (ex_assign (v := (Sl.v t12.1)) rfl) ?_
  refine st_rnu (fun r => ex_store rfl rfl r) h ?_; clear h; intro w h
  refine wl_nil ?_
  refine then_n ?_
  refine seq_ ?_
  refine seq_ ?_
  refine region_ ?_
  refine st_val (ex_fa fa101_2 (p := (⟨b7, 0, none⟩ : Addr)) rfl) ?_
  refine st_rn (fun r => ex_load rfl r) h ?_; clear h; intro t16 w h
  refine st_val (ex_neq (a := t16) (b := 0) rfl rfl) ?_
  refine wl_nil ?_
  refine then_n ?_
  by_cases hc1 : t16 ≠ 0
  · rw [if_pos hc1] at h; refine cond_1 (b := (decide (t16 ≠ 0))) rfl (decide_eq_true hc1) ?_
    refine seq_ ?_
    refine dr_begin mixed [] (listed := #[false, false, false, false]) rfl (n := 4) rfl h ?_; clear h; intro w2 h
    have hE : Ext w2 w2 := Ext.refl _
    refine dr_takeP (i := 0) (by kernel_rfl) rfl (fun _ _ _ h => h) (fun _ => hE) (fun _ => ex_fa fa101_2 (p := (⟨b7, 0, none⟩ : Addr)) rfl) ?_
    obtain ⟨t19, ht19, h⟩ := h
    refine dr_take (i := 1) (by kernel_rfl) rfl (fun _ _ _ h => h) hE (fun _ hw => (fun r => ex_load rfl r) (ht19 _ hw)) ?_
    refine dr_takeP (i := 2) (by kernel_rfl) rfl (fun _ _ _ h => h) (fun _ => hE) (fun _ => ex_assign (v := (Sl.v Sl.nil)) rfl) ?_
    refine dr_takeP (i := 3) (by kernel_rfl) rfl (fun _ _ _ h => h) (fun _ => hE) (fun _ => ex_assign (v := (.int .i64 t19)) rfl) ?_
    refine dr_end (by kernel_rfl) ?_
    refine then_n ?_
    refine wp_ret ?_
    refine then_r ?_
    refine ret_2 rfl rfl rfl ⟨(Sl.nil, t19), rfl, h⟩
  · rw [if_neg hc1] at h; refine cond_0 (b := (decide (t16 ≠ 0))) rfl (decide_eq_false hc1) ?_
    refine wp_skip ?_
    refine then_n ?_
    refine seq_ ?_
    refine region_ ?_
    refine st_val (ex_move (v := (Sl.v t0)) rfl) ?_
    refine st_cal en59 rfl h ?_; clear h; intro t21 w h
    refine st_val (ex_assign (v := (.pointer t21)) rfl) ?_
    refine wl_nil ?_
    refine then_n ?_
    refine seq_ ?_
    refine region_ ?_
    refine st_val (ex_move (v := (.pointer t21)) rfl) ?_
    refine st_val (ex_move (v := (.string t1)) rfl) ?_
    refine st_cal en60 rfl h ?_; clear h; intro t24 w h
    refine st_val (ex_assign (v := (.int .i64 t24)) rfl) ?_
    refine wl_nil ?_
    refine then_n ?_
    refine seq_ ?_
    refine seq_ ?_
    refine region_ ?_
    refine st_val (ex_move (v := (.int .i64 t24)) rfl) ?_
    refine st_val (ex_lss (a := t24) (b := 0) rfl rfl) ?_
    refine wl_nil ?_
    refine then_n ?_
    by_cases hc3 : t24 < 0
    · rw [if_pos hc3] at h; refine cond_1 (b := (decide (t24 < 0))) rfl (decide_eq_true hc3) ?_
      refine seq_ ?_
      refine region_ ?_
      refine st_val (ex_assign (v := (Sl.v Sl.nil)) rfl) ?_
      refine st_val (ex_assign (v := (.int .i64 2)) rfl) ?_
      refine wl_nil ?_
      refine then_n ?_
      refine wp_ret ?_
      refine then_r ?_
      refine ret_2 rfl rfl rfl ⟨(Sl.nil, 2), rfl, h⟩
    · rw [if_neg hc3] at h; refine cond_0 (b := (decide (t24 < 0))) rfl (decide_eq_false hc3) ?_
      refine wp_skip ?_
      refine then_n ?_
      refine seq_ ?_
      refine region_ ?_
      refine st_val (ex_move (v := (.pointer t21)) rfl) ?_
      obtain ⟨t28, ht28, h⟩ := h
      refine st_val (ex_nilCheckP (p := t21) rfl ht28) ?_
      refine st_val (ex_fa fa109_1 (p := t28) rfl) ?_
      refine st_rn (fun r => ex_load rfl r) h ?_; clear h; intro t30 w h
      refine st_val (ex_move (v := (.int .i64 t24)) rfl) ?_
      refine st_rnp (fun r => ex_indexAddr rfl rfl r) h ?_; clear h; intro t32 h
      refine st_rn (fun r => ex_load rfl r) h ?_; clear h; intro t33 w h
      refine st_val (ex_assign (v := (Sl.v t33)) rfl) ?_
      refine st_val (ex_assign (v := (.int .i64 0)) rfl) ?_
      refine wl_nil ?_
      refine then_n ?_
      refine wp_ret ?_
      refine ret_2 rfl rfl rfl ⟨(t33, 0), rfl, h⟩

/-- turnpike/tables.Steps; slots 0:l, 1:l, 3:out, 4:sum, 5:_, 6:s -/
def f19 (t0 : Sl) (R : (Sl) → World → Prop) (w : World) : Prop :=
  Lp (σ := Sl × Nat × Int) (fun s1 w n1 =>
    if s1.2.2 < (t0.n : Int) then
      Jn (σ := Sl × Nat) (fun k3 =>
        RnP Try.prog Ptr (Instr.indexAt 23 (Sl.v t0) (.int .i64 s1.2.2)) fun t11 =>
        Rn Try.prog TShare.v (Instr.loadAt 32 (Ptr t11)) w fun t12 w =>
        New 32 (TShare.cells (⟨⟨#[]⟩, 0⟩ : TShare)) w fun b6 w =>
        RnU Try.prog (Instr.storeAt 32 (Ptr (⟨b6, 0, none⟩ : Addr)) (TShare.v t12)) w fun w =>
        Rn Try.prog (Value.float .f64) (Instr.loadAt 30 (Ptr ((⟨b6, 0, none⟩ : Addr).add 1))) w fun t14 w =>
        if (fGt t14 0) = true then
          Rn Try.prog (Value.float .f64) (Instr.loadAt 30 (Ptr ((⟨b6, 0, none⟩ : Addr).add 1))) w fun t18 w =>
          Rn Try.prog (Value.float .f64) (Op.floatArith .add .f64 s1.2.1 t18) w fun t19 w =>
          Rn Try.prog Value.string (Instr.loadAt 9 (Ptr ((⟨b6, 0, none⟩ : Addr).add 0))) w fun t22 w =>
          New 32 ((TShare.cells (⟨t22, t19⟩ : TShare))) w fun b25 w =>
          Rn Try.prog Sl.v (Builtin.append_ #[23, 23] 23 #[(Sl.v s1.1), (Sl.v (⟨some ⟨b25, 0, none⟩, 1, 1⟩ : Sl))]) w fun t26 w =>
          k3 (t26, t19) w
        else
          k3 (s1.1, s1.2.1) w
      ) fun s3 w =>
        n1 (s3.1, s3.2, (IntKind.i64.wrap (s1.2.2 + 1))) w
    else
      Jn (σ := Unit) (fun k5 =>
        if 0 < (s1.1.n : Int) then
          RnP Try.prog Ptr (Instr.indexAt 23 (Sl.v s1.1) (.int .i64 (IntKind.i64.wrap ((s1.1.n : Int) - 1)))) fun t35 =>
          RnU Try.prog (Instr.storeAt 30 (Ptr (t35.add 1)) (.float .f64 4607182418800017408)) w fun w =>
          k5 () w
        else
          k5 () w
      ) fun s5 w =>
        R s1.1 w
  ) (Sl.nil, 0, 0) w
theorem c19 {t0 : Sl} {R : (Sl) → World → Prop} {w : World} (h : f19 t0 R w) :
    Cal Try.prog Sl.v 19 #[(Sl.v t0)] w R := by
  unfold f19 at h
  refine calls_ Try.func19 Try.ntmps19 rfl rfl ?_
  refine seq_ ?_
  refine region_ ?_
  refine st_val (ex_assign (v := (Sl.v Sl.nil)) rfl) ?_
  refine wl_nil ?_
  refine then_n ?_
  refine seq_ ?_
  refine region_ ?_
  refine st_val (ex_assign (v := (Sl.v Sl.nil)) rfl) ?_
  refine wl_nil ?_
  refine then_n ?_
  refine seq_ ?_
  refine region_ ?_
  refine st_val (ex_assign (v := (.float .f64 0)) rfl) ?_
  refine wl_nil ?_
  refine then_n ?_
  refine seq_ ?_
  refine seq_ ?_
  refine region_ ?_
  refine st_val (ex_move (v := (Sl.v t0)) rfl) ?_
  refine st_val (ex_len (s := t0) Try.underlying23 rfl) ?_
  refine st_val (ex_move (v := (.int .i64 0)) rfl) ?_
  refine wl_nil ?_
  refine then_n ?_
  refine wp_block ?_
  refine wp_lp (σ := Sl × Nat × Int) (fun s1 a => ∃ j, a = F 38 (upds j [(3, (Sl.v s1.1)), (4, (.float .f64 s1.2.1)), (7, (Sl.v t0)), (8, (.int .i64 (t0.n : Int))), (9, (.int .i64 s1.2.2))])) h (mk_upds (ae rfl (ae rfl (ae rfl (ae rfl (ae rfl ae0)))))) ?_
  clear h; rintro s1 _ w n1 ⟨j, rfl⟩ h
  refine seq_ ?_
  refine region_ ?_
  refine st_val (ex_lss (a := s1.2.2) (b := (t0.n : Int)) rfl rfl) ?_
  refine wl_nil ?_
  refine then_n ?_
  refine seq_ ?_
  by_cases hc2 : s1.2.2 < (t0.n : Int)
  · rw [if_pos hc2] at h; refine cond_1 (b := (decide (s1.2.2 < (t0.n : Int)))) rfl (decide_eq_true hc2) ?_
    refine wp_skip ?_
    refine then_n ?_
    refine wp_jn (σ := Sl × Nat) (fun s3 l => ∃ j, l = upds j [(3, (Sl.v s3.1)), (4, (.float .f64 s3.2)), (7, (Sl.v t0)), (8, (.int .i64 (t0.n : Int))), (9, (.int .i64 s1.2.2))]) h ?_ ?_
    · clear h; rintro s3 _ w ⟨j, rfl⟩ h
      refine region_ ?_
      refine st_val (ex_add (a := s1.2.2) (b := 1) rfl rfl) ?_
      refine st_val (ex_move (v := (.int .i64 (IntKind.i64.wrap (s1.2.2 + 1)))) rfl) ?_
      refine wl_nil ?_
      exact then_n ⟨(s3.1, s3.2, (IntKind.i64.wrap (s1.2.2 + 1))), mk_upds (ae rfl (ae rfl (ae rfl (ae rfl (ae rfl ae0))))), h⟩
    · clear h; intro k3 h
      refine wp_block ?_
      refine seq_ ?_
      refine region_ ?_
      refine st_rnp (fun r => ex_indexAddr rfl rfl r) h ?_; clear h; intro t11 h
      refine st_rn (fun r => ex_load rfl r) h ?_; clear h; intro t12 w h
      refine st_new (f := (fun b => Ptr ⟨b, 0, none⟩)) (ex_allocN zero32 rfl) h ?_; clear h; intro b6 w h
      refine st_rnu (fun r => ex_store rfl rfl r) h ?_; clear h; intro w h
      refine wl_nil ?_
      refine then_n ?_
      refine seq_ ?_
      refine region_ ?_
      refine st_val (ex_fa fa32_1 (p := (⟨b6, 0, none⟩ : Addr)) rfl) ?_
      refine st_rn (fun r => ex_load rfl r) h ?_; clear h; intro t14 w h
      refine st_val (ex_gtrF (a := t14) (b := 0) rfl rfl) ?_
      refine wl_nil ?_
      refine then_n ?_
      by_cases hc4 : (fGt t14 0) = true
      · rw [if_pos hc4] at h; refine cond_1 (b := (fGt t14 0)) rfl hc4 ?_
        refine seq_ ?_
        refine region_ ?_
        refine st_val (ex_move (v := (.float .f64 s1.2.1)) rfl) ?_
        refine st_val (ex_fa fa32_1 (p := (⟨b6, 0, none⟩ : Addr)) rfl) ?_
        refine st_rn (fun r => ex_load rfl r) h ?_; clear h; intro t18 w h
        refine st_rn (fun r => ex_addF (a := s1.2.1) (b := t18) rfl rfl r) h ?_; clear h; intro t19 w h
        refine st_val (ex_assign (v := (.float .f64 t19)) rfl) ?_
        refine wl_nil ?_
        refine then_n ?_
        refine region_ ?_
        refine st_val (ex_move (v := (Sl.v s1.1)) rfl) ?_
        refine st_val (ex_fa fa32_0 (p := (⟨b6, 0, none⟩ : Addr)) rfl) ?_
        refine st_rn (fun r => ex_load rfl r) h ?_; clear h; intro t22 w h
        refine st_val (ex_move (v := (.float .f64 t19)) rfl) ?_
        refine st_val (ex_build (a' := [(0, (.string t22)), (1, (.float .f64 t19))]) (v := TShare.v (⟨t22, t19⟩ : TShare)) rfl (e_build Try.underlying32 zero32 rfl pl32 rfl _)) ?_
        refine st_new (f := (fun b => Sl.v ⟨some ⟨b, 0, none⟩, 1, 1⟩)) (ex_buildSlice (a' := [(0, (TShare.v (⟨t22, t19⟩ : TShare)))]) rfl (e_buildSlice (cs := ((TShare.cells (⟨t22, t19⟩ : TShare)))) Try.underlying23 info32 iz32 (by decide +kernel) (by decide +kernel) (by kernel_rfl) _)) h ?_; clear h; intro b25 w h
        refine st_rn (fun r => ex_builtin rfl (fun _ => rfl) r) h ?_; clear h; intro t26 w h
        refine st_val (ex_assign (v := (Sl.v t26)) rfl) ?_
        refine wl_nil ?_
        refine inb_n ?_
        exact then_n ⟨(t26, t19), _, rfl, mk_upds' (ae rfl (ae rfl (ae rfl (ae rfl (ae rfl ae0))))), h⟩
      · rw [if_neg hc4] at h; refine cond_0 (b := (fGt t14 0)) rfl (Bool.eq_false_iff.2 hc4) ?_
        refine wp_skip ?_
        refine inb_n ?_
        exact then_n ⟨(s1.1, s1.2.1), _, rfl, mk_upds' (ae rfl (ae rfl (ae rfl (ae rfl (ae rfl ae0))))), h⟩
  · rw [if_neg hc2] at h; refine cond_0 (b := (decide (s1.2.2 < (t0.n : Int)))) rfl (decide_eq_false hc2) ?_
    refine wp_exit ?_
    refine then_e ?_
    refine then_e ?_
    refine inb_e ?_
    refine then_n ?_
    refine wp_jn (σ := Unit) (fun s5 l => ∃ j, l = upds j [(3, (Sl.v s1.1))]) h ?_ ?_
    · clear h; rintro s5 _ w ⟨j, rfl⟩ h
      refine seq_ ?_
      refine region_ ?_
      refine st_val (ex_move (v := (Sl.v s1.1)) rfl) ?_
      refine st_val (ex_assign (v := (Sl.v s1.1)) rfl) ?_
      refine wl_nil ?_
      refine then_n ?_
      refine wp_ret ?_
      refine ret_1 rfl rfl ⟨s1.1, rfl, h⟩
    · clear h; intro k5 h
      refine seq_ ?_
      refine region_ ?_
      refine st_val (ex_move (v := (Sl.v s1.1)) rfl) ?_
      refine st_val (ex_len (s := s1.1) Try.underlying23 rfl) ?_
      refine st_val (ex_gtr (a := (s1.1.n : Int)) (b := 0) rfl rfl) ?_
      refine wl_nil ?_
      refine then_n ?_
      by_cases hc6 : 0 < (s1.1.n : Int)
      · rw [if_pos hc6] at h; refine cond_1 (b := (decide (0 < (s1.1.n : Int)))) rfl (decide_eq_true hc6) ?_
        refine region_ ?_
        refine st_val (ex_move (v := (Sl.v s1.1)) rfl) ?_
        refine st_val (ex_move (v := (Sl.v s1.1)) rfl) ?_
        refine st_val (ex_len (s := s1.1) Try.underlying23 rfl) ?_
        refine st_val (ex_sub (a := (s1.1.n : Int)) (b := 1) rfl rfl) ?_
        refine st_rnp (fun r => ex_indexAddr rfl rfl r) h ?_; clear h; intro t35 h
        refine st_val (ex_fa fa32_1 (p := t35) rfl) ?_
        refine st_rnu (fun r => ex_store rfl rfl r) h ?_; clear h; intro w h
        refine wl_nil ?_
        exact then_n ⟨(), _, rfl, mk_upds' (ae rfl ae0), h⟩
      · rw [if_neg hc6] at h; refine cond_0 (b := (decide (0 < (s1.1.n : Int)))) rfl (decide_eq_false hc6) ?_
        refine wp_skip ?_
        exact then_n ⟨(), _, rfl, mk_upds' (ae rfl ae0), h⟩

/-- turnpike/turnpikelaw15.shares; slots 0:a, 1:b, 2:a, 3:b, 5:i -/
def f20 (t0 : Sl) (t1 : Sl) (R : (Bool) → World → Prop) (w : World) : Prop :=
  if (t0.n : Int) ≠ (t1.n : Int) then
    R false w
  else
    Lp (σ := Int) (fun s2 w n2 =>
      if s2 < (t0.n : Int) then
        Jn (σ := Bool) (fun k4 =>
          Dr w fun w5 w =>
            RnP Try.prog Ptr (Instr.indexAt 23 (Sl.v t0) (.int .i64 s2)) fun t19 =>
            RnL Try.prog Value.string (Instr.loadAt 9 (Ptr (t19.add 0))) w5 fun t21 =>
            RnP Try.prog Ptr (Instr.indexAt 23 (Sl.v t1) (.int .i64 s2)) fun t24 =>
            RnL Try.prog Value.string (Instr.loadAt 9 (Ptr (t24.add 0))) w5 fun t26 =>
            if t21 ≠ t26 then
              k4 true w
            else
              RnP Try.prog Ptr (Instr.indexAt 23 (Sl.v t0) (.int .i64 s2)) fun t31 =>
              RnL Try.prog (Value.float .f64) (Instr.loadAt 30 (Ptr (t31.add 1))) w5 fun t33 =>
              RnP Try.prog Ptr (Instr.indexAt 23 (Sl.v t1) (.int .i64 s2)) fun t36 =>
              RnL Try.prog (Value.float .f64) (Instr.loadAt 30 (Ptr (t36.add 1))) w5 fun t38 =>
              Cal Try.prog Value.bool 61 #[(.float .f64 t33), (.float .f64 t38)] w fun t39 w =>
              k4 (!t39) w
        ) fun s4 w =>
          if s4 = true then
            R false w
          else
            n2 (IntKind.i64.wrap (s2 + 1)) w
      else
        R true w
    ) 0 w
theorem c20 {t0 : Sl} {t1 : Sl} {R : (Bool) → World → Prop} {w : World} (h : f20 t0 t1 R w) :
    Cal Try.prog Value.bool 20 #[(Sl.v t0), (Sl.v t1)] w R := by
  unfold f20 at h
  refine calls_ Try.func20 Try.ntmps20 rfl rfl ?_
  refine seq_ ?_
  refine region_ ?_
  refine st_val (ex_assign (v := (.bool false)) rfl) ?_
  refine wl_nil ?_
  refine then_n ?_
  refine seq_ ?_
  refine seq_ ?_
  refine region_ ?_
  refine st_val (ex_move (v := (Sl.v t0)) rfl) ?_
  refine st_val (ex_len (s := t0) Try.underlying23 rfl) ?_
  refine st_val (ex_move (v := (Sl.v t1)) rfl) ?_
  refine st_val (ex_len (s := t1) Try.underlying23 rfl) ?_
  refine st_val (ex_neq (a := (t0.n : Int)) (b := (t1.n : Int)) rfl rfl) ?_
  refine wl_nil ?_
  refine then_n ?_
  by_cases hc1 : (t0.n : Int) ≠ (t1.n : Int)
  · rw [if_pos hc1] at h; refine cond_1 (b := (decide ((t0.n : Int) ≠ (t1.n : Int)))) rfl (decide_eq_true hc1) ?_
    refine seq_ ?_
    refine region_ ?_
    refine st_val (ex_assign (v := (.bool false)) rfl) ?_
    refine wl_nil ?_
    refine then_n ?_
    refine wp_ret ?_
    refine then_r ?_
    refine ret_1 rfl rfl ⟨false, rfl, h⟩
  · rw [if_neg hc1] at h; refine cond_0 (b := (decide ((t0.n : Int) ≠ (t1.n : Int)))) rfl (decide_eq_false hc1) ?_
    refine wp_skip ?_
    refine then_n ?_
    refine seq_ ?_
    refine seq_ ?_
    refine region_ ?_
    refine st_val (ex_assign (v := (.int .i64 0)) rfl) ?_
    refine wl_nil ?_
    refine then_n ?_
    refine wp_block ?_
    refine wp_lp (σ := Int) (fun s2 a => ∃ j, a = F 42 (upds j [(0, (Sl.v t0)), (1, (Sl.v t1)), (5, (.int .i64 s2))])) h (mk_upds (ae rfl (ae rfl (ae rfl ae0)))) ?_
    clear h; rintro s2 _ w n2 ⟨j, rfl⟩ h
    refine seq_ ?_
    refine seq_ ?_
    refine region_ ?_
    refine st_val (ex_move (v := (.int .i64 s2)) rfl) ?_
    refine st_val (ex_move (v := (Sl.v t0)) rfl) ?_
    refine st_val (ex_len (s := t0) Try.underlying23 rfl) ?_
    refine st_val (ex_lss (a := s2) (b := (t0.n : Int)) rfl rfl) ?_
    refine wl_nil ?_
    refine then_n ?_
    by_cases hc3 : s2 < (t0.n : Int)
    · rw [if_pos hc3] at h; refine cond_1 (b := (decide (s2 < (t0.n : Int)))) rfl (decide_eq_true hc3) ?_
      refine wp_skip ?_
      refine then_n ?_
      refine seq_ ?_
      refine wp_block ?_
      refine wp_jn (σ := Bool) (fun s4 l => ∃ j, l = upds j [(0, (Sl.v t0)), (1, (Sl.v t1)), (5, (.int .i64 s2)), (41, (.bool s4))]) h ?_ ?_
      · clear h; rintro s4 _ w ⟨j, rfl⟩ h
        by_cases hc7 : s4 = true
        · rw [if_pos hc7] at h; refine cond_1 (b := s4) rfl hc7 ?_
          refine seq_ ?_
          refine region_ ?_
          refine st_val (ex_assign (v := (.bool false)) rfl) ?_
          refine wl_nil ?_
          refine then_n ?_
          refine wp_ret ?_
          refine inb_r ?_
          refine then_r ?_
          refine then_r ?_
          refine inb_r ?_
          refine then_r ?_
          refine ret_1 rfl rfl ⟨false, rfl, h⟩
        · rw [if_neg hc7] at h; refine cond_0 (b := s4) rfl (Bool.eq_false_iff.2 hc7) ?_
          refine wp_skip ?_
          refine inb_n ?_
          refine then_n ?_
          refine region_ ?_
          refine st_val (ex_move (v := (.int .i64 s2)) rfl) ?_
          refine st_val (ex_add (a := s2) (b := 1) rfl rfl) ?_
          refine st_val (ex_assign (v := (.int .i64 (IntKind.i64.wrap (s2 + 1)))) rfl) ?_
          refine wl_nil ?_
          exact then_n ⟨(IntKind.i64.wrap (s2 + 1)), mk_upds (ae rfl (ae rfl (ae rfl ae0))), h⟩
      · clear h; intro k4 h
        refine dr_begin mixed [22] (listed := #[false, false, false, false, false, false, false, false, false, false, false, false, false, false, false, false, false, false, false, false, false, false, false, false, false]) rfl (n := 25) rfl h ?_; clear h; intro w5 h
        have hE : Ext w5 w5 := Ext.refl _
        refine dr_takeP (i := 0) (by kernel_rfl) rfl (fun _ _ _ h => h) (fun _ => hE) (fun _ => ex_move (v := (Sl.v t0)) rfl) ?_
        refine dr_takeP (i := 1) (by kernel_rfl) rfl (fun _ _ _ h => h) (fun _ => hE) (fun _ => ex_move (v := (.int .i64 s2)) rfl) ?_
        obtain ⟨t19, ht19, h⟩ := h
        refine dr_takeP (i := 2) (by kernel_rfl) rfl (fun _ _ _ h => h) (fun _ => hE) (fun _ => (fun r => ex_indexAddr rfl rfl r) (ht19 _)) ?_
        refine dr_takeP (i := 3) (by kernel_rfl) rfl (fun _ _ _ h => h) (fun _ => hE) (fun _ => ex_fa fa32_0 (p := t19) rfl) ?_
        obtain ⟨t21, ht21, h⟩ := h
        refine dr_take (i := 4) (by kernel_rfl) rfl (fun _ _ _ h => h) hE (fun _ hw => (fun r => ex_load rfl r) (ht21 _ hw)) ?_
        refine dr_takeP (i := 5) (by kernel_rfl) rfl (fun _ _ _ h => h) (fun _ => hE) (fun _ => ex_move (v := (Sl.v t1)) rfl) ?_
        refine dr_takeP (i := 6) (by kernel_rfl) rfl (fun _ _ _ h => h) (fun _ => hE) (fun _ => ex_move (v := (.int .i64 s2)) rfl) ?_
        obtain ⟨t24, ht24, h⟩ := h
        refine dr_takeP (i := 7) (by kernel_rfl) rfl (fun _ _ _ h => h) (fun _ => hE) (fun _ => (fun r => ex_indexAddr rfl rfl r) (ht24 _)) ?_
        refine dr_takeP (i := 8) (by kernel_rfl) rfl (fun _ _ _ h => h) (fun _ => hE) (fun _ => ex_fa fa32_0 (p := t24) rfl) ?_
        obtain ⟨t26, ht26, h⟩ := h
        refine dr_take (i := 9) (by kernel_rfl) rfl (fun _ _ _ h => h) hE (fun _ hw => (fun r => ex_load rfl r) (ht26 _ hw)) ?_
        refine dr_takeP (i := 10) (by kernel_rfl) rfl (fun _ _ _ h => h) (fun _ => hE) (fun _ => ex_neqS (a := t21) (b := t26) rfl rfl) ?_
        refine dr_takeP (i := 11) (by kernel_rfl) rfl (fun _ _ _ h => h) (fun _ => hE) (fun _ => ex_move (v := (.bool (decide (t21 ≠ t26)))) rfl) ?_
        by_cases hc6 : t21 ≠ t26
        · rw [if_pos hc6] at h
          refine dr_take_off (i := 12) (t := 28) (c := (decide (t21 ≠ t26))) (by kernel_rfl) rfl rfl rfl (decide_eq_true hc6) (fun _ _ _ h => h) (fun _ => hE) ?_
          refine dr_take_off (i := 13) (t := 28) (c := (decide (t21 ≠ t26))) (by kernel_rfl) rfl rfl rfl (decide_eq_true hc6) (fun _ _ _ h => h) (fun _ => hE) ?_
          refine dr_take_off (i := 14) (t := 28) (c := (decide (t21 ≠ t26))) (by kernel_rfl) rfl rfl rfl (decide_eq_true hc6) (fun _ _ _ h => h) (fun _ => hE) ?_
          refine dr_take_off (i := 15) (t := 28) (c := (decide (t21 ≠ t26))) (by kernel_rfl) rfl rfl rfl (decide_eq_true hc6) (fun _ _ _ h => h) (fun _ => hE) ?_
          refine dr_take_off (i := 16) (t := 28) (c := (decide (t21 ≠ t26))) (by kernel_rfl) rfl rfl rfl (decide_eq_true hc6) (fun _ _ _ h => h) (fun _ => hE) ?_
          refine dr_take_off (i := 17) (t := 28) (c := (decide (t21 ≠ t26))) (by kernel_rfl) rfl rfl rfl (decide_eq_true hc6) (fun _ _ _ h => h) (fun _ => hE) ?_
          refine dr_take_off (i := 18) (t := 28) (c := (decide (t21 ≠ t26))) (by kernel_rfl) rfl rfl rfl (decide_eq_true hc6) (fun _ _ _ h => h) (fun _ => hE) ?_
          refine dr_take_off (i := 19) (t := 28) (c := (decide (t21 ≠ t26))) (by kernel_rfl) rfl rfl rfl (decide_eq_true hc6) (fun _ _ _ h => h) (fun _ => hE) ?_
          refine dr_take_off (i := 20) (t := 28) (c := (decide (t21 ≠ t26))) (by kernel_rfl) rfl rfl rfl (decide_eq_true hc6) (fun _ _ _ h => h) (fun _ => hE) ?_
          refine dr_take_off (i := 21) (t := 28) (c := (decide (t21 ≠ t26))) (by kernel_rfl) rfl rfl rfl (decide_eq_true hc6) (fun _ _ _ h => h) (fun _ => hE) ?_
          refine dr_only_off (i := 22) (t := 28) (c := (decide (t21 ≠ t26))) (by kernel_rfl) rfl rfl rfl (decide_eq_true hc6) (fun _ => hE) ?_
          refine dr_take_off (i := 23) (t := 28) (c := (decide (t21 ≠ t26))) (by kernel_rfl) rfl rfl rfl (decide_eq_true hc6) (fun _ _ _ h => h) (noG (by kernel_rfl)) ?_
          refine dr_takeP (i := 24) (by kernel_rfl) rfl (fun _ _ _ h => h) (noG (by kernel_rfl)) (fun _ => ex_pick1 (b := (decide (t21 ≠ t26))) rfl (decide_eq_true hc6) (v := (.bool true)) rfl) ?_
          refine dr_end (by kernel_rfl) ?_
          exact then_n ⟨true, _, rfl, mk_upds' (ae rfl (ae rfl (ae rfl (ae rfl ae0)))), h⟩
        · rw [if_neg hc6] at h
          refine dr_takeP_on (i := 12) (t := 28) (c := (decide (t21 ≠ t26))) (by kernel_rfl) rfl rfl rfl (decide_eq_false hc6) (fun _ _ _ h => h) (fun _ => hE) (fun _ => ex_move (v := (Sl.v t0)) rfl) ?_
          refine dr_takeP_on (i := 13) (t := 28) (c := (decide (t21 ≠ t26))) (by kernel_rfl) rfl rfl rfl (decide_eq_false hc6) (fun _ _ _ h => h) (fun _ => hE) (fun _ => ex_move (v := (.int .i64 s2)) rfl) ?_
          obtain ⟨t31, ht31, h⟩ := h
          refine dr_takeP_on (i := 14) (t := 28) (c := (decide (t21 ≠ t26))) (by kernel_rfl) rfl rfl rfl (decide_eq_false hc6) (fun _ _ _ h => h) (fun _ => hE) (fun _ => (fun r => ex_indexAddr rfl rfl r) (ht31 _)) ?_
          refine dr_takeP_on (i := 15) (t := 28) (c := (decide (t21 ≠ t26))) (by kernel_rfl) rfl rfl rfl (decide_eq_false hc6) (fun _ _ _ h => h) (fun _ => hE) (fun _ => ex_fa fa32_1 (p := t31) rfl) ?_
          obtain ⟨t33, ht33, h⟩ := h
          refine dr_take_on (i := 16) (t := 28) (c := (decide (t21 ≠ t26))) (by kernel_rfl) rfl rfl rfl (decide_eq_false hc6) (fun _ _ _ h => h) hE (fun _ hw => (fun r => ex_load rfl r) (ht33 _ hw)) ?_
          refine dr_takeP_on (i := 17) (t := 28) (c := (decide (t21 ≠ t26))) (by kernel_rfl) rfl rfl rfl (decide_eq_false hc6) (fun _ _ _ h => h) (fun _ => hE) (fun _ => ex_move (v := (Sl.v t1)) rfl) ?_
          refine dr_takeP_on (i := 18) (t := 28) (c := (decide (t21 ≠ t26))) (by kernel_rfl) rfl rfl rfl (decide_eq_false hc6) (fun _ _ _ h => h) (fun _ => hE) (fun _ => ex_move (v := (.int .i64 s2)) rfl) ?_
          obtain ⟨t36, ht36, h⟩ := h
          refine dr_takeP_on (i := 19) (t := 28) (c := (decide (t21 ≠ t26))) (by kernel_rfl) rfl rfl rfl (decide_eq_false hc6) (fun _ _ _ h => h) (fun _ => hE) (fun _ => (fun r => ex_indexAddr rfl rfl r) (ht36 _)) ?_
          refine dr_takeP_on (i := 20) (t := 28) (c := (decide (t21 ≠ t26))) (by kernel_rfl) rfl rfl rfl (decide_eq_false hc6) (fun _ _ _ h => h) (fun _ => hE) (fun _ => ex_fa fa32_1 (p := t36) rfl) ?_
          obtain ⟨t38, ht38, h⟩ := h
          refine dr_take_on (i := 21) (t := 28) (c := (decide (t21 ≠ t26))) (by kernel_rfl) rfl rfl rfl (decide_eq_false hc6) (fun _ _ _ h => h) hE (fun _ hw => (fun r => ex_load rfl r) (ht38 _ hw)) ?_
          refine dr_only_on (i := 22) (t := 28) (c := (decide (t21 ≠ t26))) (by kernel_rfl) rfl rfl rfl (decide_eq_false hc6) ?_
          refine o_cal en61 rfl h ?_; clear h; intro t39 w h; refine ⟨noG (by kernel_rfl), ?_⟩
          refine dr_takeP_on (i := 23) (t := 28) (c := (decide (t21 ≠ t26))) (by kernel_rfl) rfl rfl rfl (decide_eq_false hc6) (fun _ _ _ h => h) (noG (by kernel_rfl)) (fun _ => ex_not (b := t39) rfl) ?_
          refine dr_takeP (i := 24) (by kernel_rfl) rfl (fun _ _ _ h => h) (noG (by kernel_rfl)) (fun _ => ex_pick0 (b := (decide (t21 ≠ t26))) rfl (decide_eq_false hc6) (v := (.bool (!t39))) rfl) ?_
          refine dr_end (by kernel_rfl) ?_
          exact then_n ⟨(!t39), _, rfl, mk_upds' (ae rfl (ae rfl (ae rfl (ae rfl ae0)))), h⟩
    · rw [if_neg hc3] at h; refine cond_0 (b := (decide (s2 < (t0.n : Int)))) rfl (decide_eq_false hc3) ?_
      refine wp_exit ?_
      refine then_e ?_
      refine then_e ?_
      refine inb_e ?_
      refine then_n ?_
      refine seq_ ?_
      refine region_ ?_
      refine st_val (ex_assign (v := (.bool true)) rfl) ?_
      refine wl_nil ?_
      refine then_n ?_
      refine wp_ret ?_
      refine ret_1 rfl rfl ⟨true, rfl, h⟩

/-- turnpike/turnpikelaw15.stay; slots 0:given, 1:l, 2:given, 3:l, 5:i, 6:ok -/
def f21 (t0 : Sl) (t1 : Sl) (R : (Bool) → World → Prop) (w : World) : Prop :=
  Jn (σ := Bool) (fun k1 =>
    if (t0.n : Int) ≠ (t1.n : Int) then
      k1 true w
    else
      RnP Try.prog Sl.v (Instr.sliceAt 22 (Sl.v t0) none (some (.int .i64 (IntKind.i64.wrap ((t1.n : Int) + 1)))) none) fun t17 =>
      RnP Try.prog Ptr (Instr.indexAt 22 (Sl.v t17) (.int .i64 (t1.n : Int))) fun t20 =>
      Rn Try.prog (Value.int .i64) (Instr.loadAt 3 (Ptr (t20.add 0))) w fun t22 w =>
      k1 (decide (t22 ≠ (-77))) w
  ) fun s1 w =>
    if s1 = true then
      R false w
    else
      Lp (σ := Int) (fun s4 w n4 =>
        if s4 < (t1.n : Int) then
          Dr w fun w6 w =>
            RnP Try.prog Ptr (Instr.indexAt 22 (Sl.v t0) (.int .i64 s4)) fun t33 =>
            RnL Try.prog TResource.v (Instr.loadAt 48 (Ptr t33)) w6 fun t34 =>
            RnP Try.prog Ptr (Instr.indexAt 22 (Sl.v t1) (.int .i64 s4)) fun t37 =>
            RnL Try.prog TResource.v (Instr.loadAt 48 (Ptr t37)) w6 fun t38 =>
            Cal Try.prog Value.bool 62 #[(TResource.v t34), (TResource.v t38)] w fun t39 w =>
            if (!t39) = true then
              R false w
            else
              n4 (IntKind.i64.wrap (s4 + 1)) w
        else
          R true w
      ) 0 w
theorem c21 {t0 : Sl} {t1 : Sl} {R : (Bool) → World → Prop} {w : World} (h : f21 t0 t1 R w) :
    Cal Try.prog Value.bool 21 #[(Sl.v t0), (Sl.v t1)] w R := by
  unfold f21 at h
  refine calls_ Try.func21 Try.ntmps21 rfl rfl ?_
  refine seq_ ?_
  refine region_ ?_
  refine st_val (ex_assign (v := (.bool false)) rfl) ?_
  refine wl_nil ?_
  refine then_n ?_
  refine seq_ ?_
  refine wp_jn (σ := Bool) (fun s1 l => ∃ j, l = upds j [(0, (Sl.v t0)), (1, (Sl.v t1)), (24, (.bool s1))]) h ?_ ?_
  · clear h; rintro s1 _ w ⟨j, rfl⟩ h
    by_cases hc3 : s1 = true
    · rw [if_pos hc3] at h; refine cond_1 (b := s1) rfl hc3 ?_
      refine seq_ ?_
      refine region_ ?_
      refine st_val (ex_assign (v := (.bool false)) rfl) ?_
      refine wl_nil ?_
      refine then_n ?_
      refine wp_ret ?_
      refine then_r ?_
      refine ret_1 rfl rfl ⟨false, rfl, h⟩
    · rw [if_neg hc3] at h; refine cond_0 (b := s1) rfl (Bool.eq_false_iff.2 hc3) ?_
      refine wp_skip ?_
      refine then_n ?_
      refine seq_ ?_
      refine seq_ ?_
      refine region_ ?_
      refine st_val (ex_assign (v := (.int .i64 0)) rfl) ?_
      refine wl_nil ?_
      refine then_n ?_
      refine wp_block ?_
      refine wp_lp (σ := Int) (fun s4 a => ∃ j, a = F 42 (upds j [(0, (Sl.v t0)), (1, (Sl.v t1)), (5, (.int .i64 s4))])) h (mk_upds (ae rfl (ae rfl (ae rfl ae0)))) ?_
      clear h; rintro s4 _ w n4 ⟨j, rfl⟩ h
      refine seq_ ?_
      refine seq_ ?_
      refine region_ ?_
      refine st_val (ex_move (v := (.int .i64 s4)) rfl) ?_
      refine st_val (ex_move (v := (Sl.v t1)) rfl) ?_
      refine st_val (ex_len (s := t1) Try.underlying22 rfl) ?_
      refine st_val (ex_lss (a := s4) (b := (t1.n : Int)) rfl rfl) ?_
      refine wl_nil ?_
      refine then_n ?_
      by_cases hc5 : s4 < (t1.n : Int)
      · rw [if_pos hc5] at h; refine cond_1 (b := (decide (s4 < (t1.n : Int)))) rfl (decide_eq_true hc5) ?_
        refine wp_skip ?_
        refine then_n ?_
        refine seq_ ?_
        refine wp_block ?_
        refine seq_ ?_
        refine dr_begin mixed [8] (listed := #[false, false, false, false, false, false, false, false, false, false]) rfl (n := 10) rfl h ?_; clear h; intro w6 h
        have hE : Ext w6 w6 := Ext.refl _
        refine dr_takeP (i := 0) (by kernel_rfl) rfl (fun _ _ _ h => h) (fun _ => hE) (fun _ => ex_move (v := (Sl.v t0)) rfl) ?_
        refine dr_takeP (i := 1) (by kernel_rfl) rfl (fun _ _ _ h => h) (fun _ => hE) (fun _ => ex_move (v := (.int .i64 s4)) rfl) ?_
        obtain ⟨t33, ht33, h⟩ := h
        refine dr_takeP (i := 2) (by kernel_rfl) rfl (fun _ _ _ h => h) (fun _ => hE) (fun _ => (fun r => ex_indexAddr rfl rfl r) (ht33 _)) ?_
        obtain ⟨t34, ht34, h⟩ := h
        refine dr_take (i := 3) (by kernel_rfl) rfl (fun _ _ _ h => h) hE (fun _ hw => (fun r => ex_load rfl r) (ht34 _ hw)) ?_
        refine dr_takeP (i := 4) (by kernel_rfl) rfl (fun _ _ _ h => h) (fun _ => hE) (fun _ => ex_move (v := (Sl.v t1)) rfl) ?_
        refine dr_takeP (i := 5) (by kernel_rfl) rfl (fun _ _ _ h => h) (fun _ => hE) (fun _ => ex_move (v := (.int .i64 s4)) rfl) ?_
        obtain ⟨t37, ht37, h⟩ := h
        refine dr_takeP (i := 6) (by kernel_rfl) rfl (fun _ _ _ h => h) (fun _ => hE) (fun _ => (fun r => ex_indexAddr rfl rfl r) (ht37 _)) ?_
        obtain ⟨t38, ht38, h⟩ := h
        refine dr_take (i := 7) (by kernel_rfl) rfl (fun _ _ _ h => h) hE (fun _ hw => (fun r => ex_load rfl r) (ht38 _ hw)) ?_
        refine dr_only (i := 8) (by kernel_rfl) rfl rfl ?_
        refine o_cal en62 rfl h ?_; clear h; intro t39 w h; refine ⟨noG (by kernel_rfl), ?_⟩
        refine dr_takeP (i := 9) (by kernel_rfl) rfl (fun _ _ _ h => h) (noG (by kernel_rfl)) (fun _ => ex_assign (v := (.bool t39)) rfl) ?_
        refine dr_end (by kernel_rfl) ?_
        refine then_n ?_
        refine seq_ ?_
        refine region_ ?_
        refine st_val (ex_move (v := (.bool t39)) rfl) ?_
        refine st_val (ex_not (b := t39) rfl) ?_
        refine wl_nil ?_
        refine then_n ?_
        by_cases hc7 : (!t39) = true
        · rw [if_pos hc7] at h; refine cond_1 (b := (!t39)) rfl hc7 ?_
          refine seq_ ?_
          refine region_ ?_
          refine st_val (ex_assign (v := (.bool false)) rfl) ?_
          refine wl_nil ?_
          refine then_n ?_
          refine wp_ret ?_
          refine inb_r ?_
          refine then_r ?_
          refine then_r ?_
          refine inb_r ?_
          refine then_r ?_
          refine ret_1 rfl rfl ⟨false, rfl, h⟩
        · rw [if_neg hc7] at h; refine cond_0 (b := (!t39)) rfl (Bool.eq_false_iff.2 hc7) ?_
          refine wp_skip ?_
          refine inb_n ?_
          refine then_n ?_
          refine region_ ?_
          refine st_val (ex_move (v := (.int .i64 s4)) rfl) ?_
          refine st_val (ex_add (a := s4) (b := 1) rfl rfl) ?_
          refine st_val (ex_assign (v := (.int .i64 (IntKind.i64.wrap (s4 + 1)))) rfl) ?_
          refine wl_nil ?_
          exact then_n ⟨(IntKind.i64.wrap (s4 + 1)), mk_upds (ae rfl (ae rfl (ae rfl ae0))), h⟩
      · rw [if_neg hc5] at h; refine cond_0 (b := (decide (s4 < (t1.n : Int)))) rfl (decide_eq_false hc5) ?_
        refine wp_exit ?_
        refine then_e ?_
        refine then_e ?_
        refine inb_e ?_
        refine then_n ?_
        refine seq_ ?_
        refine region_ ?_
        refine st_val (ex_assign (v := (.bool true)) rfl) ?_
        refine wl_nil ?_
        refine then_n ?_
        refine wp_ret ?_
        refine ret_1 rfl rfl ⟨true, rfl, h⟩
  · clear h; intro k1 h
    refine region_ ?_
    refine st_val (ex_move (v := (Sl.v t0)) rfl) ?_
    refine st_val (ex_len (s := t0) Try.underlying22 rfl) ?_
    refine st_val (ex_move (v := (Sl.v t1)) rfl) ?_
    refine st_val (ex_len (s := t1) Try.underlying22 rfl) ?_
    refine st_val (ex_neq (a := (t0.n : Int)) (b := (t1.n : Int)) rfl rfl) ?_
    refine st_val (ex_move (v := (.bool (decide ((t0.n : Int) ≠ (t1.n : Int))))) rfl) ?_
    by_cases hc2 : (t0.n : Int) ≠ (t1.n : Int)
    · rw [if_pos hc2] at h
      refine st_off (t := 12) (c := (decide ((t0.n : Int) ≠ (t1.n : Int)))) rfl rfl (decide_eq_true hc2) ?_
      refine st_off (t := 12) (c := (decide ((t0.n : Int) ≠ (t1.n : Int)))) rfl rfl (decide_eq_true hc2) ?_
      refine st_off (t := 12) (c := (decide ((t0.n : Int) ≠ (t1.n : Int)))) rfl rfl (decide_eq_true hc2) ?_
      refine st_off (t := 12) (c := (decide ((t0.n : Int) ≠ (t1.n : Int)))) rfl rfl (decide_eq_true hc2) ?_
      refine st_off (t := 12) (c := (decide ((t0.n : Int) ≠ (t1.n : Int)))) rfl rfl (decide_eq_true hc2) ?_
      refine st_off (t := 12) (c := (decide ((t0.n : Int) ≠ (t1.n : Int)))) rfl rfl (decide_eq_true hc2) ?_
      refine st_off (t := 12) (c := (decide ((t0.n : Int) ≠ (t1.n : Int)))) rfl rfl (decide_eq_true hc2) ?_
      refine st_off (t := 12) (c := (decide ((t0.n : Int) ≠ (t1.n : Int)))) rfl rfl (decide_eq_true hc2) ?_
      refine st_off (t := 12) (c := (decide ((t0.n : Int) ≠ (t1.n : Int)))) rfl rfl (decide_eq_true hc2) ?_
      refine st_off (t := 12) (c := (decide ((t0.n : Int) ≠ (t1.n : Int)))) rfl rfl (decide_eq_true hc2) ?_
      refine st_off (t := 12) (c := (decide ((t0.n : Int) ≠ (t1.n : Int)))) rfl rfl (decide_eq_true hc2) ?_
      refine st_val (ex_pick1 (b := (decide ((t0.n : Int) ≠ (t1.n : Int)))) rfl (decide_eq_true hc2) (v := (.bool true)) rfl) ?_
      refine wl_nil ?_
      exact then_n ⟨true, _, rfl, mk_upds' (ae rfl (ae rfl (ae rfl ae0))), h⟩
    · rw [if_neg hc2] at h
      refine st_on (t := 12) (c := (decide ((t0.n : Int) ≠ (t1.n : Int)))) rfl rfl (decide_eq_false hc2) ?_
      refine st_val (ex_move (v := (Sl.v t0)) rfl) ?_
      refine st_on (t := 12) (c := (decide ((t0.n : Int) ≠ (t1.n : Int)))) rfl rfl (decide_eq_false hc2) ?_
      refine st_val (ex_move (v := (Sl.v t1)) rfl) ?_
      refine st_on (t := 12) (c := (decide ((t0.n : Int) ≠ (t1.n : Int)))) rfl rfl (decide_eq_false hc2) ?_
      refine st_val (ex_len (s := t1) Try.underlying22 rfl) ?_
      refine st_on (t := 12) (c := (decide ((t0.n : Int) ≠ (t1.n : Int)))) rfl rfl (decide_eq_false hc2) ?_
      refine st_val (ex_add (a := (t1.n : Int)) (b := 1) rfl rfl) ?_
      refine st_on (t := 12) (c := (decide ((t0.n : Int) ≠ (t1.n : Int)))) rfl rfl (decide_eq_false hc2) ?_
      refine st_rnp (fun r => ex_slice rfl rfl rfl rfl r) h ?_; clear h; intro t17 h
      refine st_on (t := 12) (c := (decide ((t0.n : Int) ≠ (t1.n : Int)))) rfl rfl (decide_eq_false hc2) ?_
      refine st_val (ex_move (v := (Sl.v t1)) rfl) ?_
      refine st_on (t := 12) (c := (decide ((t0.n : Int) ≠ (t1.n : Int)))) rfl rfl (decide_eq_false hc2) ?_
      refine st_val (ex_len (s := t1) Try.underlying22 rfl) ?_
      refine st_on (t := 12) (c := (decide ((t0.n : Int) ≠ (t1.n : Int)))) rfl rfl (decide_eq_false hc2) ?_
      refine st_rnp (fun r => ex_indexAddr rfl rfl r) h ?_; clear h; intro t20 h
      refine st_on (t := 12) (c := (decide ((t0.n : Int) ≠ (t1.n : Int)))) rfl rfl (decide_eq_false hc2) ?_
      refine st_val (ex_fa fa48_0 (p := t20) rfl) ?_
      refine st_on (t := 12) (c := (decide ((t0.n : Int) ≠ (t1.n : Int)))) rfl rfl (decide_eq_false hc2) ?_
      refine st_rn (fun r => ex_load rfl r) h ?_; clear h; intro t22 w h
      refine st_on (t := 12) (c := (decide ((t0.n : Int) ≠ (t1.n : Int)))) rfl rfl (decide_eq_false hc2) ?_
      refine st_val (ex_neq (a := t22) (b := (-77)) rfl rfl) ?_
      refine st_val (ex_pick0 (b := (decide ((t0.n : Int) ≠ (t1.n : Int)))) rfl (decide_eq_false hc2) (v := (.bool (decide (t22 ≠ (-77))))) rfl) ?_
      refine wl_nil ?_
      exact then_n ⟨(decide (t22 ≠ (-77))), _, rfl, mk_upds' (ae rfl (ae rfl (ae rfl ae0))), h⟩

/-- turnpike/turnpikeref15.Steps; slots 0:l, 1:l, 3:out, 4:last, 5:i, 6:x, 7:i, 8:s -/
def f22 (t0 : Sl) (R : (Sl) → World → Prop) (w : World) : Prop :=
  Lp (σ := Int × Int) (fun s1 w n1 =>
    if s1.2 < (t0.n : Int) then
      Jn (σ := Int) (fun k3 =>
        RnP Try.prog Ptr (Instr.indexAt 23 (Sl.v t0) (.int .i64 s1.2)) fun t17 =>
        Rn Try.prog (Value.float .f64) (Instr.loadAt 30 (Ptr (t17.add 1))) w fun t19 w =>
        if (fGt t19 0) = true then
          k3 s1.2 w
        else
          k3 s1.1 w
      ) fun s3 w =>
        n1 (s3, (IntKind.i64.wrap (s1.2 + 1))) w
    else
      Lp (σ := Sl × Nat × Int) (fun s5 w n5 =>
        if s5.2.2 < (t0.n : Int) then
          Jn (σ := Sl × Nat) (fun k7 =>
            RnP Try.prog Ptr (Instr.indexAt 23 (Sl.v t0) (.int .i64 s5.2.2)) fun t30 =>
            Rn Try.prog (Value.float .f64) (Instr.loadAt 30 (Ptr (t30.add 1))) w fun t32 w =>
            if (!(fGt t32 0)) = true then
              k7 (s5.1, s5.2.1) w
            else
              RnP Try.prog Ptr (Instr.indexAt 23 (Sl.v t0) (.int .i64 s5.2.2)) fun t38 =>
              Rn Try.prog (Value.float .f64) (Instr.loadAt 30 (Ptr (t38.add 1))) w fun t40 w =>
              Rn Try.prog (Value.float .f64) (Op.floatArith .add .f64 s5.2.1 t40) w fun t41 w =>
              RnP Try.prog Ptr (Instr.indexAt 23 (Sl.v t0) (.int .i64 s5.2.2)) fun t44 =>
              Rn Try.prog Value.string (Instr.loadAt 9 (Ptr (t44.add 0))) w fun t46 w =>
              New 32 (TShare.cells (⟨⟨#[]⟩, 0⟩ : TShare)) w fun b8 w =>
              RnU Try.prog (Instr.storeAt 32 (Ptr (⟨b8, 0, none⟩ : Addr)) (TShare.v (⟨t46, t41⟩ : TShare))) w fun w =>
              Jn (σ := Unit) (fun k9 =>
                if s5.2.2 = s1.1 then
                  RnU Try.prog (Instr.storeAt 30 (Ptr ((⟨b8, 0, none⟩ : Addr).add 1)) (.float .f64 4607182418800017408)) w fun w =>
                  k9 () w
                else
                  k9 () w
              ) fun s9 w =>
                Rn Try.prog TShare.v (Instr.loadAt 32 (Ptr (⟨b8, 0, none⟩ : Addr))) w fun t54 w =>
                New 32 ((TShare.cells t54)) w fun b55 w =>
                Rn Try.prog Sl.v (Builtin.append_ #[23, 23] 23 #[(Sl.v s5.1), (Sl.v (⟨some ⟨b55, 0, none⟩, 1, 1⟩ : Sl))]) w fun t56 w =>
                k7 (t56, t41) w
          ) fun s7 w =>
            n5 (s7.1, s7.2, (IntKind.i64.wrap (s5.2.2 + 1))) w
        else
          R s5.1 w
      ) (Sl.nil, 0, 0) w
  ) ((-1), 0) w
theorem c22 {t0 : Sl} {R : (Sl) → World → Prop} {w : World} (h : f22 t0 R w) :
    Cal Try.prog Sl.v 22 #[(Sl.v t0)] w R := by
  unfold f22 at h
  refine calls_ Try.func22 Try.ntmps22 rfl rfl ?_
  refine seq_ ?_
  refine region_ ?_
  refine st_val (ex_assign (v := (Sl.v Sl.nil)) rfl) ?_
  refine wl_nil ?_
  refine then_n ?_
  refine seq_ ?_
  refine region_ ?_
  refine st_val (ex_assign (v := (Sl.v Sl.nil)) rfl) ?_
  refine wl_nil ?_
  refine then_n ?_
  refine seq_ ?_
  refine region_ ?_
  refine st_val (ex_assign (v := (.int .i64 (-1))) rfl) ?_
  refine wl_nil ?_
  refine then_n ?_
  refine seq_ ?_
  refine seq_ ?_
  refine region_ ?_
  refine st_val (ex_assign (v := (.int .i64 0)) rfl) ?_
  refine wl_nil ?_
  refine then_n ?_
  refine wp_block ?_
  refine wp_lp (σ := Int × Int) (fun s1 a => ∃ j, a = F 58 (upds j [(0, (Sl.v t0)), (3, (Sl.v Sl.nil)), (4, (.int .i64 s1.1)), (5, (.int .i64 s1.2))])) h (mk_upds (ae rfl (ae rfl (ae rfl (ae rfl ae0))))) ?_
  clear h; rintro s1 _ w n1 ⟨j, rfl⟩ h
  refine seq_ ?_
  refine seq_ ?_
  refine region_ ?_
  refine st_val (ex_move (v := (.int .i64 s1.2)) rfl) ?_
  refine st_val (ex_move (v := (Sl.v t0)) rfl) ?_
  refine st_val (ex_len (s := t0) Try.underlying23 rfl) ?_
  refine st_val (ex_lss (a := s1.2) (b := (t0.n : Int)) rfl rfl) ?_
  refine wl_nil ?_
  refine then_n ?_
  by_cases hc2 : s1.2 < (t0.n : Int)
  · rw [if_pos hc2] at h; refine cond_1 (b := (decide (s1.2 < (t0.n : Int)))) rfl (decide_eq_true hc2) ?_
    refine wp_skip ?_
    refine then_n ?_
    refine wp_jn (σ := Int) (fun s3 l => ∃ j, l = upds j [(0, (Sl.v t0)), (3, (Sl.v Sl.nil)), (4, (.int .i64 s3)), (5, (.int .i64 s1.2))]) h ?_ ?_
    · clear h; rintro s3 _ w ⟨j, rfl⟩ h
      refine region_ ?_
      refine st_val (ex_move (v := (.int .i64 s1.2)) rfl) ?_
      refine st_val (ex_add (a := s1.2) (b := 1) rfl rfl) ?_
      refine st_val (ex_assign (v := (.int .i64 (IntKind.i64.wrap (s1.2 + 1)))) rfl) ?_
      refine wl_nil ?_
      exact then_n ⟨(s3, (IntKind.i64.wrap (s1.2 + 1))), mk_upds (ae rfl (ae rfl (ae rfl (ae rfl ae0)))), h⟩
    · clear h; intro k3 h
      refine wp_block ?_
      refine seq_ ?_
      refine region_ ?_
      refine st_val (ex_move (v := (Sl.v t0)) rfl) ?_
      refine st_val (ex_move (v := (.int .i64 s1.2)) rfl) ?_
      refine st_rnp (fun r => ex_indexAddr rfl rfl r) h ?_; clear h; intro t17 h
      refine st_val (ex_fa fa32_1 (p := t17) rfl) ?_
      refine st_rn (fun r => ex_load rfl r) h ?_; clear h; intro t19 w h
      refine st_val (ex_gtrF (a := t19) (b := 0) rfl rfl) ?_
      refine wl_nil ?_
      refine then_n ?_
      by_cases hc4 : (fGt t19 0) = true
      · rw [if_pos hc4] at h; refine cond_1 (b := (fGt t19 0)) rfl hc4 ?_
        refine region_ ?_
        refine st_val (ex_move (v := (.int .i64 s1.2)) rfl) ?_
        refine st_val (ex_assign (v := (.int .i64 s1.2)) rfl) ?_
        refine wl_nil ?_
        refine inb_n ?_
        exact then_n ⟨s1.2, _, rfl, mk_upds' (ae rfl (ae rfl (ae rfl (ae rfl ae0)))), h⟩
      · rw [if_neg hc4] at h; refine cond_0 (b := (fGt t19 0)) rfl (Bool.eq_false_iff.2 hc4) ?_
        refine wp_skip ?_
        refine inb_n ?_
        exact then_n ⟨s1.1, _, rfl, mk_upds' (ae rfl (ae rfl (ae rfl (ae rfl ae0)))), h⟩
  · rw [if_neg hc2] at h; refine cond_0 (b := (decide (s1.2 < (t0.n : Int)))) rfl (decide_eq_false hc2) ?_
    refine wp_exit ?_
    refine then_e ?_
    refine then_e ?_
    refine inb_e ?_
    refine then_n ?_
    refine seq_ ?_
    refine region_ ?_
    refine st_val (ex_assign (v := (.float .f64 0)) rfl) ?_
    refine wl_nil ?_
    refine then_n ?_
    refine seq_ ?_
    refine seq_ ?_
    refine region_ ?_
    refine st_val (ex_assign (v := (.int .i64 0)) rfl) ?_
    refine wl_nil ?_
    refine then_n ?_
    refine wp_block ?_
    refine wp_lp (σ := Sl × Nat × Int) (fun s5 a => ∃ j, a = F 58 (upds j [(0, (Sl.v t0)), (3, (Sl.v s5.1)), (4, (.int .i64 s1.1)), (6, (.float .f64 s5.2.1)), (7, (.int .i64 s5.2.2))])) h (mk_upds (ae rfl (ae rfl (ae rfl (ae rfl (ae rfl ae0)))))) ?_
    clear h; rintro s5 _ w n5 ⟨j, rfl⟩ h
    refine seq_ ?_
    refine seq_ ?_
    refine region_ ?_
    refine st_val (ex_move (v := (.int .i64 s5.2.2)) rfl) ?_
    refine st_val (ex_move (v := (Sl.v t0)) rfl) ?_
    refine st_val (ex_len (s := t0) Try.underlying23 rfl) ?_
    refine st_val (ex_lss (a := s5.2.2) (b := (t0.n : Int)) rfl rfl) ?_
    refine wl_nil ?_
    refine then_n ?_
    by_cases hc6 : s5.2.2 < (t0.n : Int)
    · rw [if_pos hc6] at h; refine cond_1 (b := (decide (s5.2.2 < (t0.n : Int)))) rfl (decide_eq_true hc6) ?_
      refine wp_skip ?_
      refine then_n ?_
      refine wp_jn (σ := Sl × Nat) (fun s7 l => ∃ j, l = upds j [(0, (Sl.v t0)), (3, (Sl.v s7.1)), (4, (.int .i64 s1.1)), (6, (.float .f64 s7.2)), (7, (.int .i64 s5.2.2))]) h ?_ ?_
      · clear h; rintro s7 _ w ⟨j, rfl⟩ h
        refine region_ ?_
        refine st_val (ex_move (v := (.int .i64 s5.2.2)) rfl) ?_
        refine st_val (ex_add (a := s5.2.2) (b := 1) rfl rfl) ?_
        refine st_val (ex_assign (v := (.int .i64 (IntKind.i64.wrap (s5.2.2 + 1)))) rfl) ?_
        refine wl_nil ?_
        exact then_n ⟨(s7.1, s7.2, (IntKind.i64.wrap (s5.2.2 + 1))), mk_upds (ae rfl (ae rfl (ae rfl (ae rfl (ae rfl ae0))))), h⟩
      · clear h; intro k7 h
        refine wp_block ?_
        refine seq_ ?_
        refine seq_ ?_
        refine region_ ?_
        refine st_val (ex_move (v := (Sl.v t0)) rfl) ?_
        refine st_val (ex_move (v := (.int .i64 s5.2.2)) rfl) ?_
        refine st_rnp (fun r => ex_indexAddr rfl rfl r) h ?_; clear h; intro t30 h
        refine st_val (ex_fa fa32_1 (p := t30) rfl) ?_
        refine st_rn (fun r => ex_load rfl r) h ?_; clear h; intro t32 w h
        refine st_val (ex_gtrF (a := t32) (b := 0) rfl rfl) ?_
        refine st_val (ex_not (b := (fGt t32 0)) rfl) ?_
        refine wl_nil ?_
        refine then_n ?_
        by_cases hc8 : (!(fGt t32 0)) = true
        · rw [if_pos hc8] at h; refine cond_1 (b := (!(fGt t32 0))) rfl hc8 ?_
          refine wp_exit ?_
          refine then_e ?_
          refine inb_e ?_
          exact then_n ⟨(s5.1, s5.2.1), _, rfl, mk_upds' (ae rfl (ae rfl (ae rfl (ae rfl (ae rfl ae0))))), h⟩
        · rw [if_neg hc8] at h; refine cond_0 (b := (!(fGt t32 0))) rfl (Bool.eq_false_iff.2 hc8) ?_
          refine wp_skip ?_
          refine then_n ?_
          refine seq_ ?_
          refine region_ ?_
          refine st_val (ex_move (v := (.float .f64 s5.2.1)) rfl) ?_
          refine st_val (ex_move (v := (Sl.v t0)) rfl) ?_
          refine st_val (ex_move (v := (.int .i64 s5.2.2)) rfl) ?_
          refine st_rnp (fun r => ex_indexAddr rfl rfl r) h ?_; clear h; intro t38 h
          refine st_val (ex_fa fa32_1 (p := t38) rfl) ?_
          refine st_rn (fun r => ex_load rfl r) h ?_; clear h; intro t40 w h
          refine st_rn (fun r => ex_addF (a := s5.2.1) (b := t40) rfl rfl r) h ?_; clear h; intro t41 w h
          refine st_val (ex_assign (v := (.float .f64 t41)) rfl) ?_
          refine wl_nil ?_
          refine then_n ?_
          refine seq_ ?_
          refine region_ ?_
          refine st_val (ex_move (v := (Sl.v t0)) rfl) ?_
          refine st_val (ex_move (v := (.int .i64 s5.2.2)) rfl) ?_
          refine st_rnp (fun r => ex_indexAddr rfl rfl r) h ?_; clear h; intro t44 h
          refine st_val (ex_fa fa32_0 (p := t44) rfl) ?_
          refine st_rn (fun r => ex_load rfl r) h ?_; clear h; intro t46 w h
          refine st_val (ex_move (v := (.float .f64 t41)) rfl) ?_
          refine st_val (ex_build (a' := [(0, (.string t46)), (1, (.float .f64 t41))]) (v := TShare.v (⟨t46, t41⟩ : TShare)) rfl (e_build Try.underlying32 zero32 rfl pl32 rfl _)) ?_
          refine st_new (f := (fun b => Ptr ⟨b, 0, none⟩)) (ex_allocN zero32 rfl) h ?_; clear h; intro b8 w h
          refine st_rnu (fun r => ex_store rfl rfl r) h ?_; clear h; intro w h
          refine wl_nil ?_
          refine then_n ?_
          refine wp_jn (σ := Unit) (fun s9 l => ∃ j, l = upds j [(0, (Sl.v t0)), (3, (Sl.v s5.1)), (4, (.int .i64 s1.1)), (6, (.float .f64 t41)), (7, (.int .i64 s5.2.2)), (8, (Ptr (⟨b8, 0, none⟩ : Addr)))]) h ?_ ?_
          · clear h; rintro s9 _ w ⟨j, rfl⟩ h
            refine region_ ?_
            refine st_val (ex_move (v := (Sl.v s5.1)) rfl) ?_
            refine st_rn (fun r => ex_load rfl r) h ?_; clear h; intro t54 w h
            refine st_new (f := (fun b => Sl.v ⟨some ⟨b, 0, none⟩, 1, 1⟩)) (ex_buildSlice (a' := [(0, (TShare.v t54))]) rfl (e_buildSlice (cs := ((TShare.cells t54))) Try.underlying23 info32 iz32 (by decide +kernel) (by decide +kernel) (by kernel_rfl) _)) h ?_; clear h; intro b55 w h
            refine st_rn (fun r => ex_builtin rfl (fun _ => rfl) r) h ?_; clear h; intro t56 w h
            refine st_val (ex_assign (v := (Sl.v t56)) rfl) ?_
            refine wl_nil ?_
            refine inb_n ?_
            exact then_n ⟨(t56, t41), _, rfl, mk_upds' (ae rfl (ae rfl (ae rfl (ae rfl (ae rfl ae0))))), h⟩
          · clear h; intro k9 h
            refine seq_ ?_
            refine region_ ?_
            refine st_val (ex_move (v := (.int .i64 s5.2.2)) rfl) ?_
            refine st_val (ex_move (v := (.int .i64 s1.1)) rfl) ?_
            refine st_val (ex_eql (a := s5.2.2) (b := s1.1) rfl rfl) ?_
            refine wl_nil ?_
            refine then_n ?_
            by_cases hc10 : s5.2.2 = s1.1
            · rw [if_pos hc10] at h; refine cond_1 (b := (decide (s5.2.2 = s1.1))) rfl (decide_eq_true hc10) ?_
              refine region_ ?_
              refine st_val (ex_fa fa32_1 (p := (⟨b8, 0, none⟩ : Addr)) rfl) ?_
              refine st_rnu (fun r => ex_store rfl rfl r) h ?_; clear h; intro w h
              refine wl_nil ?_
              exact then_n ⟨(), _, rfl, mk_upds' (ae rfl (ae rfl (ae rfl (ae rfl (ae rfl (ae rfl ae0)))))), h⟩
            · rw [if_neg hc10] at h; refine cond_0 (b := (decide (s5.2.2 = s1.1))) rfl (decide_eq_false hc10) ?_
              refine wp_skip ?_
              exact then_n ⟨(), _, rfl, mk_upds' (ae rfl (ae rfl (ae rfl (ae rfl (ae rfl (ae rfl ae0)))))), h⟩
    · rw [if_neg hc6] at h; refine cond_0 (b := (decide (s5.2.2 < (t0.n : Int)))) rfl (decide_eq_false hc6) ?_
      refine wp_exit ?_
      refine then_e ?_
      refine then_e ?_
      refine inb_e ?_
      refine then_n ?_
      refine seq_ ?_
      refine region_ ?_
      refine st_val (ex_move (v := (Sl.v s5.1)) rfl) ?_
      refine st_val (ex_assign (v := (Sl.v s5.1)) rfl) ?_
      refine wl_nil ?_
      refine then_n ?_
      refine wp_ret ?_
      refine ret_1 rfl rfl ⟨s5.1, rfl, h⟩


end Go.Proofs.Ytdoeegfcmbcbkaa.Tr

/- Made by program: typed transformers of the functions, each met by its code. -/
namespace Go.Proofs.Ytdoeegfcmbcbkaa.Tr
open Go Go.Eng
set_option linter.unusedVariables false
set_option maxRecDepth 100000
set_option maxHeartbeats 4000000
/-- turnpike/check.Check; slots 0:conf, 1:conf, 4:i, 5:there, 6:d, 7:_, 8:r, 9:hosts, 10:i, 11:r, 12:n, 13:i, 14:r, 15:i, 16:r, 17:i, 18:r -/
def f46 (t0 : Sl) (R : (Sl × TFault) → World → Prop) (w : World) : Prop :=
  New 80 (TFault.cells (⟨0, 0, 0⟩ : TFault)) w fun b3 w =>
  Cal Try.prog (Value.int .i64) 93 #[(Sl.v t0)] w fun t20 w =>
  if 0 ≤ t20 then
    RnU Try.prog (Instr.storeAt 80 (Ptr (⟨b3, 0, none⟩ : Addr)) (TFault.v (⟨t20, 0, 2⟩ : TFault))) w fun w =>
    RnR Try.prog TFault.v (loadVar 80 (⟨b3, 0, none⟩ : Addr)) w fun r1 =>
    R (Sl.nil, r1) w
  else
    if 64 < (t0.n : Int) then
      RnU Try.prog (Instr.storeAt 80 (Ptr (⟨b3, 0, none⟩ : Addr)) (TFault.v (⟨0, 0, 124⟩ : TFault))) w fun w =>
      RnR Try.prog TFault.v (loadVar 80 (⟨b3, 0, none⟩ : Addr)) w fun r1_1 =>
      R (Sl.nil, r1_1) w
    else
      NewM w fun b29 w =>
      NewM w fun b30 w =>
      NewM w fun b31 w =>
      New 148 (TDepths.cells (⟨(some b30), (some b31)⟩ : TDepths)) w fun b33 w =>
      Lp (σ := Int) (fun s3 w n3 =>
        if s3 < (t0.n : Int) then
          Jn (σ := Unit) (fun k5 =>
            RnP Try.prog Ptr (Instr.indexAt 22 (Sl.v t0) (.int .i64 s3)) fun t38 =>
            Rn Try.prog TResource.v (Instr.loadAt 48 (Ptr t38)) w fun t39 w =>
            New 48 (TResource.cells (⟨0, ⟨#[]⟩, Sl.nil, Sl.nil, ⟨#[]⟩, Sl.nil, ⟨#[]⟩, false⟩ : TResource)) w fun b8 w =>
            RnU Try.prog (Instr.storeAt 48 (Ptr (⟨b8, 0, none⟩ : Addr)) (TResource.v t39)) w fun w =>
            Rn Try.prog TResource.v (Instr.loadAt 48 (Ptr (⟨b8, 0, none⟩ : Addr))) w fun t41 w =>
            Cal Try.prog TKey.v 63 #[(TResource.v t41)] w fun t42 w =>
            RnU Try.prog (Instr.mapUpdate 115 (.map (some b29)) (TKey.v t42) (.bool true)) w fun w =>
            Rn Try.prog (Value.int .i64) (Instr.loadAt 3 (Ptr ((⟨b8, 0, none⟩ : Addr).add 0))) w fun t44 w =>
            if t44 = 2 then
              Dr w fun w7 w =>
                RnL Try.prog Value.map (Instr.loadAt 145 (Ptr ((⟨b33, 0, none⟩ : Addr).add 0))) w7 fun t49 =>
                RnL Try.prog Value.string (Instr.loadAt 9 (Ptr ((⟨b8, 0, none⟩ : Addr).add 1))) w7 fun t51 =>
                RnL Try.prog TResource.v (Instr.loadAt 48 (Ptr (⟨b8, 0, none⟩ : Addr))) w7 fun t52 =>
                RnU Try.prog (Instr.mapUpdate 145 (.map t49) (.string t51) (TResource.v t52)) w fun w =>
                k5 () w
            else
              k5 () w
          ) fun s5 w =>
            n3 (IntKind.i64.wrap (s3 + 1)) w
        else
          NewM w fun b54 w =>
          Lp (σ := Int) (fun s8 w n8 =>
            if s8 < (t0.n : Int) then
              RnP Try.prog Ptr (Instr.indexAt 22 (Sl.v t0) (.int .i64 s8)) fun t60 =>
              Rn Try.prog TResource.v (Instr.loadAt 48 (Ptr t60)) w fun t61 w =>
              New 48 (TResource.cells (⟨0, ⟨#[]⟩, Sl.nil, Sl.nil, ⟨#[]⟩, Sl.nil, ⟨#[]⟩, false⟩ : TResource)) w fun b11 w =>
              RnU Try.prog (Instr.storeAt 48 (Ptr (⟨b11, 0, none⟩ : Addr)) (TResource.v t61)) w fun w =>
              Rn Try.prog TResource.v (Instr.loadAt 48 (Ptr (⟨b11, 0, none⟩ : Addr))) w fun t62 w =>
              Cal Try.prog (Value.int .i64) 94 #[(TResource.v t62), (.map (some b29))] w fun t64 w =>
              if 0 ≤ t64 then
                RnU Try.prog (Instr.storeAt 80 (Ptr (⟨b3, 0, none⟩ : Addr)) (TFault.v (⟨s8, t64, 140⟩ : TFault))) w fun w =>
                RnR Try.prog TFault.v (loadVar 80 (⟨b3, 0, none⟩ : Addr)) w fun r1_2 =>
                R (Sl.nil, r1_2) w
              else
                n8 (IntKind.i64.wrap (s8 + 1)) w
            else
              Lp (σ := Int) (fun s11 w n11 =>
                if s11 < (t0.n : Int) then
                  Jn (σ := Unit) (fun k13 =>
                    RnP Try.prog Ptr (Instr.indexAt 22 (Sl.v t0) (.int .i64 s11)) fun t76 =>
                    Rn Try.prog TResource.v (Instr.loadAt 48 (Ptr t76)) w fun t77 w =>
                    New 48 (TResource.cells (⟨0, ⟨#[]⟩, Sl.nil, Sl.nil, ⟨#[]⟩, Sl.nil, ⟨#[]⟩, false⟩ : TResource)) w fun b14 w =>
                    RnU Try.prog (Instr.storeAt 48 (Ptr (⟨b14, 0, none⟩ : Addr)) (TResource.v t77)) w fun w =>
                    Jn (σ := Bool) (fun k14 =>
                      Rn Try.prog (Value.int .i64) (Instr.loadAt 3 (Ptr ((⟨b14, 0, none⟩ : Addr).add 0))) w fun t79 w =>
                      if t79 = 3 then
                        Rn Try.prog Value.string (Instr.loadAt 9 (Ptr ((⟨b14, 0, none⟩ : Addr).add 4))) w fun t84 w =>
                        Rn Try.prog Value.bool (Instr.lookup 149 (.map (some b54)) (.string t84) false) w fun t85 w =>
                        k14 t85 w
                      else
                        k14 false w
                    ) fun s14 w =>
                      if s14 = true then
                        RnU Try.prog (Instr.storeAt 80 (Ptr (⟨b3, 0, none⟩ : Addr)) (TFault.v (⟨s11, 0, 141⟩ : TFault))) w fun w =>
                        RnR Try.prog TFault.v (loadVar 80 (⟨b3, 0, none⟩ : Addr)) w fun r1_3 =>
                        R (Sl.nil, r1_3) w
                      else
                        Rn Try.prog Value.string (Instr.loadAt 9 (Ptr ((⟨b14, 0, none⟩ : Addr).add 4))) w fun t91 w =>
                        Rn Try.prog Value.string (Instr.loadAt 9 (Ptr ((⟨b14, 0, none⟩ : Addr).add 4))) w fun t94 w =>
                        Rn Try.prog Value.bool (Instr.lookup 149 (.map (some b54)) (.string t94) false) w fun t95 w =>
                        if t95 = true then
                          RnU Try.prog (Instr.mapUpdate 149 (.map (some b54)) (.string t91) (.bool true)) w fun w =>
                          k13 () w
                        else
                          Rn Try.prog (Value.int .i64) (Instr.loadAt 3 (Ptr ((⟨b14, 0, none⟩ : Addr).add 0))) w fun t98 w =>
                          RnU Try.prog (Instr.mapUpdate 149 (.map (some b54)) (.string t91) (.bool (decide (t98 = 3)))) w fun w =>
                          k13 () w
                  ) fun s13 w =>
                    n11 (IntKind.i64.wrap (s11 + 1)) w
                else
                  Lp (σ := Int) (fun s18 w n18 =>
                    if s18 < (t0.n : Int) then
                      RnP Try.prog Ptr (Instr.indexAt 22 (Sl.v t0) (.int .i64 s18)) fun t107 =>
                      Rn Try.prog TResource.v (Instr.loadAt 48 (Ptr t107)) w fun t108 w =>
                      New 48 (TResource.cells (⟨0, ⟨#[]⟩, Sl.nil, Sl.nil, ⟨#[]⟩, Sl.nil, ⟨#[]⟩, false⟩ : TResource)) w fun b16 w =>
                      RnU Try.prog (Instr.storeAt 48 (Ptr (⟨b16, 0, none⟩ : Addr)) (TResource.v t108)) w fun w =>
                      Jn (σ := Bool) (fun k20 =>
                        Rn Try.prog (Value.int .i64) (Instr.loadAt 3 (Ptr ((⟨b16, 0, none⟩ : Addr).add 0))) w fun t110 w =>
                        if t110 = 2 then
                          Rn Try.prog TResource.v (Instr.loadAt 48 (Ptr (⟨b16, 0, none⟩ : Addr))) w fun t113 w =>
                          Cal Try.prog Value.bool 95 #[(TResource.v t113)] w fun t114 w =>
                          k20 t114 w
                        else
                          k20 false w
                      ) fun s20 w =>
                        if s20 = true then
                          RnU Try.prog (Instr.storeAt 80 (Ptr (⟨b3, 0, none⟩ : Addr)) (TFault.v (⟨s18, 0, 142⟩ : TFault))) w fun w =>
                          RnR Try.prog TFault.v (loadVar 80 (⟨b3, 0, none⟩ : Addr)) w fun r1_4 =>
                          R (Sl.nil, r1_4) w
                        else
                          n18 (IntKind.i64.wrap (s18 + 1)) w
                    else
                      Lp (σ := Int) (fun s23 w n23 =>
                        if s23 < (t0.n : Int) then
                          RnP Try.prog Ptr (Instr.indexAt 22 (Sl.v t0) (.int .i64 s23)) fun t124 =>
                          Rn Try.prog TResource.v (Instr.loadAt 48 (Ptr t124)) w fun t125 w =>
                          New 48 (TResource.cells (⟨0, ⟨#[]⟩, Sl.nil, Sl.nil, ⟨#[]⟩, Sl.nil, ⟨#[]⟩, false⟩ : TResource)) w fun b18 w =>
                          RnU Try.prog (Instr.storeAt 48 (Ptr (⟨b18, 0, none⟩ : Addr)) (TResource.v t125)) w fun w =>
                          Jn (σ := Bool) (fun k25 =>
                            Rn Try.prog (Value.int .i64) (Instr.loadAt 3 (Ptr ((⟨b18, 0, none⟩ : Addr).add 0))) w fun t127 w =>
                            if t127 = 2 then
                              Rn Try.prog Value.string (Instr.loadAt 9 (Ptr ((⟨b18, 0, none⟩ : Addr).add 1))) w fun t132 w =>
                              Cal Try.prog (Value.int .i64) 96 #[(Ptr (⟨b33, 0, none⟩ : Addr)), (.string t132)] w fun t133 w =>
                              k25 (decide (8 < t133)) w
                            else
                              k25 false w
                          ) fun s25 w =>
                            if s25 = true then
                              RnU Try.prog (Instr.storeAt 80 (Ptr (⟨b3, 0, none⟩ : Addr)) (TFault.v (⟨s23, 0, 143⟩ : TFault))) w fun w =>
                              RnR Try.prog TFault.v (loadVar 80 (⟨b3, 0, none⟩ : Addr)) w fun r1_5 =>
                              R (Sl.nil, r1_5) w
                            else
                              n23 (IntKind.i64.wrap (s23 + 1)) w
                        else
                          Cal Try.prog Sl.v 97 #[(Sl.v t0)] w fun t140 w =>
                          RnU Try.prog (Instr.storeAt 80 (Ptr (⟨b3, 0, none⟩ : Addr)) (TFault.v (⟨0, 0, 0⟩ : TFault))) w fun w =>
                          RnR Try.prog TFault.v (loadVar 80 (⟨b3, 0, none⟩ : Addr)) w fun r1_6 =>
                          R (t140, r1_6) w
                      ) 0 w
                  ) 0 w
              ) 0 w
          ) 0 w
      ) 0 w
theorem c46 {t0 : Sl} {R : (Sl × TFault) → World → Prop} {w : World} (h : f46 t0 R w) :
    Cal Try.prog (fun x : Sl × TFault => Value.tuple #[(Sl.v x.1), (TFault.v x.2)]) 46 #[(Sl.v t0)] w R := by
  unfold f46 at h
  refine calls_ Try.func46 Try.ntmps46 rfl rfl ?_
  refine seq_ ?_
  refine region_ ?_
  refine st_val (ex_assign (v := (Sl.v Sl.nil)) rfl) ?_
  refine st_new (f := (fun b => Ptr ⟨b, 0, none⟩)) (ex_allocN zero80 rfl) h ?_; clear h; intro b3 w h
  refine wl_nil ?_
  refine then_n ?_
  refine seq_ ?_
  refine seq_ ?_
  refine region_ ?_
  refine st_val (ex_move (v := (Sl.v t0)) rfl) ?_
  refine st_cal en93 rfl h ?_; clear h; intro t20 w h
  refine st_val (ex_assign (v := (.int .i64 t20)) rfl) ?_
  refine wl_nil ?_
  refine then_n ?_
  refine seq_ ?_
  refine region_ ?_
  refine st_val (ex_move (v := (.int .i64 t20)) rfl) ?_
  refine st_val (ex_geq (a := t20) (b := 0) rfl rfl) ?_
  refine wl_nil ?_
  refine then_n ?_
  by_cases hc1 : 0 ≤ t20
  · rw [if_pos hc1] at h; refine cond_1 (b := (decide (0 ≤ t20))) rfl (decide_eq_true hc1) ?_
    refine seq_ ?_
    refine region_ ?_
    refine st_val (ex_move (v := (.int .i64 t20)) rfl) ?_
    refine st_val (ex_build (a' := [(0, (.int .i64 t20)), (2, (.int .i64 2))]) (v := TFault.v (⟨t20, 0, 2⟩ : TFault)) rfl (e_build Try.underlying80 zero80 rfl pl80 rfl _)) ?_
    refine st_val (ex_assign (v := (Sl.v Sl.nil)) rfl) ?_
    refine st_rnu (fun r => ex_store rfl rfl r) h ?_; clear h; intro w h
    refine wl_nil ?_
    refine then_n ?_
    refine wp_ret ?_
    refine then_r ?_
    obtain ⟨r1, hr1, h⟩ := h
    refine ret_tc rfl rfl rfl hr1 ⟨(Sl.nil, r1), rfl, h⟩
  · rw [if_neg hc1] at h; refine cond_0 (b := (decide (0 ≤ t20))) rfl (decide_eq_false hc1) ?_
    refine wp_skip ?_
    refine then_n ?_
    refine seq_ ?_
    refine seq_ ?_
    refine region_ ?_
    refine st_val (ex_move (v := (Sl.v t0)) rfl) ?_
    refine st_val (ex_len (s := t0) Try.underlying22 rfl) ?_
    refine st_val (ex_gtr (a := (t0.n : Int)) (b := 64) rfl rfl) ?_
    refine wl_nil ?_
    refine then_n ?_
    by_cases hc2 : 64 < (t0.n : Int)
    · rw [if_pos hc2] at h; refine cond_1 (b := (decide (64 < (t0.n : Int)))) rfl (decide_eq_true hc2) ?_
      refine seq_ ?_
      refine region_ ?_
      refine st_val (ex_build (a' := [(2, (.int .i64 124))]) (v := TFault.v (⟨0, 0, 124⟩ : TFault)) rfl (e_build Try.underlying80 zero80 rfl pl80 rfl _)) ?_
      refine st_val (ex_assign (v := (Sl.v Sl.nil)) rfl) ?_
      refine st_rnu (fun r => ex_store rfl rfl r) h ?_; clear h; intro w h
      refine wl_nil ?_
      refine then_n ?_
      refine wp_ret ?_
      refine then_r ?_
      obtain ⟨r1_1, hr1_1, h⟩ := h
      refine ret_tc rfl rfl rfl hr1_1 ⟨(Sl.nil, r1_1), rfl, h⟩
    · rw [if_neg hc2] at h; refine cond_0 (b := (decide (64 < (t0.n : Int)))) rfl (decide_eq_false hc2) ?_
      refine wp_skip ?_
      refine then_n ?_
      refine seq_ ?_
      refine region_ ?_
      refine st_newm (ex_makeMap (e_makeMap _)) h ?_; clear h; intro b29 w h
      refine st_val (ex_assign (v := (.map (some b29))) rfl) ?_
      refine wl_nil ?_
      refine then_n ?_
      refine seq_ ?_
      refine region_ ?_
      refine st_newm (ex_makeMap (e_makeMap _)) h ?_; clear h; intro b30 w h
      refine st_newm (ex_makeMap (e_makeMap _)) h ?_; clear h; intro b31 w h
      refine st_val (ex_build (a' := [(0, (.map (some b30))), (1, (.map (some b31)))]) (v := TDepths.v (⟨(some b30), (some b31)⟩ : TDepths)) rfl (e_build Try.underlying148 zero148 rfl pl148 rfl _)) ?_
      refine st_new (f := (fun b => Ptr ⟨b, 0, none⟩)) (ex_boxN rfl rfl) h ?_; clear h; intro b33 w h
      refine st_val (ex_assign (v := (Ptr (⟨b33, 0, none⟩ : Addr))) rfl) ?_
      refine wl_nil ?_
      refine then_n ?_
      refine seq_ ?_
      refine seq_ ?_
      refine region_ ?_
      refine st_val (ex_move (v := (Sl.v t0)) rfl) ?_
      refine st_val (ex_len (s := t0) Try.underlying22 rfl) ?_
      refine st_val (ex_move (v := (.int .i64 0)) rfl) ?_
      refine wl_nil ?_
      refine then_n ?_
      refine wp_block ?_
      refine wp_lp (σ := Int) (fun s3 a => ∃ j, a = F 142 (upds j [(0, (Sl.v t0)), (3, (Ptr (⟨b3, 0, none⟩ : Addr))), (5, (.map (some b29))), (6, (Ptr (⟨b33, 0, none⟩ : Addr))), (34, (Sl.v t0)), (35, (.int .i64 (t0.n : Int))), (36, (.int .i64 s3))])) h (mk_upds (ae rfl (ae rfl (ae rfl (ae rfl (ae rfl (ae rfl (ae rfl ae0)))))))) ?_
      clear h; rintro s3 _ w n3 ⟨j, rfl⟩ h
      refine seq_ ?_
      refine region_ ?_
      refine st_val (ex_lss (a := s3) (b := (t0.n : Int)) rfl rfl) ?_
      refine wl_nil ?_
      refine then_n ?_
      refine seq_ ?_
      by_cases hc4 : s3 < (t0.n : Int)
      · rw [if_pos hc4] at h; refine cond_1 (b := (decide (s3 < (t0.n : Int)))) rfl (decide_eq_true hc4) ?_
        refine wp_skip ?_
        refine then_n ?_
        refine wp_jn (σ := Unit) (fun s5 l => ∃ j, l = upds j [(0, (Sl.v t0)), (3, (Ptr (⟨b3, 0, none⟩ : Addr))), (5, (.map (some b29))), (6, (Ptr (⟨b33, 0, none⟩ : Addr))), (34, (Sl.v t0)), (35, (.int .i64 (t0.n : Int))), (36, (.int .i64 s3))]) h ?_ ?_
        · clear h; rintro s5 _ w ⟨j, rfl⟩ h
          refine region_ ?_
          refine st_val (ex_add (a := s3) (b := 1) rfl rfl) ?_
          refine st_val (ex_move (v := (.int .i64 (IntKind.i64.wrap (s3 + 1)))) rfl) ?_
          refine wl_nil ?_
          exact then_n ⟨(IntKind.i64.wrap (s3 + 1)), mk_upds (ae rfl (ae rfl (ae rfl (ae rfl (ae rfl (ae rfl (ae rfl ae0))))))), h⟩
        · clear h; intro k5 h
          refine wp_block ?_
          refine seq_ ?_
          refine region_ ?_
          refine st_rnp (fun r => ex_indexAddr rfl rfl r) h ?_; clear h; intro t38 h
          refine st_rn (fun r => ex_load rfl r) h ?_; clear h; intro t39 w h
          refine st_new (f := (fun b => Ptr ⟨b, 0, none⟩)) (ex_allocN zero48 rfl) h ?_; clear h; intro b8 w h
          refine st_rnu (fun r => ex_store rfl rfl r) h ?_; clear h; intro w h
          refine wl_nil ?_
          refine then_n ?_
          refine seq_ ?_
          refine region_ ?_
          refine st_val (ex_move (v := (.map (some b29))) rfl) ?_
          refine st_rn (fun r => ex_load rfl r) h ?_; clear h; intro t41 w h
          refine st_cal en63 rfl h ?_; clear h; intro t42 w h
          refine st_rnu (fun r => ex_mapUpdate rfl rfl rfl r) h ?_; clear h; intro w h
          refine wl_nil ?_
          refine then_n ?_
          refine seq_ ?_
          refine region_ ?_
          refine st_val (ex_fa fa48_0 (p := (⟨b8, 0, none⟩ : Addr)) rfl) ?_
          refine st_rn (fun r => ex_load rfl r) h ?_; clear h; intro t44 w h
          refine st_val (ex_eql (a := t44) (b := 2) rfl rfl) ?_
          refine wl_nil ?_
          refine then_n ?_
          by_cases hc6 : t44 = 2
          · rw [if_pos hc6] at h; refine cond_1 (b := (decide (t44 = 2))) rfl (decide_eq_true hc6) ?_
            refine dr_begin mixed [7] (listed := #[false, false, false, false, false, false, false, false]) rfl (n := 8) rfl h ?_; clear h; intro w7 h
            have hE : Ext w7 w7 := Ext.refl _
            refine dr_takeP (i := 0) (by kernel_rfl) rfl (fun _ _ _ h => h) (fun _ => hE) (fun _ => ex_move (v := (Ptr (⟨b33, 0, none⟩ : Addr))) rfl) ?_
            refine dr_takeP (i := 1) (by kernel_rfl) rfl (fun _ _ _ h => h) (fun _ => hE) (fun _ => ex_nilCheck (p := (⟨b33, 0, none⟩ : Addr)) rfl) ?_
            refine dr_takeP (i := 2) (by kernel_rfl) rfl (fun _ _ _ h => h) (fun _ => hE) (fun _ => ex_fa fa148_0 (p := (⟨b33, 0, none⟩ : Addr)) rfl) ?_
            obtain ⟨t49, ht49, h⟩ := h
            refine dr_take (i := 3) (by kernel_rfl) rfl (fun _ _ _ h => h) hE (fun _ hw => (fun r => ex_load rfl r) (ht49 _ hw)) ?_
            refine dr_takeP (i := 4) (by kernel_rfl) rfl (fun _ _ _ h => h) (fun _ => hE) (fun _ => ex_fa fa48_1 (p := (⟨b8, 0, none⟩ : Addr)) rfl) ?_
            obtain ⟨t51, ht51, h⟩ := h
            refine dr_take (i := 5) (by kernel_rfl) rfl (fun _ _ _ h => h) hE (fun _ hw => (fun r => ex_load rfl r) (ht51 _ hw)) ?_
            obtain ⟨t52, ht52, h⟩ := h
            refine dr_take (i := 6) (by kernel_rfl) rfl (fun _ _ _ h => h) hE (fun _ hw => (fun r => ex_load rfl r) (ht52 _ hw)) ?_
            refine dr_only (i := 7) (by kernel_rfl) rfl rfl ?_
            refine o_rnu (fun r => ex_mapUpdate rfl rfl rfl r) h ?_; clear h; intro w h; refine ⟨noG (by kernel_rfl), ?_⟩
            refine dr_end (by kernel_rfl) ?_
            refine inb_n ?_
            exact then_n ⟨(), _, rfl, mk_upds' (ae rfl (ae rfl (ae rfl (ae rfl (ae rfl (ae rfl (ae rfl ae0))))))), h⟩
          · rw [if_neg hc6] at h; refine cond_0 (b := (decide (t44 = 2))) rfl (decide_eq_false hc6) ?_
            refine wp_skip ?_
            refine inb_n ?_
            exact then_n ⟨(), _, rfl, mk_upds' (ae rfl (ae rfl (ae rfl (ae rfl (ae rfl (ae rfl (ae rfl ae0))))))), h⟩
      · rw [if_neg hc4] at h; refine cond_0 (b := (decide (s3 < (t0.n : Int)))) rfl (decide_eq_false hc4) ?_
        refine wp_exit ?_
        refine then_e ?_
        refine then_e ?_
        refine inb_e ?_
        refine then_n ?_
        refine seq_ ?_
        refine region_ ?_
        refine st_newm (ex_makeMap (e_makeMap _)) h ?_; clear h; intro b54 w h
        refine st_val (ex_assign (v := (.map (some b54))) rfl) ?_
        refine wl_nil ?_
        refine then_n ?_
        refine seq_ ?_
        refine seq_ ?_
        refine region_ ?_
        refine st_val (ex_move (v := (Sl.v t0)) rfl) ?_
        refine st_val (ex_len (s := t0) Try.underlying22 rfl) ?_
        refine st_val (ex_move (v := (.int .i64 0)) rfl) ?_
        refine wl_nil ?_
        refine then_n ?_
        refine wp_block ?_
        refine wp_lp (σ := Int) (fun s8 a => ∃ j, a = F 142 (upds j [(0, (Sl.v t0)), (3, (Ptr (⟨b3, 0, none⟩ : Addr))), (5, (.map (some b29))), (6, (Ptr (⟨b33, 0, none⟩ : Addr))), (9, (.map (some b54))), (55, (Sl.v t0)), (56, (.int .i64 (t0.n : Int))), (57, (.int .i64 s8))])) h (mk_upds (ae rfl (ae rfl (ae rfl (ae rfl (ae rfl (ae rfl (ae rfl (ae rfl ae0))))))))) ?_
        clear h; rintro s8 _ w n8 ⟨j, rfl⟩ h
        refine seq_ ?_
        refine region_ ?_
        refine st_val (ex_lss (a := s8) (b := (t0.n : Int)) rfl rfl) ?_
        refine wl_nil ?_
        refine then_n ?_
        refine seq_ ?_
        by_cases hc9 : s8 < (t0.n : Int)
        · rw [if_pos hc9] at h; refine cond_1 (b := (decide (s8 < (t0.n : Int)))) rfl (decide_eq_true hc9) ?_
          refine wp_skip ?_
          refine then_n ?_
          refine seq_ ?_
          refine wp_block ?_
          refine seq_ ?_
          refine region_ ?_
          refine st_val (ex_move (v := (.int .i64 s8)) rfl) ?_
          refine st_rnp (fun r => ex_indexAddr rfl rfl r) h ?_; clear h; intro t60 h
          refine st_rn (fun r => ex_load rfl r) h ?_; clear h; intro t61 w h
          refine st_new (f := (fun b => Ptr ⟨b, 0, none⟩)) (ex_allocN zero48 rfl) h ?_; clear h; intro b11 w h
          refine st_val (ex_assign (v := (.int .i64 s8)) rfl) ?_
          refine st_rnu (fun r => ex_store rfl rfl r) h ?_; clear h; intro w h
          refine wl_nil ?_
          refine then_n ?_
          refine seq_ ?_
          refine region_ ?_
          refine st_rn (fun r => ex_load rfl r) h ?_; clear h; intro t62 w h
          refine st_val (ex_move (v := (.map (some b29))) rfl) ?_
          refine st_cal en94 rfl h ?_; clear h; intro t64 w h
          refine st_val (ex_assign (v := (.int .i64 t64)) rfl) ?_
          refine wl_nil ?_
          refine then_n ?_
          refine seq_ ?_
          refine region_ ?_
          refine st_val (ex_move (v := (.int .i64 t64)) rfl) ?_
          refine st_val (ex_geq (a := t64) (b := 0) rfl rfl) ?_
          refine wl_nil ?_
          refine then_n ?_
          by_cases hc10 : 0 ≤ t64
          · rw [if_pos hc10] at h; refine cond_1 (b := (decide (0 ≤ t64))) rfl (decide_eq_true hc10) ?_
            refine seq_ ?_
            refine region_ ?_
            refine st_val (ex_move (v := (.int .i64 s8)) rfl) ?_
            refine st_val (ex_move (v := (.int .i64 t64)) rfl) ?_
            refine st_val (ex_build (a' := [(0, (.int .i64 s8)), (1, (.int .i64 t64)), (2, (.int .i64 140))]) (v := TFault.v (⟨s8, t64, 140⟩ : TFault)) rfl (e_build Try.underlying80 zero80 rfl pl80 rfl _)) ?_
            refine st_val (ex_assign (v := (Sl.v Sl.nil)) rfl) ?_
            refine st_rnu (fun r => ex_store rfl rfl r) h ?_; clear h; intro w h
            refine wl_nil ?_
            refine then_n ?_
            refine wp_ret ?_
            refine inb_r ?_
            refine then_r ?_
            refine then_r ?_
            refine inb_r ?_
            refine then_r ?_
            obtain ⟨r1_2, hr1_2, h⟩ := h
            refine ret_tc rfl rfl rfl hr1_2 ⟨(Sl.nil, r1_2), rfl, h⟩
          · rw [if_neg hc10] at h; refine cond_0 (b := (decide (0 ≤ t64))) rfl (decide_eq_false hc10) ?_
            refine wp_skip ?_
            refine inb_n ?_
            refine then_n ?_
            refine region_ ?_
            refine st_val (ex_add (a := s8) (b := 1) rfl rfl) ?_
            refine st_val (ex_move (v := (.int .i64 (IntKind.i64.wrap (s8 + 1)))) rfl) ?_
            refine wl_nil ?_
            exact then_n ⟨(IntKind.i64.wrap (s8 + 1)), mk_upds (ae rfl (ae rfl (ae rfl (ae rfl (ae rfl (ae rfl (ae rfl (ae rfl ae0)))))))), h⟩
        · rw [if_neg hc9] at h; refine cond_0 (b := (decide (s8 < (t0.n : Int)))) rfl (decide_eq_false hc9) ?_
          refine wp_exit ?_
          refine then_e ?_
          refine then_e ?_
          refine inb_e ?_
          refine then_n ?_
          refine seq_ ?_
          refine seq_ ?_
          refine region_ ?_
          refine st_val (ex_move (v := (Sl.v t0)) rfl) ?_
          refine st_val (ex_len (s := t0) Try.underlying22 rfl) ?_
          refine st_val (ex_move (v := (.int .i64 0)) rfl) ?_
          refine wl_nil ?_
          refine then_n ?_
          refine wp_block ?_
          refine wp_lp (σ := Int) (fun s11 a => ∃ j, a = F 142 (upds j [(0, (Sl.v t0)), (3, (Ptr (⟨b3, 0, none⟩ : Addr))), (6, (Ptr (⟨b33, 0, none⟩ : Addr))), (9, (.map (some b54))), (71, (Sl.v t0)), (72, (.int .i64 (t0.n : Int))), (73, (.int .i64 s11))])) h (mk_upds (ae rfl (ae rfl (ae rfl (ae rfl (ae rfl (ae rfl (ae rfl ae0)))))))) ?_
          clear h; rintro s11 _ w n11 ⟨j, rfl⟩ h
          refine seq_ ?_
          refine region_ ?_
          refine st_val (ex_lss (a := s11) (b := (t0.n : Int)) rfl rfl) ?_
          refine wl_nil ?_
          refine then_n ?_
          refine seq_ ?_
          by_cases hc12 : s11 < (t0.n : Int)
          · rw [if_pos hc12] at h; refine cond_1 (b := (decide (s11 < (t0.n : Int)))) rfl (decide_eq_true hc12) ?_
            refine wp_skip ?_
            refine then_n ?_
            refine wp_jn (σ := Unit) (fun s13 l => ∃ j, l = upds j [(0, (Sl.v t0)), (3, (Ptr (⟨b3, 0, none⟩ : Addr))), (6, (Ptr (⟨b33, 0, none⟩ : Addr))), (9, (.map (some b54))), (71, (Sl.v t0)), (72, (.int .i64 (t0.n : Int))), (73, (.int .i64 s11))]) h ?_ ?_
            · clear h; rintro s13 _ w ⟨j, rfl⟩ h
              refine region_ ?_
              refine st_val (ex_add (a := s11) (b := 1) rfl rfl) ?_
              refine st_val (ex_move (v := (.int .i64 (IntKind.i64.wrap (s11 + 1)))) rfl) ?_
              refine wl_nil ?_
              exact then_n ⟨(IntKind.i64.wrap (s11 + 1)), mk_upds (ae rfl (ae rfl (ae rfl (ae rfl (ae rfl (ae rfl (ae rfl ae0))))))), h⟩
            · clear h; intro k13 h
              refine wp_block ?_
              refine seq_ ?_
              refine region_ ?_
              refine st_val (ex_move (v := (.int .i64 s11)) rfl) ?_
              refine st_rnp (fun r => ex_indexAddr rfl rfl r) h ?_; clear h; intro t76 h
              refine st_rn (fun r => ex_load rfl r) h ?_; clear h; intro t77 w h
              refine st_new (f := (fun b => Ptr ⟨b, 0, none⟩)) (ex_allocN zero48 rfl) h ?_; clear h; intro b14 w h
              refine st_val (ex_assign (v := (.int .i64 s11)) rfl) ?_
              refine st_rnu (fun r => ex_store rfl rfl r) h ?_; clear h; intro w h
              refine wl_nil ?_
              refine then_n ?_
              refine seq_ ?_
              refine wp_jn (σ := Bool) (fun s14 l => ∃ j, l = upds j [(0, (Sl.v t0)), (3, (Ptr (⟨b3, 0, none⟩ : Addr))), (6, (Ptr (⟨b33, 0, none⟩ : Addr))), (9, (.map (some b54))), (13, (.int .i64 s11)), (14, (Ptr (⟨b14, 0, none⟩ : Addr))), (71, (Sl.v t0)), (72, (.int .i64 (t0.n : Int))), (73, (.int .i64 s11)), (86, (.bool s14))]) h ?_ ?_
              · clear h; rintro s14 _ w ⟨j, rfl⟩ h
                by_cases hc16 : s14 = true
                · rw [if_pos hc16] at h; refine cond_1 (b := s14) rfl hc16 ?_
                  refine seq_ ?_
                  refine region_ ?_
                  refine st_val (ex_move (v := (.int .i64 s11)) rfl) ?_
                  refine st_val (ex_build (a' := [(0, (.int .i64 s11)), (2, (.int .i64 141))]) (v := TFault.v (⟨s11, 0, 141⟩ : TFault)) rfl (e_build Try.underlying80 zero80 rfl pl80 rfl _)) ?_
                  refine st_val (ex_assign (v := (Sl.v Sl.nil)) rfl) ?_
                  refine st_rnu (fun r => ex_store rfl rfl r) h ?_; clear h; intro w h
                  refine wl_nil ?_
                  refine then_n ?_
                  refine wp_ret ?_
                  refine then_r ?_
                  refine inb_r ?_
                  refine then_r ?_
                  refine then_r ?_
                  refine inb_r ?_
                  refine then_r ?_
                  obtain ⟨r1_3, hr1_3, h⟩ := h
                  refine ret_tc rfl rfl rfl hr1_3 ⟨(Sl.nil, r1_3), rfl, h⟩
                · rw [if_neg hc16] at h; refine cond_0 (b := s14) rfl (Bool.eq_false_iff.2 hc16) ?_
                  refine wp_skip ?_
                  refine then_n ?_
                  refine region_ ?_
                  refine st_val (ex_move (v := (.map (some b54))) rfl) ?_
                  refine st_val (ex_fa fa48_4 (p := (⟨b14, 0, none⟩ : Addr)) rfl) ?_
                  refine st_rn (fun r => ex_load rfl r) h ?_; clear h; intro t91 w h
                  refine st_val (ex_move (v := (.map (some b54))) rfl) ?_
                  refine st_val (ex_fa fa48_4 (p := (⟨b14, 0, none⟩ : Addr)) rfl) ?_
                  refine st_rn (fun r => ex_load rfl r) h ?_; clear h; intro t94 w h
                  refine st_rn (fun r => ex_lookup rfl rfl r) h ?_; clear h; intro t95 w h
                  refine st_val (ex_move (v := (.bool t95)) rfl) ?_
                  by_cases hc17 : t95 = true
                  · rw [if_pos hc17] at h
                    refine st_off (t := 96) (c := t95) rfl rfl hc17 ?_
                    refine st_off (t := 96) (c := t95) rfl rfl hc17 ?_
                    refine st_off (t := 96) (c := t95) rfl rfl hc17 ?_
                    refine st_val (ex_pick1 (b := t95) rfl hc17 (v := (.bool true)) rfl) ?_
                    refine st_rnu (fun r => ex_mapUpdate rfl rfl rfl r) h ?_; clear h; intro w h
                    refine wl_nil ?_
                    refine inb_n ?_
                    exact then_n ⟨(), _, rfl, mk_upds' (ae rfl (ae rfl (ae rfl (ae rfl (ae rfl (ae rfl (ae rfl ae0))))))), h⟩
                  · rw [if_neg hc17] at h
                    refine st_on (t := 96) (c := t95) rfl rfl (Bool.eq_false_iff.2 hc17) ?_
                    refine st_val (ex_fa fa48_0 (p := (⟨b14, 0, none⟩ : Addr)) rfl) ?_
                    refine st_on (t := 96) (c := t95) rfl rfl (Bool.eq_false_iff.2 hc17) ?_
                    refine st_rn (fun r => ex_load rfl r) h ?_; clear h; intro t98 w h
                    refine st_on (t := 96) (c := t95) rfl rfl (Bool.eq_false_iff.2 hc17) ?_
                    refine st_val (ex_eql (a := t98) (b := 3) rfl rfl) ?_
                    refine st_val (ex_pick0 (b := t95) rfl (Bool.eq_false_iff.2 hc17) (v := (.bool (decide (t98 = 3)))) rfl) ?_
                    refine st_rnu (fun r => ex_mapUpdate rfl rfl rfl r) h ?_; clear h; intro w h
                    refine wl_nil ?_
                    refine inb_n ?_
                    exact then_n ⟨(), _, rfl, mk_upds' (ae rfl (ae rfl (ae rfl (ae rfl (ae rfl (ae rfl (ae rfl ae0))))))), h⟩
              · clear h; intro k14 h
                refine region_ ?_
                refine st_val (ex_fa fa48_0 (p := (⟨b14, 0, none⟩ : Addr)) rfl) ?_
                refine st_rn (fun r => ex_load rfl r) h ?_; clear h; intro t79 w h
                refine st_val (ex_eql (a := t79) (b := 3) rfl rfl) ?_
                refine st_val (ex_move (v := (.bool (decide (t79 = 3)))) rfl) ?_
                by_cases hc15 : t79 = 3
                · rw [if_pos hc15] at h
                  refine st_on (t := 81) (c := (decide (t79 = 3))) rfl rfl (decide_eq_true hc15) ?_
                  refine st_val (ex_move (v := (.map (some b54))) rfl) ?_
                  refine st_on (t := 81) (c := (decide (t79 = 3))) rfl rfl (decide_eq_true hc15) ?_
                  refine st_val (ex_fa fa48_4 (p := (⟨b14, 0, none⟩ : Addr)) rfl) ?_
                  refine st_on (t := 81) (c := (decide (t79 = 3))) rfl rfl (decide_eq_true hc15) ?_
                  refine st_rn (fun r => ex_load rfl r) h ?_; clear h; intro t84 w h
                  refine st_on (t := 81) (c := (decide (t79 = 3))) rfl rfl (decide_eq_true hc15) ?_
                  refine st_rn (fun r => ex_lookup rfl rfl r) h ?_; clear h; intro t85 w h
                  refine st_val (ex_pick1 (b := (decide (t79 = 3))) rfl (decide_eq_true hc15) (v := (.bool t85)) rfl) ?_
                  refine wl_nil ?_
                  exact then_n ⟨t85, _, rfl, mk_upds' (ae rfl (ae rfl (ae rfl (ae rfl (ae rfl (ae rfl (ae rfl (ae rfl (ae rfl (ae rfl ae0)))))))))), h⟩
                · rw [if_neg hc15] at h
                  refine st_off (t := 81) (c := (decide (t79 = 3))) rfl rfl (decide_eq_false hc15) ?_
                  refine st_off (t := 81) (c := (decide (t79 = 3))) rfl rfl (decide_eq_false hc15) ?_
                  refine st_off (t := 81) (c := (decide (t79 = 3))) rfl rfl (decide_eq_false hc15) ?_
                  refine st_off (t := 81) (c := (decide (t79 = 3))) rfl rfl (decide_eq_false hc15) ?_
                  refine st_val (ex_pick0 (b := (decide (t79 = 3))) rfl (decide_eq_false hc15) (v := (.bool false)) rfl) ?_
                  refine wl_nil ?_
                  exact then_n ⟨false, _, rfl, mk_upds' (ae rfl (ae rfl (ae rfl (ae rfl (ae rfl (ae rfl (ae rfl (ae rfl (ae rfl (ae rfl ae0)))))))))), h⟩
          · rw [if_neg hc12] at h; refine cond_0 (b := (decide (s11 < (t0.n : Int)))) rfl (decide_eq_false hc12) ?_
            refine wp_exit ?_
            refine then_e ?_
            refine then_e ?_
            refine inb_e ?_
            refine then_n ?_
            refine seq_ ?_
            refine seq_ ?_
            refine region_ ?_
            refine st_val (ex_move (v := (Sl.v t0)) rfl) ?_
            refine st_val (ex_len (s := t0) Try.underlying22 rfl) ?_
            refine st_val (ex_move (v := (.int .i64 0)) rfl) ?_
            refine wl_nil ?_
            refine then_n ?_
            refine wp_block ?_
            refine wp_lp (σ := Int) (fun s18 a => ∃ j, a = F 142 (upds j [(0, (Sl.v t0)), (3, (Ptr (⟨b3, 0, none⟩ : Addr))), (6, (Ptr (⟨b33, 0, none⟩ : Addr))), (102, (Sl.v t0)), (103, (.int .i64 (t0.n : Int))), (104, (.int .i64 s18))])) h (mk_upds (ae rfl (ae rfl (ae rfl (ae rfl (ae rfl (ae rfl ae0))))))) ?_
            clear h; rintro s18 _ w n18 ⟨j, rfl⟩ h
            refine seq_ ?_
            refine region_ ?_
            refine st_val (ex_lss (a := s18) (b := (t0.n : Int)) rfl rfl) ?_
            refine wl_nil ?_
            refine then_n ?_
            refine seq_ ?_
            by_cases hc19 : s18 < (t0.n : Int)
            · rw [if_pos hc19] at h; refine cond_1 (b := (decide (s18 < (t0.n : Int)))) rfl (decide_eq_true hc19) ?_
              refine wp_skip ?_
              refine then_n ?_
              refine seq_ ?_
              refine wp_block ?_
              refine seq_ ?_
              refine region_ ?_
              refine st_val (ex_move (v := (.int .i64 s18)) rfl) ?_
              refine st_rnp (fun r => ex_indexAddr rfl rfl r) h ?_; clear h; intro t107 h
              refine st_rn (fun r => ex_load rfl r) h ?_; clear h; intro t108 w h
              refine st_new (f := (fun b => Ptr ⟨b, 0, none⟩)) (ex_allocN zero48 rfl) h ?_; clear h; intro b16 w h
              refine st_val (ex_assign (v := (.int .i64 s18)) rfl) ?_
              refine st_rnu (fun r => ex_store rfl rfl r) h ?_; clear h; intro w h
              refine wl_nil ?_
              refine then_n ?_
              refine wp_jn (σ := Bool) (fun s20 l => ∃ j, l = upds j [(0, (Sl.v t0)), (3, (Ptr (⟨b3, 0, none⟩ : Addr))), (6, (Ptr (⟨b33, 0, none⟩ : Addr))), (15, (.int .i64 s18)), (102, (Sl.v t0)), (103, (.int .i64 (t0.n : Int))), (104, (.int .i64 s18)), (115, (.bool s20))]) h ?_ ?_
              · clear h; rintro s20 _ w ⟨j, rfl⟩ h
                by_cases hc22 : s20 = true
                · rw [if_pos hc22] at h; refine cond_1 (b := s20) rfl hc22 ?_
                  refine seq_ ?_
                  refine region_ ?_
                  refine st_val (ex_move (v := (.int .i64 s18)) rfl) ?_
                  refine st_val (ex_build (a' := [(0, (.int .i64 s18)), (2, (.int .i64 142))]) (v := TFault.v (⟨s18, 0, 142⟩ : TFault)) rfl (e_build Try.underlying80 zero80 rfl pl80 rfl _)) ?_
                  refine st_val (ex_assign (v := (Sl.v Sl.nil)) rfl) ?_
                  refine st_rnu (fun r => ex_store rfl rfl r) h ?_; clear h; intro w h
                  refine wl_nil ?_
                  refine then_n ?_
                  refine wp_ret ?_
                  refine inb_r ?_
                  refine then_r ?_
                  refine then_r ?_
                  refine inb_r ?_
                  refine then_r ?_
                  obtain ⟨r1_4, hr1_4, h⟩ := h
                  refine ret_tc rfl rfl rfl hr1_4 ⟨(Sl.nil, r1_4), rfl, h⟩
                · rw [if_neg hc22] at h; refine cond_0 (b := s20) rfl (Bool.eq_false_iff.2 hc22) ?_
                  refine wp_skip ?_
                  refine inb_n ?_
                  refine then_n ?_
                  refine region_ ?_
                  refine st_val (ex_add (a := s18) (b := 1) rfl rfl) ?_
                  refine st_val (ex_move (v := (.int .i64 (IntKind.i64.wrap (s18 + 1)))) rfl) ?_
                  refine wl_nil ?_
                  exact then_n ⟨(IntKind.i64.wrap (s18 + 1)), mk_upds (ae rfl (ae rfl (ae rfl (ae rfl (ae rfl (ae rfl ae0)))))), h⟩
              · clear h; intro k20 h
                refine region_ ?_
                refine st_val (ex_fa fa48_0 (p := (⟨b16, 0, none⟩ : Addr)) rfl) ?_
                refine st_rn (fun r => ex_load rfl r) h ?_; clear h; intro t110 w h
                refine st_val (ex_eql (a := t110) (b := 2) rfl rfl) ?_
                refine st_val (ex_move (v := (.bool (decide (t110 = 2)))) rfl) ?_
                by_cases hc21 : t110 = 2
                · rw [if_pos hc21] at h
                  refine st_on (t := 112) (c := (decide (t110 = 2))) rfl rfl (decide_eq_true hc21) ?_
                  refine st_rn (fun r => ex_load rfl r) h ?_; clear h; intro t113 w h
                  refine st_on (t := 112) (c := (decide (t110 = 2))) rfl rfl (decide_eq_true hc21) ?_
                  refine st_cal en95 rfl h ?_; clear h; intro t114 w h
                  refine st_val (ex_pick1 (b := (decide (t110 = 2))) rfl (decide_eq_true hc21) (v := (.bool t114)) rfl) ?_
                  refine wl_nil ?_
                  exact then_n ⟨t114, _, rfl, mk_upds' (ae rfl (ae rfl (ae rfl (ae rfl (ae rfl (ae rfl (ae rfl (ae rfl ae0)))))))), h⟩
                · rw [if_neg hc21] at h
                  refine st_off (t := 112) (c := (decide (t110 = 2))) rfl rfl (decide_eq_false hc21) ?_
                  refine st_off (t := 112) (c := (decide (t110 = 2))) rfl rfl (decide_eq_false hc21) ?_
                  refine st_val (ex_pick0 (b := (decide (t110 = 2))) rfl (decide_eq_false hc21) (v := (.bool false)) rfl) ?_
                  refine wl_nil ?_
                  exact then_n ⟨false, _, rfl, mk_upds' (ae rfl (ae rfl (ae rfl (ae rfl (ae rfl (ae rfl (ae rfl (ae rfl ae0)))))))), h⟩
            · rw [if_neg hc19] at h; refine cond_0 (b := (decide (s18 < (t0.n : Int)))) rfl (decide_eq_false hc19) ?_
              refine wp_exit ?_
              refine then_e ?_
              refine then_e ?_
              refine inb_e ?_
              refine then_n ?_
              refine seq_ ?_
              refine seq_ ?_
              refine region_ ?_
              refine st_val (ex_move (v := (Sl.v t0)) rfl) ?_
              refine st_val (ex_len (s := t0) Try.underlying22 rfl) ?_
              refine st_val (ex_move (v := (.int .i64 0)) rfl) ?_
              refine wl_nil ?_
              refine then_n ?_
              refine wp_block ?_
              refine wp_lp (σ := Int) (fun s23 a => ∃ j, a = F 142 (upds j [(0, (Sl.v t0)), (3, (Ptr (⟨b3, 0, none⟩ : Addr))), (6, (Ptr (⟨b33, 0, none⟩ : Addr))), (119, (Sl.v t0)), (120, (.int .i64 (t0.n : Int))), (121, (.int .i64 s23))])) h (mk_upds (ae rfl (ae rfl (ae rfl (ae rfl (ae rfl (ae rfl ae0))))))) ?_
              clear h; rintro s23 _ w n23 ⟨j, rfl⟩ h
              refine seq_ ?_
              refine region_ ?_
              refine st_val (ex_lss (a := s23) (b := (t0.n : Int)) rfl rfl) ?_
              refine wl_nil ?_
              refine then_n ?_
              refine seq_ ?_
              by_cases hc24 : s23 < (t0.n : Int)
              · rw [if_pos hc24] at h; refine cond_1 (b := (decide (s23 < (t0.n : Int)))) rfl (decide_eq_true hc24) ?_
                refine wp_skip ?_
                refine then_n ?_
                refine seq_ ?_
                refine wp_block ?_
                refine seq_ ?_
                refine region_ ?_
                refine st_val (ex_move (v := (.int .i64 s23)) rfl) ?_
                refine st_rnp (fun r => ex_indexAddr rfl rfl r) h ?_; clear h; intro t124 h
                refine st_rn (fun r => ex_load rfl r) h ?_; clear h; intro t125 w h
                refine st_new (f := (fun b => Ptr ⟨b, 0, none⟩)) (ex_allocN zero48 rfl) h ?_; clear h; intro b18 w h
                refine st_val (ex_assign (v := (.int .i64 s23)) rfl) ?_
                refine st_rnu (fun r => ex_store rfl rfl r) h ?_; clear h; intro w h
                refine wl_nil ?_
                refine then_n ?_
                refine wp_jn (σ := Bool) (fun s25 l => ∃ j, l = upds j [(0, (Sl.v t0)), (3, (Ptr (⟨b3, 0, none⟩ : Addr))), (6, (Ptr (⟨b33, 0, none⟩ : Addr))), (17, (.int .i64 s23)), (119, (Sl.v t0)), (120, (.int .i64 (t0.n : Int))), (121, (.int .i64 s23)), (135, (.bool s25))]) h ?_ ?_
                · clear h; rintro s25 _ w ⟨j, rfl⟩ h
                  by_cases hc27 : s25 = true
                  · rw [if_pos hc27] at h; refine cond_1 (b := s25) rfl hc27 ?_
                    refine seq_ ?_
                    refine region_ ?_
                    refine st_val (ex_move (v := (.int .i64 s23)) rfl) ?_
                    refine st_val (ex_build (a' := [(0, (.int .i64 s23)), (2, (.int .i64 143))]) (v := TFault.v (⟨s23, 0, 143⟩ : TFault)) rfl (e_build Try.underlying80 zero80 rfl pl80 rfl _)) ?_
                    refine st_val (ex_assign (v := (Sl.v Sl.nil)) rfl) ?_
                    refine st_rnu (fun r => ex_store rfl rfl r) h ?_; clear h; intro w h
                    refine wl_nil ?_
                    refine then_n ?_
                    refine wp_ret ?_
                    refine inb_r ?_
                    refine then_r ?_
                    refine then_r ?_
                    refine inb_r ?_
                    refine then_r ?_
                    obtain ⟨r1_5, hr1_5, h⟩ := h
                    refine ret_tc rfl rfl rfl hr1_5 ⟨(Sl.nil, r1_5), rfl, h⟩
                  · rw [if_neg hc27] at h; refine cond_0 (b := s25) rfl (Bool.eq_false_iff.2 hc27) ?_
                    refine wp_skip ?_
                    refine inb_n ?_
                    refine then_n ?_
                    refine region_ ?_
                    refine st_val (ex_add (a := s23) (b := 1) rfl rfl) ?_
                    refine st_val (ex_move (v := (.int .i64 (IntKind.i64.wrap (s23 + 1)))) rfl) ?_
                    refine wl_nil ?_
                    exact then_n ⟨(IntKind.i64.wrap (s23 + 1)), mk_upds (ae rfl (ae rfl (ae rfl (ae rfl (ae rfl (ae rfl ae0)))))), h⟩
                · clear h; intro k25 h
                  refine region_ ?_
                  refine st_val (ex_fa fa48_0 (p := (⟨b18, 0, none⟩ : Addr)) rfl) ?_
                  refine st_rn (fun r => ex_load rfl r) h ?_; clear h; intro t127 w h
                  refine st_val (ex_eql (a := t127) (b := 2) rfl rfl) ?_
                  refine st_val (ex_move (v := (.bool (decide (t127 = 2)))) rfl) ?_
                  by_cases hc26 : t127 = 2
                  · rw [if_pos hc26] at h
                    refine st_on (t := 129) (c := (decide (t127 = 2))) rfl rfl (decide_eq_true hc26) ?_
                    refine st_val (ex_move (v := (Ptr (⟨b33, 0, none⟩ : Addr))) rfl) ?_
                    refine st_on (t := 129) (c := (decide (t127 = 2))) rfl rfl (decide_eq_true hc26) ?_
                    refine st_val (ex_fa fa48_1 (p := (⟨b18, 0, none⟩ : Addr)) rfl) ?_
                    refine st_on (t := 129) (c := (decide (t127 = 2))) rfl rfl (decide_eq_true hc26) ?_
                    refine st_rn (fun r => ex_load rfl r) h ?_; clear h; intro t132 w h
                    refine st_on (t := 129) (c := (decide (t127 = 2))) rfl rfl (decide_eq_true hc26) ?_
                    refine st_cal en96 rfl h ?_; clear h; intro t133 w h
                    refine st_on (t := 129) (c := (decide (t127 = 2))) rfl rfl (decide_eq_true hc26) ?_
                    refine st_val (ex_gtr (a := t133) (b := 8) rfl rfl) ?_
                    refine st_val (ex_pick1 (b := (decide (t127 = 2))) rfl (decide_eq_true hc26) (v := (.bool (decide (8 < t133)))) rfl) ?_
                    refine wl_nil ?_
                    exact then_n ⟨(decide (8 < t133)), _, rfl, mk_upds' (ae rfl (ae rfl (ae rfl (ae rfl (ae rfl (ae rfl (ae rfl (ae rfl ae0)))))))), h⟩
                  · rw [if_neg hc26] at h
                    refine st_off (t := 129) (c := (decide (t127 = 2))) rfl rfl (decide_eq_false hc26) ?_
                    refine st_off (t := 129) (c := (decide (t127 = 2))) rfl rfl (decide_eq_false hc26) ?_
                    refine st_off (t := 129) (c := (decide (t127 = 2))) rfl rfl (decide_eq_false hc26) ?_
                    refine st_off (t := 129) (c := (decide (t127 = 2))) rfl rfl (decide_eq_false hc26) ?_
                    refine st_off (t := 129) (c := (decide (t127 = 2))) rfl rfl (decide_eq_false hc26) ?_
                    refine st_val (ex_pick0 (b := (decide (t127 = 2))) rfl (decide_eq_false hc26) (v := (.bool false)) rfl) ?_
                    refine wl_nil ?_
                    exact then_n ⟨false, _, rfl, mk_upds' (ae rfl (ae rfl (ae rfl (ae rfl (ae rfl (ae rfl (ae rfl (ae rfl ae0)))))))), h⟩
              · rw [if_neg hc24] at h; refine cond_0 (b := (decide (s23 < (t0.n : Int)))) rfl (decide_eq_false hc24) ?_
                refine wp_exit ?_
                refine then_e ?_
                refine then_e ?_
                refine inb_e ?_
                refine then_n ?_
                refine seq_ ?_
                refine region_ ?_
                refine st_val (ex_move (v := (Sl.v t0)) rfl) ?_
                refine st_cal en97 rfl h ?_; clear h; intro t140 w h
                refine st_val (ex_build (a' := []) (v := TFault.v (⟨0, 0, 0⟩ : TFault)) rfl (e_build Try.underlying80 zero80 rfl pl80 rfl _)) ?_
                refine st_val (ex_assign (v := (Sl.v t140)) rfl) ?_
                refine st_rnu (fun r => ex_store rfl rfl r) h ?_; clear h; intro w h
                refine wl_nil ?_
                refine then_n ?_
                refine wp_ret ?_
                obtain ⟨r1_6, hr1_6, h⟩ := h
                refine ret_tc rfl rfl rfl hr1_6 ⟨(t140, r1_6), rfl, h⟩

/-- turnpike/turnpikeref14.Less; slots 0:a, 1:b, 2:a, 3:b -/
def f47 (t0 : TResource) (t1 : TResource) (R : (Bool) → World → Prop) (w : World) : Prop :=
  New 48 (TResource.cells t0) w fun b2 w =>
  New 48 (TResource.cells t1) w fun b3 w =>
  Jn (σ := Bool) (fun k1 =>
    Rn Try.prog (Value.int .i64) (Instr.loadAt 3 (Ptr ((⟨b2, 0, none⟩ : Addr).add 0))) w fun t6 w =>
    Rn Try.prog (Value.int .i64) (Instr.loadAt 3 (Ptr ((⟨b3, 0, none⟩ : Addr).add 0))) w fun t8 w =>
    if t6 < t8 then
      k1 true w
    else
      Rn Try.prog (Value.int .i64) (Instr.loadAt 3 (Ptr ((⟨b2, 0, none⟩ : Addr).add 0))) w fun t12 w =>
      Rn Try.prog (Value.int .i64) (Instr.loadAt 3 (Ptr ((⟨b3, 0, none⟩ : Addr).add 0))) w fun t14 w =>
      if t12 = t14 then
        Rn Try.prog Value.string (Instr.loadAt 9 (Ptr ((⟨b2, 0, none⟩ : Addr).add 1))) w fun t18 w =>
        Rn Try.prog Value.string (Instr.loadAt 9 (Ptr ((⟨b3, 0, none⟩ : Addr).add 1))) w fun t20 w =>
        k1 (sLt t18 t20) w
      else
        k1 false w
  ) fun s1 w =>
    R s1 w
theorem c47 {t0 : TResource} {t1 : TResource} {R : (Bool) → World → Prop} {w : World} (h : f47 t0 t1 R w) :
    Cal Try.prog Value.bool 47 #[(TResource.v t0), (TResource.v t1)] w R := by
  unfold f47 at h
  refine calls_ Try.func47 Try.ntmps47 rfl rfl ?_
  refine seq_ ?_
  refine region_ ?_
  refine st_new (f := (fun b => Ptr ⟨b, 0, none⟩)) (ex_boxN rfl rfl) h ?_; clear h; intro b2 w h
  refine st_new (f := (fun b => Ptr ⟨b, 0, none⟩)) (ex_boxN rfl rfl) h ?_; clear h; intro b3 w h
  refine st_val (ex_assign (v := (.bool false)) rfl) ?_
  refine wl_nil ?_
  refine then_n ?_
  refine wp_jn (σ := Bool) (fun s1 l => ∃ j, l = upds j [(4, (.bool s1))]) h ?_ ?_
  · clear h; rintro s1 _ w ⟨j, rfl⟩ h
    refine wp_ret ?_
    refine ret_1 rfl rfl ⟨s1, rfl, h⟩
  · clear h; intro k1 h
    refine region_ ?_
    refine st_val (ex_fa fa48_0 (p := (⟨b2, 0, none⟩ : Addr)) rfl) ?_
    refine st_rn (fun r => ex_load rfl r) h ?_; clear h; intro t6 w h
    refine st_val (ex_fa fa48_0 (p := (⟨b3, 0, none⟩ : Addr)) rfl) ?_
    refine st_rn (fun r => ex_load rfl r) h ?_; clear h; intro t8 w h
    refine st_val (ex_lss (a := t6) (b := t8) rfl rfl) ?_
    refine st_val (ex_move (v := (.bool (decide (t6 < t8)))) rfl) ?_
    by_cases hc2 : t6 < t8
    · rw [if_pos hc2] at h
      refine st_off (t := 10) (c := (decide (t6 < t8))) rfl rfl (decide_eq_true hc2) ?_
      refine st_off (t := 10) (c := (decide (t6 < t8))) rfl rfl (decide_eq_true hc2) ?_
      refine st_off (t := 10) (c := (decide (t6 < t8))) rfl rfl (decide_eq_true hc2) ?_
      refine st_off (t := 10) (c := (decide (t6 < t8))) rfl rfl (decide_eq_true hc2) ?_
      refine st_off (t := 10) (c := (decide (t6 < t8))) rfl rfl (decide_eq_true hc2) ?_
      refine st_off (t := 10) (c := (decide (t6 < t8))) rfl rfl (decide_eq_true hc2) ?_
      refine st_offu (t := 16) rfl rfl ?_
      refine st_offu (t := 16) rfl rfl ?_
      refine st_offu (t := 16) rfl rfl ?_
      refine st_offu (t := 16) rfl rfl ?_
      refine st_offu (t := 16) rfl rfl ?_
      refine st_off (t := 10) (c := (decide (t6 < t8))) rfl rfl (decide_eq_true hc2) ?_
      refine st_val (ex_pick1 (b := (decide (t6 < t8))) rfl (decide_eq_true hc2) (v := (.bool true)) rfl) ?_
      refine st_val (ex_assign (v := (.bool true)) rfl) ?_
      refine wl_nil ?_
      exact then_n ⟨true, _, rfl, mk_upds' (ae rfl ae0), h⟩
    · rw [if_neg hc2] at h
      refine st_on (t := 10) (c := (decide (t6 < t8))) rfl rfl (decide_eq_false hc2) ?_
      refine st_val (ex_fa fa48_0 (p := (⟨b2, 0, none⟩ : Addr)) rfl) ?_
      refine st_on (t := 10) (c := (decide (t6 < t8))) rfl rfl (decide_eq_false hc2) ?_
      refine st_rn (fun r => ex_load rfl r) h ?_; clear h; intro t12 w h
      refine st_on (t := 10) (c := (decide (t6 < t8))) rfl rfl (decide_eq_false hc2) ?_
      refine st_val (ex_fa fa48_0 (p := (⟨b3, 0, none⟩ : Addr)) rfl) ?_
      refine st_on (t := 10) (c := (decide (t6 < t8))) rfl rfl (decide_eq_false hc2) ?_
      refine st_rn (fun r => ex_load rfl r) h ?_; clear h; intro t14 w h
      refine st_on (t := 10) (c := (decide (t6 < t8))) rfl rfl (decide_eq_false hc2) ?_
      refine st_val (ex_eql (a := t12) (b := t14) rfl rfl) ?_
      refine st_on (t := 10) (c := (decide (t6 < t8))) rfl rfl (decide_eq_false hc2) ?_
      refine st_val (ex_move (v := (.bool (decide (t12 = t14)))) rfl) ?_
      by_cases hc3 : t12 = t14
      · rw [if_pos hc3] at h
        refine st_on (t := 16) (c := (decide (t12 = t14))) rfl rfl (decide_eq_true hc3) ?_
        refine st_val (ex_fa fa48_1 (p := (⟨b2, 0, none⟩ : Addr)) rfl) ?_
        refine st_on (t := 16) (c := (decide (t12 = t14))) rfl rfl (decide_eq_true hc3) ?_
        refine st_rn (fun r => ex_load rfl r) h ?_; clear h; intro t18 w h
        refine st_on (t := 16) (c := (decide (t12 = t14))) rfl rfl (decide_eq_true hc3) ?_
        refine st_val (ex_fa fa48_1 (p := (⟨b3, 0, none⟩ : Addr)) rfl) ?_
        refine st_on (t := 16) (c := (decide (t12 = t14))) rfl rfl (decide_eq_true hc3) ?_
        refine st_rn (fun r => ex_load rfl r) h ?_; clear h; intro t20 w h
        refine st_on (t := 16) (c := (decide (t12 = t14))) rfl rfl (decide_eq_true hc3) ?_
        refine st_val (ex_lssS (a := t18) (b := t20) rfl rfl) ?_
        refine st_on (t := 10) (c := (decide (t6 < t8))) rfl rfl (decide_eq_false hc2) ?_
        refine st_val (ex_pick1 (b := (decide (t12 = t14))) rfl (decide_eq_true hc3) (v := (.bool (sLt t18 t20))) rfl) ?_
        refine st_val (ex_pick0 (b := (decide (t6 < t8))) rfl (decide_eq_false hc2) (v := (.bool (sLt t18 t20))) rfl) ?_
        refine st_val (ex_assign (v := (.bool (sLt t18 t20))) rfl) ?_
        refine wl_nil ?_
        exact then_n ⟨(sLt t18 t20), _, rfl, mk_upds' (ae rfl ae0), h⟩
      · rw [if_neg hc3] at h
        refine st_off (t := 16) (c := (decide (t12 = t14))) rfl rfl (decide_eq_false hc3) ?_
        refine st_off (t := 16) (c := (decide (t12 = t14))) rfl rfl (decide_eq_false hc3) ?_
        refine st_off (t := 16) (c := (decide (t12 = t14))) rfl rfl (decide_eq_false hc3) ?_
        refine st_off (t := 16) (c := (decide (t12 = t14))) rfl rfl (decide_eq_false hc3) ?_
        refine st_off (t := 16) (c := (decide (t12 = t14))) rfl rfl (decide_eq_false hc3) ?_
        refine st_on (t := 10) (c := (decide (t6 < t8))) rfl rfl (decide_eq_false hc2) ?_
        refine st_val (ex_pick0 (b := (decide (t12 = t14))) rfl (decide_eq_false hc3) (v := (.bool false)) rfl) ?_
        refine st_val (ex_pick0 (b := (decide (t6 < t8))) rfl (decide_eq_false hc2) (v := (.bool false)) rfl) ?_
        refine st_val (ex_assign (v := (.bool false)) rfl) ?_
        refine wl_nil ?_
        exact then_n ⟨false, _, rfl, mk_upds' (ae rfl ae0), h⟩

/-- slices.ContainsFunc[[]turnpike/api.Resource,turnpike/api.Resource]; slots 0:s, 1:f, 2:s, 3:f -/
def f53 (t0 : Sl) (t1 : Value) (R : (Bool) → World → Prop) (w : World) : Prop :=
  Cal Try.prog (Value.int .i64) 98 #[(Sl.v t0), t1] w fun t7 w =>
  R (decide (0 ≤ t7)) w
theorem c53 {t0 : Sl} {t1 : Value} {R : (Bool) → World → Prop} {w : World} (h : f53 t0 t1 R w) :
    Cal Try.prog Value.bool 53 #[(Sl.v t0), t1] w R := by
  unfold f53 at h
  refine calls_ Try.func53 Try.ntmps53 rfl rfl ?_
  refine seq_ ?_
  refine region_ ?_
  refine st_val (ex_assign (v := (.bool false)) rfl) ?_
  refine wl_nil ?_
  refine then_n ?_
  refine seq_ ?_
  refine region_ ?_
  refine st_val (ex_move (v := (Sl.v t0)) rfl) ?_
  refine st_val (ex_move (v := t1) rfl) ?_
  refine st_cal en98 rfl h ?_; clear h; intro t7 w h
  refine st_val (ex_geq (a := t7) (b := 0) rfl rfl) ?_
  refine st_val (ex_assign (v := (.bool (decide (0 ≤ t7)))) rfl) ?_
  refine wl_nil ?_
  refine then_n ?_
  refine wp_ret ?_
  refine ret_1 rfl rfl ⟨(decide (0 ≤ t7)), rfl, h⟩

/-- turnpike/tables.named; slots 0:conf, 1:kind, 2:conf, 3:kind, 5:out, 6:_, 7:r -/
def f54 (t0 : Sl) (t1 : Int) (R : (Sl) → World → Prop) (w : World) : Prop :=
  Lp (σ := Sl × Int) (fun s1 w n1 =>
    if s1.2 < (t0.n : Int) then
      Jn (σ := Sl) (fun k3 =>
        RnP Try.prog Ptr (Instr.indexAt 22 (Sl.v t0) (.int .i64 s1.2)) fun t12 =>
        Rn Try.prog TResource.v (Instr.loadAt 48 (Ptr t12)) w fun t13 w =>
        New 48 (TResource.cells (⟨0, ⟨#[]⟩, Sl.nil, Sl.nil, ⟨#[]⟩, Sl.nil, ⟨#[]⟩, false⟩ : TResource)) w fun b7 w =>
        RnU Try.prog (Instr.storeAt 48 (Ptr (⟨b7, 0, none⟩ : Addr)) (TResource.v t13)) w fun w =>
        Rn Try.prog (Value.int .i64) (Instr.loadAt 3 (Ptr ((⟨b7, 0, none⟩ : Addr).add 0))) w fun t15 w =>
        if t15 = t1 then
          Rn Try.prog TResource.v (Instr.loadAt 48 (Ptr (⟨b7, 0, none⟩ : Addr))) w fun t19 w =>
          New 48 ((TResource.cells t19)) w fun b20 w =>
          Rn Try.prog Sl.v (Builtin.append_ #[22, 22] 22 #[(Sl.v s1.1), (Sl.v (⟨some ⟨b20, 0, none⟩, 1, 1⟩ : Sl))]) w fun t21 w =>
          k3 t21 w
        else
          k3 s1.1 w
      ) fun s3 w =>
        n1 (s3, (IntKind.i64.wrap (s1.2 + 1))) w
    else
      R s1.1 w
  ) (Sl.nil, 0) w
theorem c54 {t0 : Sl} {t1 : Int} {R : (Sl) → World → Prop} {w : World} (h : f54 t0 t1 R w) :
    Cal Try.prog Sl.v 54 #[(Sl.v t0), (.int .i64 t1)] w R := by
  unfold f54 at h
  refine calls_ Try.func54 Try.ntmps54 rfl rfl ?_
  refine seq_ ?_
  refine region_ ?_
  refine st_val (ex_assign (v := (Sl.v Sl.nil)) rfl) ?_
  refine wl_nil ?_
  refine then_n ?_
  refine seq_ ?_
  refine region_ ?_
  refine st_val (ex_assign (v := (Sl.v Sl.nil)) rfl) ?_
  refine wl_nil ?_
  refine then_n ?_
  refine seq_ ?_
  refine seq_ ?_
  refine region_ ?_
  refine st_val (ex_move (v := (Sl.v t0)) rfl) ?_
  refine st_val (ex_len (s := t0) Try.underlying22 rfl) ?_
  refine st_val (ex_move (v := (.int .i64 0)) rfl) ?_
  refine wl_nil ?_
  refine then_n ?_
  refine wp_block ?_
  refine wp_lp (σ := Sl × Int) (fun s1 a => ∃ j, a = F 24 (upds j [(1, (.int .i64 t1)), (5, (Sl.v s1.1)), (8, (Sl.v t0)), (9, (.int .i64 (t0.n : Int))), (10, (.int .i64 s1.2))])) h (mk_upds (ae rfl (ae rfl (ae rfl (ae rfl (ae rfl ae0)))))) ?_
  clear h; rintro s1 _ w n1 ⟨j, rfl⟩ h
  refine seq_ ?_
  refine region_ ?_
  refine st_val (ex_lss (a := s1.2) (b := (t0.n : Int)) rfl rfl) ?_
  refine wl_nil ?_
  refine then_n ?_
  refine seq_ ?_
  by_cases hc2 : s1.2 < (t0.n : Int)
  · rw [if_pos hc2] at h; refine cond_1 (b := (decide (s1.2 < (t0.n : Int)))) rfl (decide_eq_true hc2) ?_
    refine wp_skip ?_
    refine then_n ?_
    refine wp_jn (σ := Sl) (fun s3 l => ∃ j, l = upds j [(1, (.int .i64 t1)), (5, (Sl.v s3)), (8, (Sl.v t0)), (9, (.int .i64 (t0.n : Int))), (10, (.int .i64 s1.2))]) h ?_ ?_
    · clear h; rintro s3 _ w ⟨j, rfl⟩ h
      refine region_ ?_
      refine st_val (ex_add (a := s1.2) (b := 1) rfl rfl) ?_
      refine st_val (ex_move (v := (.int .i64 (IntKind.i64.wrap (s1.2 + 1)))) rfl) ?_
      refine wl_nil ?_
      exact then_n ⟨(s3, (IntKind.i64.wrap (s1.2 + 1))), mk_upds (ae rfl (ae rfl (ae rfl (ae rfl (ae rfl ae0))))), h⟩
    · clear h; intro k3 h
      refine wp_block ?_
      refine seq_ ?_
      refine region_ ?_
      refine st_rnp (fun r => ex_indexAddr rfl rfl r) h ?_; clear h; intro t12 h
      refine st_rn (fun r => ex_load rfl r) h ?_; clear h; intro t13 w h
      refine st_new (f := (fun b => Ptr ⟨b, 0, none⟩)) (ex_allocN zero48 rfl) h ?_; clear h; intro b7 w h
      refine st_rnu (fun r => ex_store rfl rfl r) h ?_; clear h; intro w h
      refine wl_nil ?_
      refine then_n ?_
      refine seq_ ?_
      refine region_ ?_
      refine st_val (ex_fa fa48_0 (p := (⟨b7, 0, none⟩ : Addr)) rfl) ?_
      refine st_rn (fun r => ex_load rfl r) h ?_; clear h; intro t15 w h
      refine st_val (ex_move (v := (.int .i64 t1)) rfl) ?_
      refine st_val (ex_eql (a := t15) (b := t1) rfl rfl) ?_
      refine wl_nil ?_
      refine then_n ?_
      by_cases hc4 : t15 = t1
      · rw [if_pos hc4] at h; refine cond_1 (b := (decide (t15 = t1))) rfl (decide_eq_true hc4) ?_
        refine region_ ?_
        refine st_val (ex_move (v := (Sl.v s1.1)) rfl) ?_
        refine st_rn (fun r => ex_load rfl r) h ?_; clear h; intro t19 w h
        refine st_new (f := (fun b => Sl.v ⟨some ⟨b, 0, none⟩, 1, 1⟩)) (ex_buildSlice (a' := [(0, (TResource.v t19))]) rfl (e_buildSlice (cs := ((TResource.cells t19))) Try.underlying22 info48 iz48 (by decide +kernel) (by decide +kernel) (by kernel_rfl) _)) h ?_; clear h; intro b20 w h
        refine st_rn (fun r => ex_builtin rfl (fun _ => rfl) r) h ?_; clear h; intro t21 w h
        refine st_val (ex_assign (v := (Sl.v t21)) rfl) ?_
        refine wl_nil ?_
        refine inb_n ?_
        exact then_n ⟨t21, _, rfl, mk_upds' (ae rfl (ae rfl (ae rfl (ae rfl (ae rfl ae0))))), h⟩
      · rw [if_neg hc4] at h; refine cond_0 (b := (decide (t15 = t1))) rfl (decide_eq_false hc4) ?_
        refine wp_skip ?_
        refine inb_n ?_
        exact then_n ⟨s1.1, _, rfl, mk_upds' (ae rfl (ae rfl (ae rfl (ae rfl (ae rfl ae0))))), h⟩
  · rw [if_neg hc2] at h; refine cond_0 (b := (decide (s1.2 < (t0.n : Int)))) rfl (decide_eq_false hc2) ?_
    refine wp_exit ?_
    refine then_e ?_
    refine then_e ?_
    refine inb_e ?_
    refine then_n ?_
    refine seq_ ?_
    refine region_ ?_
    refine st_val (ex_move (v := (Sl.v s1.1)) rfl) ?_
    refine st_val (ex_assign (v := (Sl.v s1.1)) rfl) ?_
    refine wl_nil ?_
    refine then_n ?_
    refine wp_ret ?_
    refine ret_1 rfl rfl ⟨s1.1, rfl, h⟩

/-- turnpike/tables.Shares$1; slots 0:r, 2:r -/
def f55 (t0 : TResource) (t1 : Addr) (R : (Bool) → World → Prop) (w : World) : Prop :=
  New 48 (TResource.cells t0) w fun b2 w =>
  Rn Try.prog Value.string (Instr.loadAt 9 (Ptr ((⟨b2, 0, none⟩ : Addr).add 1))) w fun t5 w =>
  Rn Try.prog Value.string (Instr.loadAt 9 (Ptr t1)) w fun t6 w =>
  R (decide (t5 = t6)) w
theorem c55 {t0 : TResource} {t1 : Addr} {R : (Bool) → World → Prop} {w : World} (h : f55 t0 t1 R w) :
    Cal Try.prog Value.bool 55 #[(TResource.v t0), (Ptr t1)] w R := by
  unfold f55 at h
  refine calls_ Try.func55 Try.ntmps55 rfl rfl ?_
  refine seq_ ?_
  refine region_ ?_
  refine st_new (f := (fun b => Ptr ⟨b, 0, none⟩)) (ex_boxN rfl rfl) h ?_; clear h; intro b2 w h
  refine st_val (ex_assign (v := (.bool false)) rfl) ?_
  refine wl_nil ?_
  refine then_n ?_
  refine seq_ ?_
  refine region_ ?_
  refine st_val (ex_fa fa48_1 (p := (⟨b2, 0, none⟩ : Addr)) rfl) ?_
  refine st_rn (fun r => ex_load rfl r) h ?_; clear h; intro t5 w h
  refine st_rn (fun r => ex_load rfl r) h ?_; clear h; intro t6 w h
  refine st_val (ex_eqlS (a := t5) (b := t6) rfl rfl) ?_
  refine st_val (ex_assign (v := (.bool (decide (t5 = t6)))) rfl) ?_
  refine wl_nil ?_
  refine then_n ?_
  refine wp_ret ?_
  refine ret_1 rfl rfl ⟨(decide (t5 = t6)), rfl, h⟩

/-- slices.Clone[[]turnpike/api.Share,turnpike/api.Share]; slots 0:s, 1:s -/
def f56 (t0 : Sl) (R : (Sl) → World → Prop) (w : World) : Prop :=
  if (t0.a.isNone) = true then
    R Sl.nil w
  else
    New 32 [] w fun b5 w =>
    Rn Try.prog Sl.v (Builtin.append_ #[23, 23] 23 #[(Sl.v (⟨some ⟨b5, 0, none⟩, 0, 0⟩ : Sl)), (Sl.v t0)]) w fun t7 w =>
    R t7 w
theorem c56 {t0 : Sl} {R : (Sl) → World → Prop} {w : World} (h : f56 t0 R w) :
    Cal Try.prog Sl.v 56 #[(Sl.v t0)] w R := by
  unfold f56 at h
  refine calls_ Try.func56 Try.ntmps56 rfl rfl ?_
  refine seq_ ?_
  refine region_ ?_
  refine st_val (ex_assign (v := (Sl.v Sl.nil)) rfl) ?_
  refine wl_nil ?_
  refine then_n ?_
  refine seq_ ?_
  refine seq_ ?_
  refine region_ ?_
  refine st_val (ex_move (v := (Sl.v t0)) rfl) ?_
  refine st_val (ex_eqlSlNil (s := t0) (n := 0) (c := 0) Try.underlying23 rfl rfl) ?_
  refine wl_nil ?_
  refine then_n ?_
  by_cases hc1 : (t0.a.isNone) = true
  · rw [if_pos hc1] at h; refine cond_1 (b := (t0.a.isNone)) rfl hc1 ?_
    refine seq_ ?_
    refine region_ ?_
    refine st_val (ex_assign (v := (Sl.v Sl.nil)) rfl) ?_
    refine wl_nil ?_
    refine then_n ?_
    refine wp_ret ?_
    refine then_r ?_
    refine ret_1 rfl rfl ⟨Sl.nil, rfl, h⟩
  · rw [if_neg hc1] at h; refine cond_0 (b := (t0.a.isNone)) rfl (Bool.eq_false_iff.2 hc1) ?_
    refine wp_skip ?_
    refine then_n ?_
    refine seq_ ?_
    refine region_ ?_
    refine st_new (f := (fun b => Sl.v ⟨some ⟨b, 0, none⟩, 0, 0⟩)) (ex_buildSlice (a' := []) rfl (e_buildSlice0 Try.underlying23 info32 _)) h ?_; clear h; intro b5 w h
    refine st_val (ex_move (v := (Sl.v t0)) rfl) ?_
    refine st_rn (fun r => ex_builtin rfl (fun _ => rfl) r) h ?_; clear h; intro t7 w h
    refine st_val (ex_assign (v := (Sl.v t7)) rfl) ?_
    refine wl_nil ?_
    refine then_n ?_
    refine wp_ret ?_
    refine ret_1 rfl rfl ⟨t7, rfl, h⟩

/-- turnpike/tables.all; slots 0:conf, 1:conf, 3:targets, 4:_, 5:s, 6:done, 7:of, 8:name -/
def f57 (t0 : Sl) (R : ((Option Nat)) → World → Prop) (w : World) : Prop :=
  NewM w fun b9 w =>
  New 153 [(.map none)] w fun b3 w =>
  RnU Try.prog (Instr.storeAt 153 (Ptr (⟨b3, 0, none⟩ : Addr)) (.map (some b9))) w fun w =>
  Cal Try.prog Sl.v 54 #[(Sl.v t0), (.int .i64 2)] w fun t11 w =>
  Lp (σ := Int) (fun s1 w n1 =>
    if s1 < (t11.n : Int) then
      RnP Try.prog Ptr (Instr.indexAt 22 (Sl.v t11) (.int .i64 s1)) fun t15 =>
      Rn Try.prog TResource.v (Instr.loadAt 48 (Ptr t15)) w fun t16 w =>
      New 48 (TResource.cells (⟨0, ⟨#[]⟩, Sl.nil, Sl.nil, ⟨#[]⟩, Sl.nil, ⟨#[]⟩, false⟩ : TResource)) w fun b5 w =>
      RnU Try.prog (Instr.storeAt 48 (Ptr (⟨b5, 0, none⟩ : Addr)) (TResource.v t16)) w fun w =>
      Rn Try.prog Value.map (Instr.loadAt 153 (Ptr (⟨b3, 0, none⟩ : Addr))) w fun t17 w =>
      Rn Try.prog Value.string (Instr.loadAt 9 (Ptr ((⟨b5, 0, none⟩ : Addr).add 1))) w fun t19 w =>
      Rn Try.prog Sl.v (Instr.loadAt 45 (Ptr ((⟨b5, 0, none⟩ : Addr).add 3))) w fun t21 w =>
      RnU Try.prog (Instr.mapUpdate 153 (.map t17) (.string t19) (Sl.v t21)) w fun w =>
      n1 (IntKind.i64.wrap (s1 + 1)) w
    else
      NewM w fun b23 w =>
      New 97 [(.map none)] w fun b6 w =>
      RnU Try.prog (Instr.storeAt 97 (Ptr (⟨b6, 0, none⟩ : Addr)) (.map (some b23))) w fun w =>
      New 154 [Value.nilFunc] w fun b7 w =>
      RnU Try.prog (Instr.storeAt 154 (Ptr (⟨b7, 0, none⟩ : Addr)) (Value.func (.func 99) #[] #[(Ptr (⟨b6, 0, none⟩ : Addr)), (Ptr (⟨b3, 0, none⟩ : Addr)), (Ptr (⟨b7, 0, none⟩ : Addr))])) w fun w =>
      Rn Try.prog Value.map (Instr.loadAt 153 (Ptr (⟨b3, 0, none⟩ : Addr))) w fun t25 w =>
      Rn Try.prog (fun x : Value => x) (Instr.range 153 (.map t25)) w fun t26 w =>
      Lp (σ := Unit) (fun s3 w n3 =>
        Rn Try.prog (fun x : Value => x) (Instr.next t26 false 0) w fun t27 w =>
        RnP Try.prog Value.bool (Instr.extract t27 0) fun t28 =>
        if t28 = true then
          Rn Try.prog (fun x : Value => x) (Instr.entry t26) w fun t29 w =>
          RnP Try.prog Value.string (Instr.extract t29 0) fun t30 =>
          Rn Try.prog (fun x : Value => x) (Instr.loadAt 154 (Ptr (⟨b7, 0, none⟩ : Addr))) w fun t31 w =>
          CalV Try.prog Sl.v t31 #[(.string t30)] w fun t33 w =>
          n3 () w
        else
          Rn Try.prog Value.map (Instr.loadAt 97 (Ptr (⟨b6, 0, none⟩ : Addr))) w fun t34 w =>
          R t34 w
      ) () w
  ) 0 w
theorem c57 {t0 : Sl} {R : ((Option Nat)) → World → Prop} {w : World} (h : f57 t0 R w) :
    Cal Try.prog Value.map 57 #[(Sl.v t0)] w R := by
  unfold f57 at h
  refine calls_ Try.func57 Try.ntmps57 rfl rfl ?_
  refine seq_ ?_
  refine region_ ?_
  refine st_val (ex_assign (v := (.map none)) rfl) ?_
  refine wl_nil ?_
  refine then_n ?_
  refine seq_ ?_
  refine region_ ?_
  refine st_newm (ex_makeMap (e_makeMap _)) h ?_; clear h; intro b9 w h
  refine st_new (f := (fun b => Ptr ⟨b, 0, none⟩)) (ex_allocN zero153 rfl) h ?_; clear h; intro b3 w h
  refine st_rnu (fun r => ex_store rfl rfl r) h ?_; clear h; intro w h
  refine wl_nil ?_
  refine then_n ?_
  refine seq_ ?_
  refine seq_ ?_
  refine region_ ?_
  refine st_val (ex_move (v := (Sl.v t0)) rfl) ?_
  refine st_cal en54 rfl h ?_; clear h; intro t11 w h
  refine st_val (ex_len (s := t11) Try.underlying22 rfl) ?_
  refine st_val (ex_move (v := (.int .i64 0)) rfl) ?_
  refine wl_nil ?_
  refine then_n ?_
  refine wp_block ?_
  refine wp_lp (σ := Int) (fun s1 a => ∃ j, a = F 35 (upds j [(3, (Ptr (⟨b3, 0, none⟩ : Addr))), (11, (Sl.v t11)), (12, (.int .i64 (t11.n : Int))), (13, (.int .i64 s1))])) h (mk_upds (ae rfl (ae rfl (ae rfl (ae rfl ae0))))) ?_
  clear h; rintro s1 _ w n1 ⟨j, rfl⟩ h
  refine seq_ ?_
  refine region_ ?_
  refine st_val (ex_lss (a := s1) (b := (t11.n : Int)) rfl rfl) ?_
  refine wl_nil ?_
  refine then_n ?_
  refine seq_ ?_
  by_cases hc2 : s1 < (t11.n : Int)
  · rw [if_pos hc2] at h; refine cond_1 (b := (decide (s1 < (t11.n : Int)))) rfl (decide_eq_true hc2) ?_
    refine wp_skip ?_
    refine then_n ?_
    refine seq_ ?_
    refine wp_block ?_
    refine seq_ ?_
    refine region_ ?_
    refine st_rnp (fun r => ex_indexAddr rfl rfl r) h ?_; clear h; intro t15 h
    refine st_rn (fun r => ex_load rfl r) h ?_; clear h; intro t16 w h
    refine st_new (f := (fun b => Ptr ⟨b, 0, none⟩)) (ex_allocN zero48 rfl) h ?_; clear h; intro b5 w h
    refine st_rnu (fun r => ex_store rfl rfl r) h ?_; clear h; intro w h
    refine wl_nil ?_
    refine then_n ?_
    refine region_ ?_
    refine st_rn (fun r => ex_load rfl r) h ?_; clear h; intro t17 w h
    refine st_val (ex_fa fa48_1 (p := (⟨b5, 0, none⟩ : Addr)) rfl) ?_
    refine st_rn (fun r => ex_load rfl r) h ?_; clear h; intro t19 w h
    refine st_val (ex_fa fa48_3 (p := (⟨b5, 0, none⟩ : Addr)) rfl) ?_
    refine st_rn (fun r => ex_load rfl r) h ?_; clear h; intro t21 w h
    refine st_rnu (fun r => ex_mapUpdate rfl rfl rfl r) h ?_; clear h; intro w h
    refine wl_nil ?_
    refine inb_n ?_
    refine then_n ?_
    refine region_ ?_
    refine st_val (ex_add (a := s1) (b := 1) rfl rfl) ?_
    refine st_val (ex_move (v := (.int .i64 (IntKind.i64.wrap (s1 + 1)))) rfl) ?_
    refine wl_nil ?_
    exact then_n ⟨(IntKind.i64.wrap (s1 + 1)), mk_upds (ae rfl (ae rfl (ae rfl (ae rfl ae0)))), h⟩
  · rw [if_neg hc2] at h; refine cond_0 (b := (decide (s1 < (t11.n : Int)))) rfl (decide_eq_false hc2) ?_
    refine wp_exit ?_
    refine then_e ?_
    refine then_e ?_
    refine inb_e ?_
    refine then_n ?_
    refine seq_ ?_
    refine region_ ?_
    refine st_newm (ex_makeMap (e_makeMap _)) h ?_; clear h; intro b23 w h
    refine st_new (f := (fun b => Ptr ⟨b, 0, none⟩)) (ex_allocN zero97 rfl) h ?_; clear h; intro b6 w h
    refine st_rnu (fun r => ex_store rfl rfl r) h ?_; clear h; intro w h
    refine wl_nil ?_
    refine then_n ?_
    refine seq_ ?_
    refine region_ ?_
    refine st_new (f := (fun b => Ptr ⟨b, 0, none⟩)) (ex_allocN zero154 rfl) h ?_; clear h; intro b7 w h
    refine wl_nil ?_
    refine then_n ?_
    refine seq_ ?_
    refine region_ ?_
    refine st_val (ex_makeFunc rfl rfl) ?_
    refine st_rnu (fun r => ex_store rfl rfl r) h ?_; clear h; intro w h
    refine wl_nil ?_
    refine then_n ?_
    refine seq_ ?_
    refine seq_ ?_
    refine region_ ?_
    refine st_rn (fun r => ex_load rfl r) h ?_; clear h; intro t25 w h
    refine st_rn (fun r => ex_range rfl r) h ?_; clear h; intro t26 w h
    refine wl_nil ?_
    refine then_n ?_
    refine wp_block ?_
    refine wp_lp (σ := Unit) (fun s3 a => ∃ j, a = F 35 (upds j [(6, (Ptr (⟨b6, 0, none⟩ : Addr))), (7, (Ptr (⟨b7, 0, none⟩ : Addr))), (26, t26)])) h (mk_upds (ae rfl (ae rfl (ae rfl ae0)))) ?_
    clear h; rintro s3 _ w n3 ⟨j, rfl⟩ h
    refine seq_ ?_
    refine region_ ?_
    refine st_rn (fun r => ex_next rfl r) h ?_; clear h; intro t27 w h
    refine st_rnp (fun r => ex_extract rfl r) h ?_; clear h; intro t28 h
    refine wl_nil ?_
    refine then_n ?_
    refine seq_ ?_
    by_cases hc4 : t28 = true
    · rw [if_pos hc4] at h; refine cond_1 (b := t28) rfl hc4 ?_
      refine wp_skip ?_
      refine then_n ?_
      refine wp_block ?_
      refine seq_ ?_
      refine region_ ?_
      refine st_rn (fun r => ex_entry rfl r) h ?_; clear h; intro t29 w h
      refine st_rnp (fun r => ex_extract rfl r) h ?_; clear h; intro t30 h
      refine st_val (ex_assign (v := (.string t30)) rfl) ?_
      refine wl_nil ?_
      refine then_n ?_
      refine region_ ?_
      refine st_rn (fun r => ex_load rfl r) h ?_; clear h; intro t31 w h
      refine st_val (ex_move (v := (.string t30)) rfl) ?_
      refine st_calv rfl rfl h ?_; clear h; intro t33 w h
      refine wl_nil ?_
      refine inb_n ?_
      exact then_n ⟨(), mk_upds (ae rfl (ae rfl (ae rfl ae0))), h⟩
    · rw [if_neg hc4] at h; refine cond_0 (b := t28) rfl (Bool.eq_false_iff.2 hc4) ?_
      refine wp_exit ?_
      refine then_e ?_
      refine then_e ?_
      refine inb_e ?_
      refine then_n ?_
      refine seq_ ?_
      refine region_ ?_
      refine st_rn (fun r => ex_load rfl r) h ?_; clear h; intro t34 w h
      refine st_val (ex_assign (v := (.map t34)) rfl) ?_
      refine wl_nil ?_
      refine then_n ?_
      refine wp_ret ?_
      refine ret_1 rfl rfl ⟨t34, rfl, h⟩

/-- turnpike/turnpikeref14.Check; slots 0:conf, 1:conf, 4:i, 5:i, 6:n, 7:i, 8:k, 9:i, 10:sum, 11:fine, 12:k, 13:w, 14:near, 15:d, 16:i, 17:out, 18:i, 19:k, 20:x, 21:m, 22:y -/
def f58 (t0 : Sl) (R : (Sl × TFault14) → World → Prop) (w : World) : Prop :=
  New 101 (TFault14.cells (⟨0, 0, 0⟩ : TFault14)) w fun b3 w =>
  Cal Try.prog (Value.int .i64) 65 #[(Sl.v t0)] w fun t24 w =>
  if 0 ≤ t24 then
    RnU Try.prog (Instr.storeAt 101 (Ptr (⟨b3, 0, none⟩ : Addr)) (TFault14.v (⟨t24, 0, 2⟩ : TFault14))) w fun w =>
    RnR Try.prog TFault14.v (loadVar 101 (⟨b3, 0, none⟩ : Addr)) w fun r1 =>
    R (Sl.nil, r1) w
  else
    if 64 < (t0.n : Int) then
      RnU Try.prog (Instr.storeAt 101 (Ptr (⟨b3, 0, none⟩ : Addr)) (TFault14.v (⟨0, 0, 124⟩ : TFault14))) w fun w =>
      RnR Try.prog TFault14.v (loadVar 101 (⟨b3, 0, none⟩ : Addr)) w fun r1_1 =>
      R (Sl.nil, r1_1) w
    else
      Lp (σ := Int) (fun s3 w n3 =>
        if s3 < (t0.n : Int) then
          RnP Try.prog Ptr (Instr.indexAt 22 (Sl.v t0) (.int .i64 s3)) fun t42 =>
          Rn Try.prog TResource.v (Instr.loadAt 48 (Ptr t42)) w fun t43 w =>
          Cal Try.prog (Value.int .i64) 101 #[(Sl.v t0), (TResource.v t43)] w fun t44 w =>
          if 0 ≤ t44 then
            RnU Try.prog (Instr.storeAt 101 (Ptr (⟨b3, 0, none⟩ : Addr)) (TFault14.v (⟨s3, t44, 140⟩ : TFault14))) w fun w =>
            RnR Try.prog TFault14.v (loadVar 101 (⟨b3, 0, none⟩ : Addr)) w fun r1_2 =>
            R (Sl.nil, r1_2) w
          else
            n3 (IntKind.i64.wrap (s3 + 1)) w
        else
          Lp (σ := Int) (fun s6 w n6 =>
            if s6 < (t0.n : Int) then
              Lp (σ := Int) (fun s8 w n8 =>
                if s8 < s6 then
                  Jn (σ := Bool) (fun k10 =>
                    Dr w fun w11 w =>
                      RnP Try.prog Ptr (Instr.indexAt 22 (Sl.v t0) (.int .i64 s6)) fun t63 =>
                      RnL Try.prog (Value.int .i64) (Instr.loadAt 3 (Ptr (t63.add 0))) w11 fun t65 =>
                      if t65 = 3 then
                        RnP Try.prog Ptr (Instr.indexAt 22 (Sl.v t0) (.int .i64 s8)) fun t70 =>
                        RnL Try.prog (Value.int .i64) (Instr.loadAt 3 (Ptr (t70.add 0))) w11 fun t72 =>
                        if t72 = 3 then
                          RnP Try.prog Ptr (Instr.indexAt 22 (Sl.v t0) (.int .i64 s6)) fun t78 =>
                          RnL Try.prog Value.string (Instr.loadAt 9 (Ptr (t78.add 4))) w11 fun t80 =>
                          RnP Try.prog Ptr (Instr.indexAt 22 (Sl.v t0) (.int .i64 s8)) fun t83 =>
                          RnL Try.prog Value.string (Instr.loadAt 9 (Ptr (t83.add 4))) w11 fun t85 =>
                          k10 (decide (t80 = t85)) w
                        else
                          k10 false w
                      else
                        k10 false w
                  ) fun s10 w =>
                    if s10 = true then
                      RnU Try.prog (Instr.storeAt 101 (Ptr (⟨b3, 0, none⟩ : Addr)) (TFault14.v (⟨s6, 0, 141⟩ : TFault14))) w fun w =>
                      RnR Try.prog TFault14.v (loadVar 101 (⟨b3, 0, none⟩ : Addr)) w fun r1_3 =>
                      R (Sl.nil, r1_3) w
                    else
                      n8 (IntKind.i64.wrap (s8 + 1)) w
                else
                  n6 (IntKind.i64.wrap (s6 + 1)) w
              ) 0 w
            else
              Lp (σ := Int) (fun s15 w n15 =>
                if s15 < (t0.n : Int) then
                  Lp (σ := Nat × Bool × Int) (fun s17 w n17 =>
                    RnP Try.prog Ptr (Instr.indexAt 22 (Sl.v t0) (.int .i64 s15)) fun t99 =>
                    Rn Try.prog Sl.v (Instr.loadAt 45 (Ptr (t99.add 3))) w fun t101 w =>
                    if s17.2.2 < (t101.n : Int) then
                      RnP Try.prog Ptr (Instr.indexAt 22 (Sl.v t0) (.int .i64 s15)) fun t108 =>
                      Rn Try.prog Sl.v (Instr.loadAt 45 (Ptr (t108.add 3))) w fun t110 w =>
                      RnP Try.prog Ptr (Instr.indexAt 45 (Sl.v t110) (.int .i64 s17.2.2)) fun t112 =>
                      Rn Try.prog (Value.float .f64) (Instr.loadAt 30 (Ptr (t112.add 2))) w fun t114 w =>
                      Jn (σ := Bool) (fun k19 =>
                        if s17.2.1 = true then
                          if (fGe t114 0) = true then
                            k19 (fLe t114 4636737291354636288) w
                          else
                            k19 false w
                        else
                          k19 false w
                      ) fun s19 w =>
                        Rn Try.prog (Value.float .f64) (Op.floatArith .add .f64 s17.1 t114) w fun t126 w =>
                        n17 (t126, s19, (IntKind.i64.wrap (s17.2.2 + 1))) w
                    else
                      Jn (σ := Bool) (fun k22 =>
                        RnP Try.prog Ptr (Instr.indexAt 22 (Sl.v t0) (.int .i64 s15)) fun t129 =>
                        Rn Try.prog (Value.int .i64) (Instr.loadAt 3 (Ptr (t129.add 0))) w fun t131 w =>
                        if t131 = 2 then
                          if s17.2.1 = true then
                            Rn Try.prog (Value.float .f64) (Op.floatArith .sub .f64 4636737291354636288 4517110426252607488) w fun t138 w =>
                            if (fGe s17.1 t138) = true then
                              Rn Try.prog (Value.float .f64) (Op.floatArith .add .f64 4636737291354636288 4517110426252607488) w fun t144 w =>
                              k22 (!(fLe s17.1 t144)) w
                            else
                              k22 (!false) w
                          else
                            k22 (!false) w
                        else
                          k22 false w
                      ) fun s22 w =>
                        if s22 = true then
                          RnU Try.prog (Instr.storeAt 101 (Ptr (⟨b3, 0, none⟩ : Addr)) (TFault14.v (⟨s15, 0, 142⟩ : TFault14))) w fun w =>
                          RnR Try.prog TFault14.v (loadVar 101 (⟨b3, 0, none⟩ : Addr)) w fun r1_4 =>
                          R (Sl.nil, r1_4) w
                        else
                          n15 (IntKind.i64.wrap (s15 + 1)) w
                  ) (0, true, 0) w
                else
                  Cal Try.prog Sl.v 102 #[(Sl.v t0)] w fun t152 w =>
                  Lp (σ := Int) (fun s27 w n27 =>
                    if s27 < (t0.n : Int) then
                      Jn (σ := Bool) (fun k29 =>
                        RnP Try.prog Ptr (Instr.indexAt 22 (Sl.v t0) (.int .i64 s27)) fun t161 =>
                        Rn Try.prog (Value.int .i64) (Instr.loadAt 3 (Ptr (t161.add 0))) w fun t163 w =>
                        if t163 = 2 then
                          RnP Try.prog Ptr (Instr.indexAt 77 (Sl.v t152) (.int .i64 s27)) fun t168 =>
                          Rn Try.prog (Value.int .i64) (Instr.loadAt 3 (Ptr t168)) w fun t169 w =>
                          k29 (decide (t169 = 0)) w
                        else
                          k29 false w
                      ) fun s29 w =>
                        if s29 = true then
                          RnU Try.prog (Instr.storeAt 101 (Ptr (⟨b3, 0, none⟩ : Addr)) (TFault14.v (⟨s27, 0, 143⟩ : TFault14))) w fun w =>
                          RnR Try.prog TFault14.v (loadVar 101 (⟨b3, 0, none⟩ : Addr)) w fun r1_5 =>
                          R (Sl.nil, r1_5) w
                        else
                          n27 (IntKind.i64.wrap (s27 + 1)) w
                    else
                      Lp (σ := Sl × Int) (fun s32 w n32 =>
                        if s32.2 < (t0.n : Int) then
                          Jn (σ := Sl) (fun k34 =>
                            RnP Try.prog Ptr (Instr.indexAt 22 (Sl.v t0) (.int .i64 s32.2)) fun t182 =>
                            Rn Try.prog (Value.int .i64) (Instr.loadAt 3 (Ptr (t182.add 0))) w fun t184 w =>
                            if t184 < 3 then
                              k34 s32.1 w
                            else
                              Lp (σ := Sl × Int) (fun s36 w n36 =>
                                RnP Try.prog Ptr (Instr.indexAt 22 (Sl.v t0) (.int .i64 s32.2)) fun t189 =>
                                Rn Try.prog Sl.v (Instr.loadAt 46 (Ptr (t189.add 5))) w fun t191 w =>
                                if s36.2 < (t191.n : Int) then
                                  Jn (σ := Sl) (fun k38 =>
                                    RnP Try.prog Ptr (Instr.indexAt 22 (Sl.v t0) (.int .i64 s32.2)) fun t198 =>
                                    Rn Try.prog Sl.v (Instr.loadAt 46 (Ptr (t198.add 5))) w fun t200 w =>
                                    RnP Try.prog Ptr (Instr.indexAt 46 (Sl.v t200) (.int .i64 s36.2)) fun t202 =>
                                    Rn Try.prog TRule.v (Instr.loadAt 91 (Ptr t202)) w fun t203 w =>
                                    New 91 (TRule.cells (⟨⟨#[]⟩, ⟨#[]⟩, ⟨#[]⟩, false⟩ : TRule)) w fun b20 w =>
                                    RnU Try.prog (Instr.storeAt 91 (Ptr (⟨b20, 0, none⟩ : Addr)) (TRule.v t203)) w fun w =>
                                    Lp (σ := Sl × Int) (fun s39 w n39 =>
                                      if s39.2 < s36.2 then
                                        RnP Try.prog Ptr (Instr.indexAt 22 (Sl.v t0) (.int .i64 s32.2)) fun t211 =>
                                        Rn Try.prog Sl.v (Instr.loadAt 46 (Ptr (t211.add 5))) w fun t213 w =>
                                        RnP Try.prog Ptr (Instr.indexAt 46 (Sl.v t213) (.int .i64 s39.2)) fun t215 =>
                                        Rn Try.prog TRule.v (Instr.loadAt 91 (Ptr t215)) w fun t216 w =>
                                        New 91 (TRule.cells (⟨⟨#[]⟩, ⟨#[]⟩, ⟨#[]⟩, false⟩ : TRule)) w fun b22 w =>
                                        RnU Try.prog (Instr.storeAt 91 (Ptr (⟨b22, 0, none⟩ : Addr)) (TRule.v t216)) w fun w =>
                                        Jn (σ := Bool) (fun k41 =>
                                          Rn Try.prog Value.string (Instr.loadAt 9 (Ptr ((⟨b22, 0, none⟩ : Addr).add 1))) w fun t218 w =>
                                          if t218 = (⟨#[42]⟩ : ByteArray) then
                                            Rn Try.prog Value.string (Instr.loadAt 9 (Ptr ((⟨b22, 0, none⟩ : Addr).add 0))) w fun t229 w =>
                                            Rn Try.prog Value.string (Instr.loadAt 9 (Ptr ((⟨b20, 0, none⟩ : Addr).add 0))) w fun t231 w =>
                                            Cal Try.prog Value.bool 103 #[(.string t229), (.string t231)] w fun t232 w =>
                                            k41 t232 w
                                          else
                                            Rn Try.prog Value.string (Instr.loadAt 9 (Ptr ((⟨b22, 0, none⟩ : Addr).add 1))) w fun t222 w =>
                                            Rn Try.prog Value.string (Instr.loadAt 9 (Ptr ((⟨b20, 0, none⟩ : Addr).add 1))) w fun t224 w =>
                                            if t222 = t224 then
                                              Rn Try.prog Value.string (Instr.loadAt 9 (Ptr ((⟨b22, 0, none⟩ : Addr).add 0))) w fun t229_1 w =>
                                              Rn Try.prog Value.string (Instr.loadAt 9 (Ptr ((⟨b20, 0, none⟩ : Addr).add 0))) w fun t231_1 w =>
                                              Cal Try.prog Value.bool 103 #[(.string t229_1), (.string t231_1)] w fun t232_1 w =>
                                              k41 t232_1 w
                                            else
                                              k41 false w
                                        ) fun s41 w =>
                                          if s41 = true then
                                            New 160 ((TWarning14.cells (⟨s32.2, s36.2, s39.2⟩ : TWarning14))) w fun b239 w =>
                                            Rn Try.prog Sl.v (Builtin.append_ #[99, 99] 99 #[(Sl.v s39.1), (Sl.v (⟨some ⟨b239, 0, none⟩, 1, 1⟩ : Sl))]) w fun t240 w =>
                                            k38 t240 w
                                          else
                                            n39 (s39.1, (IntKind.i64.wrap (s39.2 + 1))) w
                                      else
                                        k38 s39.1 w
                                    ) (s36.1, 0) w
                                  ) fun s38 w =>
                                    n36 (s38, (IntKind.i64.wrap (s36.2 + 1))) w
                                else
                                  k34 s36.1 w
                              ) (s32.1, 0) w
                          ) fun s34 w =>
                            n32 (s34, (IntKind.i64.wrap (s32.2 + 1))) w
                        else
                          RnU Try.prog (Instr.storeAt 101 (Ptr (⟨b3, 0, none⟩ : Addr)) (TFault14.v (⟨0, 0, 0⟩ : TFault14))) w fun w =>
                          RnR Try.prog TFault14.v (loadVar 101 (⟨b3, 0, none⟩ : Addr)) w fun r1_6 =>
                          R (s32.1, r1_6) w
                      ) (Sl.nil, 0) w
                  ) 0 w
              ) 0 w
          ) 0 w
      ) 0 w
theorem c58 {t0 : Sl} {R : (Sl × TFault14) → World → Prop} {w : World} (h : f58 t0 R w) :
    Cal Try.prog (fun x : Sl × TFault14 => Value.tuple #[(Sl.v x.1), (TFault14.v x.2)]) 58 #[(Sl.v t0)] w R := by
  unfold f58 at h
  refine calls_ Try.func58 Try.ntmps58 rfl rfl ?_
  refine seq_ ?_
  refine region_ ?_
  refine st_val (ex_assign (v := (Sl.v Sl.nil)) rfl) ?_
  refine st_new (f := (fun b => Ptr ⟨b, 0, none⟩)) (ex_allocN zero101 rfl) h ?_; clear h; intro b3 w h
  refine wl_nil ?_
  refine then_n ?_
  refine seq_ ?_
  refine region_ ?_
  refine st_val (ex_move (v := (Sl.v t0)) rfl) ?_
  refine st_cal en65 rfl h ?_; clear h; intro t24 w h
  refine st_val (ex_assign (v := (.int .i64 t24)) rfl) ?_
  refine wl_nil ?_
  refine then_n ?_
  refine seq_ ?_
  refine seq_ ?_
  refine region_ ?_
  refine st_val (ex_move (v := (.int .i64 t24)) rfl) ?_
  refine st_val (ex_geq (a := t24) (b := 0) rfl rfl) ?_
  refine wl_nil ?_
  refine then_n ?_
  by_cases hc1 : 0 ≤ t24
  · rw [if_pos hc1] at h; refine cond_1 (b := (decide (0 ≤ t24))) rfl (decide_eq_true hc1) ?_
    refine seq_ ?_
    refine region_ ?_
    refine st_val (ex_move (v := (.int .i64 t24)) rfl) ?_
    refine st_val (ex_build (a' := [(0, (.int .i64 t24)), (2, (.int .i64 2))]) (v := TFault14.v (⟨t24, 0, 2⟩ : TFault14)) rfl (e_build Try.underlying101 zero101 rfl pl101 rfl _)) ?_
    refine st_val (ex_assign (v := (Sl.v Sl.nil)) rfl) ?_
    refine st_rnu (fun r => ex_store rfl rfl r) h ?_; clear h; intro w h
    refine wl_nil ?_
    refine then_n ?_
    refine wp_ret ?_
    refine then_r ?_
    obtain ⟨r1, hr1, h⟩ := h
    refine ret_tc rfl rfl rfl hr1 ⟨(Sl.nil, r1), rfl, h⟩
  · rw [if_neg hc1] at h; refine cond_0 (b := (decide (0 ≤ t24))) rfl (decide_eq_false hc1) ?_
    refine wp_skip ?_
    refine then_n ?_
    refine seq_ ?_
    refine seq_ ?_
    refine region_ ?_
    refine st_val (ex_move (v := (Sl.v t0)) rfl) ?_
    refine st_val (ex_len (s := t0) Try.underlying22 rfl) ?_
    refine st_val (ex_gtr (a := (t0.n : Int)) (b := 64) rfl rfl) ?_
    refine wl_nil ?_
    refine then_n ?_
    by_cases hc2 : 64 < (t0.n : Int)
    · rw [if_pos hc2] at h; refine cond_1 (b := (decide (64 < (t0.n : Int)))) rfl (decide_eq_true hc2) ?_
      refine seq_ ?_
      refine region_ ?_
      refine st_val (ex_build (a' := [(2, (.int .i64 124))]) (v := TFault14.v (⟨0, 0, 124⟩ : TFault14)) rfl (e_build Try.underlying101 zero101 rfl pl101 rfl _)) ?_
      refine st_val (ex_assign (v := (Sl.v Sl.nil)) rfl) ?_
      refine st_rnu (fun r => ex_store rfl rfl r) h ?_; clear h; intro w h
      refine wl_nil ?_
      refine then_n ?_
      refine wp_ret ?_
      refine then_r ?_
      obtain ⟨r1_1, hr1_1, h⟩ := h
      refine ret_tc rfl rfl rfl hr1_1 ⟨(Sl.nil, r1_1), rfl, h⟩
    · rw [if_neg hc2] at h; refine cond_0 (b := (decide (64 < (t0.n : Int)))) rfl (decide_eq_false hc2) ?_
      refine wp_skip ?_
      refine then_n ?_
      refine seq_ ?_
      refine seq_ ?_
      refine region_ ?_
      refine st_val (ex_assign (v := (.int .i64 0)) rfl) ?_
      refine wl_nil ?_
      refine then_n ?_
      refine wp_block ?_
      refine wp_lp (σ := Int) (fun s3 a => ∃ j, a = F 243 (upds j [(0, (Sl.v t0)), (3, (Ptr (⟨b3, 0, none⟩ : Addr))), (5, (.int .i64 s3))])) h (mk_upds (ae rfl (ae rfl (ae rfl ae0)))) ?_
      clear h; rintro s3 _ w n3 ⟨j, rfl⟩ h
      refine seq_ ?_
      refine seq_ ?_
      refine region_ ?_
      refine st_val (ex_move (v := (.int .i64 s3)) rfl) ?_
      refine st_val (ex_move (v := (Sl.v t0)) rfl) ?_
      refine st_val (ex_len (s := t0) Try.underlying22 rfl) ?_
      refine st_val (ex_lss (a := s3) (b := (t0.n : Int)) rfl rfl) ?_
      refine wl_nil ?_
      refine then_n ?_
      by_cases hc4 : s3 < (t0.n : Int)
      · rw [if_pos hc4] at h; refine cond_1 (b := (decide (s3 < (t0.n : Int)))) rfl (decide_eq_true hc4) ?_
        refine wp_skip ?_
        refine then_n ?_
        refine seq_ ?_
        refine wp_block ?_
        refine seq_ ?_
        refine region_ ?_
        refine st_val (ex_move (v := (Sl.v t0)) rfl) ?_
        refine st_val (ex_move (v := (Sl.v t0)) rfl) ?_
        refine st_val (ex_move (v := (.int .i64 s3)) rfl) ?_
        refine st_rnp (fun r => ex_indexAddr rfl rfl r) h ?_; clear h; intro t42 h
        refine st_rn (fun r => ex_load rfl r) h ?_; clear h; intro t43 w h
        refine st_cal en101 rfl h ?_; clear h; intro t44 w h
        refine st_val (ex_assign (v := (.int .i64 t44)) rfl) ?_
        refine wl_nil ?_
        refine then_n ?_
        refine seq_ ?_
        refine region_ ?_
        refine st_val (ex_move (v := (.int .i64 t44)) rfl) ?_
        refine st_val (ex_geq (a := t44) (b := 0) rfl rfl) ?_
        refine wl_nil ?_
        refine then_n ?_
        by_cases hc5 : 0 ≤ t44
        · rw [if_pos hc5] at h; refine cond_1 (b := (decide (0 ≤ t44))) rfl (decide_eq_true hc5) ?_
          refine seq_ ?_
          refine region_ ?_
          refine st_val (ex_move (v := (.int .i64 s3)) rfl) ?_
          refine st_val (ex_move (v := (.int .i64 t44)) rfl) ?_
          refine st_val (ex_build (a' := [(0, (.int .i64 s3)), (1, (.int .i64 t44)), (2, (.int .i64 140))]) (v := TFault14.v (⟨s3, t44, 140⟩ : TFault14)) rfl (e_build Try.underlying101 zero101 rfl pl101 rfl _)) ?_
          refine st_val (ex_assign (v := (Sl.v Sl.nil)) rfl) ?_
          refine st_rnu (fun r => ex_store rfl rfl r) h ?_; clear h; intro w h
          refine wl_nil ?_
          refine then_n ?_
          refine wp_ret ?_
          refine inb_r ?_
          refine then_r ?_
          refine then_r ?_
          refine inb_r ?_
          refine then_r ?_
          obtain ⟨r1_2, hr1_2, h⟩ := h
          refine ret_tc rfl rfl rfl hr1_2 ⟨(Sl.nil, r1_2), rfl, h⟩
        · rw [if_neg hc5] at h; refine cond_0 (b := (decide (0 ≤ t44))) rfl (decide_eq_false hc5) ?_
          refine wp_skip ?_
          refine inb_n ?_
          refine then_n ?_
          refine region_ ?_
          refine st_val (ex_move (v := (.int .i64 s3)) rfl) ?_
          refine st_val (ex_add (a := s3) (b := 1) rfl rfl) ?_
          refine st_val (ex_assign (v := (.int .i64 (IntKind.i64.wrap (s3 + 1)))) rfl) ?_
          refine wl_nil ?_
          exact then_n ⟨(IntKind.i64.wrap (s3 + 1)), mk_upds (ae rfl (ae rfl (ae rfl ae0))), h⟩
      · rw [if_neg hc4] at h; refine cond_0 (b := (decide (s3 < (t0.n : Int)))) rfl (decide_eq_false hc4) ?_
        refine wp_exit ?_
        refine then_e ?_
        refine then_e ?_
        refine inb_e ?_
        refine then_n ?_
        refine seq_ ?_
        refine seq_ ?_
        refine region_ ?_
        refine st_val (ex_assign (v := (.int .i64 0)) rfl) ?_
        refine wl_nil ?_
        refine then_n ?_
        refine wp_block ?_
        refine wp_lp (σ := Int) (fun s6 a => ∃ j, a = F 243 (upds j [(0, (Sl.v t0)), (3, (Ptr (⟨b3, 0, none⟩ : Addr))), (7, (.int .i64 s6))])) h (mk_upds (ae rfl (ae rfl (ae rfl ae0)))) ?_
        clear h; rintro s6 _ w n6 ⟨j, rfl⟩ h
        refine seq_ ?_
        refine seq_ ?_
        refine region_ ?_
        refine st_val (ex_move (v := (.int .i64 s6)) rfl) ?_
        refine st_val (ex_move (v := (Sl.v t0)) rfl) ?_
        refine st_val (ex_len (s := t0) Try.underlying22 rfl) ?_
        refine st_val (ex_lss (a := s6) (b := (t0.n : Int)) rfl rfl) ?_
        refine wl_nil ?_
        refine then_n ?_
        by_cases hc7 : s6 < (t0.n : Int)
        · rw [if_pos hc7] at h; refine cond_1 (b := (decide (s6 < (t0.n : Int)))) rfl (decide_eq_true hc7) ?_
          refine wp_skip ?_
          refine then_n ?_
          refine seq_ ?_
          refine wp_block ?_
          refine seq_ ?_
          refine region_ ?_
          refine st_val (ex_assign (v := (.int .i64 0)) rfl) ?_
          refine wl_nil ?_
          refine then_n ?_
          refine wp_block ?_
          refine wp_lp (σ := Int) (fun s8 a => ∃ j, a = F 243 (upds j [(0, (Sl.v t0)), (3, (Ptr (⟨b3, 0, none⟩ : Addr))), (7, (.int .i64 s6)), (8, (.int .i64 s8))])) h (mk_upds (ae rfl (ae rfl (ae rfl (ae rfl ae0))))) ?_
          clear h; rintro s8 _ w n8 ⟨j, rfl⟩ h
          refine seq_ ?_
          refine seq_ ?_
          refine region_ ?_
          refine st_val (ex_move (v := (.int .i64 s8)) rfl) ?_
          refine st_val (ex_move (v := (.int .i64 s6)) rfl) ?_
          refine st_val (ex_lss (a := s8) (b := s6) rfl rfl) ?_
          refine wl_nil ?_
          refine then_n ?_
          by_cases hc9 : s8 < s6
          · rw [if_pos hc9] at h; refine cond_1 (b := (decide (s8 < s6))) rfl (decide_eq_true hc9) ?_
            refine wp_skip ?_
            refine then_n ?_
            refine seq_ ?_
            refine wp_block ?_
            refine wp_jn (σ := Bool) (fun s10 l => ∃ j, l = upds j [(0, (Sl.v t0)), (3, (Ptr (⟨b3, 0, none⟩ : Addr))), (7, (.int .i64 s6)), (8, (.int .i64 s8)), (87, (.bool s10))]) h ?_ ?_
            · clear h; rintro s10 _ w ⟨j, rfl⟩ h
              by_cases hc14 : s10 = true
              · rw [if_pos hc14] at h; refine cond_1 (b := s10) rfl hc14 ?_
                refine seq_ ?_
                refine region_ ?_
                refine st_val (ex_move (v := (.int .i64 s6)) rfl) ?_
                refine st_val (ex_build (a' := [(0, (.int .i64 s6)), (2, (.int .i64 141))]) (v := TFault14.v (⟨s6, 0, 141⟩ : TFault14)) rfl (e_build Try.underlying101 zero101 rfl pl101 rfl _)) ?_
                refine st_val (ex_assign (v := (Sl.v Sl.nil)) rfl) ?_
                refine st_rnu (fun r => ex_store rfl rfl r) h ?_; clear h; intro w h
                refine wl_nil ?_
                refine then_n ?_
                refine wp_ret ?_
                refine inb_r ?_
                refine then_r ?_
                refine then_r ?_
                refine inb_r ?_
                refine inb_r ?_
                refine then_r ?_
                refine then_r ?_
                refine inb_r ?_
                refine then_r ?_
                obtain ⟨r1_3, hr1_3, h⟩ := h
                refine ret_tc rfl rfl rfl hr1_3 ⟨(Sl.nil, r1_3), rfl, h⟩
              · rw [if_neg hc14] at h; refine cond_0 (b := s10) rfl (Bool.eq_false_iff.2 hc14) ?_
                refine wp_skip ?_
                refine inb_n ?_
                refine then_n ?_
                refine region_ ?_
                refine st_val (ex_move (v := (.int .i64 s8)) rfl) ?_
                refine st_val (ex_add (a := s8) (b := 1) rfl rfl) ?_
                refine st_val (ex_assign (v := (.int .i64 (IntKind.i64.wrap (s8 + 1)))) rfl) ?_
                refine wl_nil ?_
                exact then_n ⟨(IntKind.i64.wrap (s8 + 1)), mk_upds (ae rfl (ae rfl (ae rfl (ae rfl ae0)))), h⟩
            · clear h; intro k10 h
              refine dr_begin mixed [] (listed := #[false, false, false, false, false, false, false, false, false, false, false, false, false, false, false, false, false, false, false, false, false, false, false, false, false, false, false]) rfl (n := 27) rfl h ?_; clear h; intro w11 h
              have hE : Ext w11 w11 := Ext.refl _
              refine dr_takeP (i := 0) (by kernel_rfl) rfl (fun _ _ _ h => h) (fun _ => hE) (fun _ => ex_move (v := (Sl.v t0)) rfl) ?_
              refine dr_takeP (i := 1) (by kernel_rfl) rfl (fun _ _ _ h => h) (fun _ => hE) (fun _ => ex_move (v := (.int .i64 s6)) rfl) ?_
              obtain ⟨t63, ht63, h⟩ := h
              refine dr_takeP (i := 2) (by kernel_rfl) rfl (fun _ _ _ h => h) (fun _ => hE) (fun _ => (fun r => ex_indexAddr rfl rfl r) (ht63 _)) ?_
              refine dr_takeP (i := 3) (by kernel_rfl) rfl (fun _ _ _ h => h) (fun _ => hE) (fun _ => ex_fa fa48_0 (p := t63) rfl) ?_
              obtain ⟨t65, ht65, h⟩ := h
              refine dr_take (i := 4) (by kernel_rfl) rfl (fun _ _ _ h => h) hE (fun _ hw => (fun r => ex_load rfl r) (ht65 _ hw)) ?_
              refine dr_takeP (i := 5) (by kernel_rfl) rfl (fun _ _ _ h => h) (fun _ => hE) (fun _ => ex_eql (a := t65) (b := 3) rfl rfl) ?_
              refine dr_takeP (i := 6) (by kernel_rfl) rfl (fun _ _ _ h => h) (fun _ => hE) (fun _ => ex_move (v := (.bool (decide (t65 = 3)))) rfl) ?_
              by_cases hc12 : t65 = 3
              · rw [if_pos hc12] at h
                refine dr_takeP_on (i := 7) (t := 67) (c := (decide (t65 = 3))) (by kernel_rfl) rfl rfl rfl (decide_eq_true hc12) (fun _ _ _ h => h) (fun _ => hE) (fun _ => ex_move (v := (Sl.v t0)) rfl) ?_
                refine dr_takeP_on (i := 8) (t := 67) (c := (decide (t65 = 3))) (by kernel_rfl) rfl rfl rfl (decide_eq_true hc12) (fun _ _ _ h => h) (fun _ => hE) (fun _ => ex_move (v := (.int .i64 s8)) rfl) ?_
                obtain ⟨t70, ht70, h⟩ := h
                refine dr_takeP_on (i := 9) (t := 67) (c := (decide (t65 = 3))) (by kernel_rfl) rfl rfl rfl (decide_eq_true hc12) (fun _ _ _ h => h) (fun _ => hE) (fun _ => (fun r => ex_indexAddr rfl rfl r) (ht70 _)) ?_
                refine dr_takeP_on (i := 10) (t := 67) (c := (decide (t65 = 3))) (by kernel_rfl) rfl rfl rfl (decide_eq_true hc12) (fun _ _ _ h => h) (fun _ => hE) (fun _ => ex_fa fa48_0 (p := t70) rfl) ?_
                obtain ⟨t72, ht72, h⟩ := h
                refine dr_take_on (i := 11) (t := 67) (c := (decide (t65 = 3))) (by kernel_rfl) rfl rfl rfl (decide_eq_true hc12) (fun _ _ _ h => h) hE (fun _ hw => (fun r => ex_load rfl r) (ht72 _ hw)) ?_
                refine dr_takeP_on (i := 12) (t := 67) (c := (decide (t65 = 3))) (by kernel_rfl) rfl rfl rfl (decide_eq_true hc12) (fun _ _ _ h => h) (fun _ => hE) (fun _ => ex_eql (a := t72) (b := 3) rfl rfl) ?_
                refine dr_takeP (i := 13) (by kernel_rfl) rfl (fun _ _ _ h => h) (fun _ => hE) (fun _ => ex_pick1 (b := (decide (t65 = 3))) rfl (decide_eq_true hc12) (v := (.bool (decide (t72 = 3)))) rfl) ?_
                refine dr_takeP (i := 14) (by kernel_rfl) rfl (fun _ _ _ h => h) (fun _ => hE) (fun _ => ex_move (v := (.bool (decide (t72 = 3)))) rfl) ?_
                by_cases hc13 : t72 = 3
                · rw [if_pos hc13] at h
                  refine dr_takeP_on (i := 15) (t := 75) (c := (decide (t72 = 3))) (by kernel_rfl) rfl rfl rfl (decide_eq_true hc13) (fun _ _ _ h => h) (fun _ => hE) (fun _ => ex_move (v := (Sl.v t0)) rfl) ?_
                  refine dr_takeP_on (i := 16) (t := 75) (c := (decide (t72 = 3))) (by kernel_rfl) rfl rfl rfl (decide_eq_true hc13) (fun _ _ _ h => h) (fun _ => hE) (fun _ => ex_move (v := (.int .i64 s6)) rfl) ?_
                  obtain ⟨t78, ht78, h⟩ := h
                  refine dr_takeP_on (i := 17) (t := 75) (c := (decide (t72 = 3))) (by kernel_rfl) rfl rfl rfl (decide_eq_true hc13) (fun _ _ _ h => h) (fun _ => hE) (fun _ => (fun r => ex_indexAddr rfl rfl r) (ht78 _)) ?_
                  refine dr_takeP_on (i := 18) (t := 75) (c := (decide (t72 = 3))) (by kernel_rfl) rfl rfl rfl (decide_eq_true hc13) (fun _ _ _ h => h) (fun _ => hE) (fun _ => ex_fa fa48_4 (p := t78) rfl) ?_
                  obtain ⟨t80, ht80, h⟩ := h
                  refine dr_take_on (i := 19) (t := 75) (c := (decide (t72 = 3))) (by kernel_rfl) rfl rfl rfl (decide_eq_true hc13) (fun _ _ _ h => h) hE (fun _ hw => (fun r => ex_load rfl r) (ht80 _ hw)) ?_
                  refine dr_takeP_on (i := 20) (t := 75) (c := (decide (t72 = 3))) (by kernel_rfl) rfl rfl rfl (decide_eq_true hc13) (fun _ _ _ h => h) (fun _ => hE) (fun _ => ex_move (v := (Sl.v t0)) rfl) ?_
                  refine dr_takeP_on (i := 21) (t := 75) (c := (decide (t72 = 3))) (by kernel_rfl) rfl rfl rfl (decide_eq_true hc13) (fun _ _ _ h => h) (fun _ => hE) (fun _ => ex_move (v := (.int .i64 s8)) rfl) ?_
                  obtain ⟨t83, ht83, h⟩ := h
                  refine dr_takeP_on (i := 22) (t := 75) (c := (decide (t72 = 3))) (by kernel_rfl) rfl rfl rfl (decide_eq_true hc13) (fun _ _ _ h => h) (fun _ => hE) (fun _ => (fun r => ex_indexAddr rfl rfl r) (ht83 _)) ?_
                  refine dr_takeP_on (i := 23) (t := 75) (c := (decide (t72 = 3))) (by kernel_rfl) rfl rfl rfl (decide_eq_true hc13) (fun _ _ _ h => h) (fun _ => hE) (fun _ => ex_fa fa48_4 (p := t83) rfl) ?_
                  obtain ⟨t85, ht85, h⟩ := h
                  refine dr_take_on (i := 24) (t := 75) (c := (decide (t72 = 3))) (by kernel_rfl) rfl rfl rfl (decide_eq_true hc13) (fun _ _ _ h => h) hE (fun _ hw => (fun r => ex_load rfl r) (ht85 _ hw)) ?_
                  refine dr_takeP_on (i := 25) (t := 75) (c := (decide (t72 = 3))) (by kernel_rfl) rfl rfl rfl (decide_eq_true hc13) (fun _ _ _ h => h) (fun _ => hE) (fun _ => ex_eqlS (a := t80) (b := t85) rfl rfl) ?_
                  refine dr_takeP (i := 26) (by kernel_rfl) rfl (fun _ _ _ h => h) (fun _ => hE) (fun _ => ex_pick1 (b := (decide (t72 = 3))) rfl (decide_eq_true hc13) (v := (.bool (decide (t80 = t85)))) rfl) ?_
                  refine dr_end (by kernel_rfl) ?_
                  exact then_n ⟨(decide (t80 = t85)), _, rfl, mk_upds' (ae rfl (ae rfl (ae rfl (ae rfl (ae rfl ae0))))), h⟩
                · rw [if_neg hc13] at h
                  refine dr_take_off (i := 15) (t := 75) (c := (decide (t72 = 3))) (by kernel_rfl) rfl rfl rfl (decide_eq_false hc13) (fun _ _ _ h => h) (fun _ => hE) ?_
                  refine dr_take_off (i := 16) (t := 75) (c := (decide (t72 = 3))) (by kernel_rfl) rfl rfl rfl (decide_eq_false hc13) (fun _ _ _ h => h) (fun _ => hE) ?_
                  refine dr_take_off (i := 17) (t := 75) (c := (decide (t72 = 3))) (by kernel_rfl) rfl rfl rfl (decide_eq_false hc13) (fun _ _ _ h => h) (fun _ => hE) ?_
                  refine dr_take_off (i := 18) (t := 75) (c := (decide (t72 = 3))) (by kernel_rfl) rfl rfl rfl (decide_eq_false hc13) (fun _ _ _ h => h) (fun _ => hE) ?_
                  refine dr_take_off (i := 19) (t := 75) (c := (decide (t72 = 3))) (by kernel_rfl) rfl rfl rfl (decide_eq_false hc13) (fun _ _ _ h => h) (fun _ => hE) ?_
                  refine dr_take_off (i := 20) (t := 75) (c := (decide (t72 = 3))) (by kernel_rfl) rfl rfl rfl (decide_eq_false hc13) (fun _ _ _ h => h) (fun _ => hE) ?_
                  refine dr_take_off (i := 21) (t := 75) (c := (decide (t72 = 3))) (by kernel_rfl) rfl rfl rfl (decide_eq_false hc13) (fun _ _ _ h => h) (fun _ => hE) ?_
                  refine dr_take_off (i := 22) (t := 75) (c := (decide (t72 = 3))) (by kernel_rfl) rfl rfl rfl (decide_eq_false hc13) (fun _ _ _ h => h) (fun _ => hE) ?_
                  refine dr_take_off (i := 23) (t := 75) (c := (decide (t72 = 3))) (by kernel_rfl) rfl rfl rfl (decide_eq_false hc13) (fun _ _ _ h => h) (fun _ => hE) ?_
                  refine dr_take_off (i := 24) (t := 75) (c := (decide (t72 = 3))) (by kernel_rfl) rfl rfl rfl (decide_eq_false hc13) (fun _ _ _ h => h) (fun _ => hE) ?_
                  refine dr_take_off (i := 25) (t := 75) (c := (decide (t72 = 3))) (by kernel_rfl) rfl rfl rfl (decide_eq_false hc13) (fun _ _ _ h => h) (fun _ => hE) ?_
                  refine dr_takeP (i := 26) (by kernel_rfl) rfl (fun _ _ _ h => h) (fun _ => hE) (fun _ => ex_pick0 (b := (decide (t72 = 3))) rfl (decide_eq_false hc13) (v := (.bool false)) rfl) ?_
                  refine dr_end (by kernel_rfl) ?_
                  exact then_n ⟨false, _, rfl, mk_upds' (ae rfl (ae rfl (ae rfl (ae rfl (ae rfl ae0))))), h⟩
              · rw [if_neg hc12] at h
                refine dr_take_off (i := 7) (t := 67) (c := (decide (t65 = 3))) (by kernel_rfl) rfl rfl rfl (decide_eq_false hc12) (fun _ _ _ h => h) (fun _ => hE) ?_
                refine dr_take_off (i := 8) (t := 67) (c := (decide (t65 = 3))) (by kernel_rfl) rfl rfl rfl (decide_eq_false hc12) (fun _ _ _ h => h) (fun _ => hE) ?_
                refine dr_take_off (i := 9) (t := 67) (c := (decide (t65 = 3))) (by kernel_rfl) rfl rfl rfl (decide_eq_false hc12) (fun _ _ _ h => h) (fun _ => hE) ?_
                refine dr_take_off (i := 10) (t := 67) (c := (decide (t65 = 3))) (by kernel_rfl) rfl rfl rfl (decide_eq_false hc12) (fun _ _ _ h => h) (fun _ => hE) ?_
                refine dr_take_off (i := 11) (t := 67) (c := (decide (t65 = 3))) (by kernel_rfl) rfl rfl rfl (decide_eq_false hc12) (fun _ _ _ h => h) (fun _ => hE) ?_
                refine dr_take_off (i := 12) (t := 67) (c := (decide (t65 = 3))) (by kernel_rfl) rfl rfl rfl (decide_eq_false hc12) (fun _ _ _ h => h) (fun _ => hE) ?_
                refine dr_takeP (i := 13) (by kernel_rfl) rfl (fun _ _ _ h => h) (fun _ => hE) (fun _ => ex_pick0 (b := (decide (t65 = 3))) rfl (decide_eq_false hc12) (v := (.bool false)) rfl) ?_
                refine dr_takeP (i := 14) (by kernel_rfl) rfl (fun _ _ _ h => h) (fun _ => hE) (fun _ => ex_move (v := (.bool false)) rfl) ?_
                refine dr_take_off (i := 15) (t := 75) (c := false) (by kernel_rfl) rfl rfl rfl (rfl : false = !true) (fun _ _ _ h => h) (fun _ => hE) ?_
                refine dr_take_off (i := 16) (t := 75) (c := false) (by kernel_rfl) rfl rfl rfl (rfl : false = !true) (fun _ _ _ h => h) (fun _ => hE) ?_
                refine dr_take_off (i := 17) (t := 75) (c := false) (by kernel_rfl) rfl rfl rfl (rfl : false = !true) (fun _ _ _ h => h) (fun _ => hE) ?_
                refine dr_take_off (i := 18) (t := 75) (c := false) (by kernel_rfl) rfl rfl rfl (rfl : false = !true) (fun _ _ _ h => h) (fun _ => hE) ?_
                refine dr_take_off (i := 19) (t := 75) (c := false) (by kernel_rfl) rfl rfl rfl (rfl : false = !true) (fun _ _ _ h => h) (fun _ => hE) ?_
                refine dr_take_off (i := 20) (t := 75) (c := false) (by kernel_rfl) rfl rfl rfl (rfl : false = !true) (fun _ _ _ h => h) (fun _ => hE) ?_
                refine dr_take_off (i := 21) (t := 75) (c := false) (by kernel_rfl) rfl rfl rfl (rfl : false = !true) (fun _ _ _ h => h) (fun _ => hE) ?_
                refine dr_take_off (i := 22) (t := 75) (c := false) (by kernel_rfl) rfl rfl rfl (rfl : false = !true) (fun _ _ _ h => h) (fun _ => hE) ?_
                refine dr_take_off (i := 23) (t := 75) (c := false) (by kernel_rfl) rfl rfl rfl (rfl : false = !true) (fun _ _ _ h => h) (fun _ => hE) ?_
                refine dr_take_off (i := 24) (t := 75) (c := false) (by kernel_rfl) rfl rfl rfl (rfl : false = !true) (fun _ _ _ h => h) (fun _ => hE) ?_
                refine dr_take_off (i := 25) (t := 75) (c := false) (by kernel_rfl) rfl rfl rfl (rfl : false = !true) (fun _ _ _ h => h) (fun _ => hE) ?_
                refine dr_takeP (i := 26) (by kernel_rfl) rfl (fun _ _ _ h => h) (fun _ => hE) (fun _ => ex_pick0 (b := false) rfl (rfl : false = false) (v := (.bool false)) rfl) ?_
                refine dr_end (by kernel_rfl) ?_
                exact then_n ⟨false, _, rfl, mk_upds' (ae rfl (ae rfl (ae rfl (ae rfl (ae rfl ae0))))), h⟩
          · rw [if_neg hc9] at h; refine cond_0 (b := (decide (s8 < s6))) rfl (decide_eq_false hc9) ?_
            refine wp_exit ?_
            refine then_e ?_
            refine then_e ?_
            refine inb_e ?_
            refine inb_n ?_
            refine then_n ?_
            refine region_ ?_
            refine st_val (ex_move (v := (.int .i64 s6)) rfl) ?_
            refine st_val (ex_add (a := s6) (b := 1) rfl rfl) ?_
            refine st_val (ex_assign (v := (.int .i64 (IntKind.i64.wrap (s6 + 1)))) rfl) ?_
            refine wl_nil ?_
            exact then_n ⟨(IntKind.i64.wrap (s6 + 1)), mk_upds (ae rfl (ae rfl (ae rfl ae0))), h⟩
        · rw [if_neg hc7] at h; refine cond_0 (b := (decide (s6 < (t0.n : Int)))) rfl (decide_eq_false hc7) ?_
          refine wp_exit ?_
          refine then_e ?_
          refine then_e ?_
          refine inb_e ?_
          refine then_n ?_
          refine seq_ ?_
          refine seq_ ?_
          refine region_ ?_
          refine st_val (ex_assign (v := (.int .i64 0)) rfl) ?_
          refine wl_nil ?_
          refine then_n ?_
          refine wp_block ?_
          refine wp_lp (σ := Int) (fun s15 a => ∃ j, a = F 243 (upds j [(0, (Sl.v t0)), (3, (Ptr (⟨b3, 0, none⟩ : Addr))), (9, (.int .i64 s15))])) h (mk_upds (ae rfl (ae rfl (ae rfl ae0)))) ?_
          clear h; rintro s15 _ w n15 ⟨j, rfl⟩ h
          refine seq_ ?_
          refine seq_ ?_
          refine region_ ?_
          refine st_val (ex_move (v := (.int .i64 s15)) rfl) ?_
          refine st_val (ex_move (v := (Sl.v t0)) rfl) ?_
          refine st_val (ex_len (s := t0) Try.underlying22 rfl) ?_
          refine st_val (ex_lss (a := s15) (b := (t0.n : Int)) rfl rfl) ?_
          refine wl_nil ?_
          refine then_n ?_
          by_cases hc16 : s15 < (t0.n : Int)
          · rw [if_pos hc16] at h; refine cond_1 (b := (decide (s15 < (t0.n : Int)))) rfl (decide_eq_true hc16) ?_
            refine wp_skip ?_
            refine then_n ?_
            refine seq_ ?_
            refine wp_block ?_
            refine seq_ ?_
            refine region_ ?_
            refine st_val (ex_assign (v := (.float .f64 0)) rfl) ?_
            refine wl_nil ?_
            refine then_n ?_
            refine seq_ ?_
            refine region_ ?_
            refine st_val (ex_assign (v := (.bool true)) rfl) ?_
            refine wl_nil ?_
            refine then_n ?_
            refine seq_ ?_
            refine seq_ ?_
            refine region_ ?_
            refine st_val (ex_assign (v := (.int .i64 0)) rfl) ?_
            refine wl_nil ?_
            refine then_n ?_
            refine wp_block ?_
            refine wp_lp (σ := Nat × Bool × Int) (fun s17 a => ∃ j, a = F 243 (upds j [(0, (Sl.v t0)), (3, (Ptr (⟨b3, 0, none⟩ : Addr))), (9, (.int .i64 s15)), (10, (.float .f64 s17.1)), (11, (.bool s17.2.1)), (12, (.int .i64 s17.2.2))])) h (mk_upds (ae rfl (ae rfl (ae rfl (ae rfl (ae rfl (ae rfl ae0))))))) ?_
            clear h; rintro s17 _ w n17 ⟨j, rfl⟩ h
            refine seq_ ?_
            refine seq_ ?_
            refine region_ ?_
            refine st_val (ex_move (v := (.int .i64 s17.2.2)) rfl) ?_
            refine st_val (ex_move (v := (Sl.v t0)) rfl) ?_
            refine st_val (ex_move (v := (.int .i64 s15)) rfl) ?_
            refine st_rnp (fun r => ex_indexAddr rfl rfl r) h ?_; clear h; intro t99 h
            refine st_val (ex_fa fa48_3 (p := t99) rfl) ?_
            refine st_rn (fun r => ex_load rfl r) h ?_; clear h; intro t101 w h
            refine st_val (ex_len (s := t101) Try.underlying45 rfl) ?_
            refine st_val (ex_lss (a := s17.2.2) (b := (t101.n : Int)) rfl rfl) ?_
            refine wl_nil ?_
            refine then_n ?_
            by_cases hc18 : s17.2.2 < (t101.n : Int)
            · rw [if_pos hc18] at h; refine cond_1 (b := (decide (s17.2.2 < (t101.n : Int)))) rfl (decide_eq_true hc18) ?_
              refine wp_skip ?_
              refine then_n ?_
              refine seq_ ?_
              refine wp_block ?_
              refine seq_ ?_
              refine region_ ?_
              refine st_val (ex_move (v := (Sl.v t0)) rfl) ?_
              refine st_val (ex_move (v := (.int .i64 s15)) rfl) ?_
              refine st_rnp (fun r => ex_indexAddr rfl rfl r) h ?_; clear h; intro t108 h
              refine st_val (ex_fa fa48_3 (p := t108) rfl) ?_
              refine st_rn (fun r => ex_load rfl r) h ?_; clear h; intro t110 w h
              refine st_val (ex_move (v := (.int .i64 s17.2.2)) rfl) ?_
              refine st_rnp (fun r => ex_indexAddr rfl rfl r) h ?_; clear h; intro t112 h
              refine st_val (ex_fa fa84_2 (p := t112) rfl) ?_
              refine st_rn (fun r => ex_load rfl r) h ?_; clear h; intro t114 w h
              refine st_val (ex_assign (v := (.float .f64 t114)) rfl) ?_
              refine wl_nil ?_
              refine then_n ?_
              refine wp_jn (σ := Bool) (fun s19 l => ∃ j, l = upds j [(0, (Sl.v t0)), (3, (Ptr (⟨b3, 0, none⟩ : Addr))), (9, (.int .i64 s15)), (10, (.float .f64 s17.1)), (11, (.bool s19)), (12, (.int .i64 s17.2.2)), (13, (.float .f64 t114))]) h ?_ ?_
              · clear h; rintro s19 _ w ⟨j, rfl⟩ h
                refine region_ ?_
                refine st_val (ex_move (v := (.float .f64 s17.1)) rfl) ?_
                refine st_val (ex_move (v := (.float .f64 t114)) rfl) ?_
                refine st_rn (fun r => ex_addF (a := s17.1) (b := t114) rfl rfl r) h ?_; clear h; intro t126 w h
                refine st_val (ex_assign (v := (.float .f64 t126)) rfl) ?_
                refine wl_nil ?_
                refine inb_n ?_
                refine then_n ?_
                refine region_ ?_
                refine st_val (ex_move (v := (.int .i64 s17.2.2)) rfl) ?_
                refine st_val (ex_add (a := s17.2.2) (b := 1) rfl rfl) ?_
                refine st_val (ex_assign (v := (.int .i64 (IntKind.i64.wrap (s17.2.2 + 1)))) rfl) ?_
                refine wl_nil ?_
                exact then_n ⟨(t126, s19, (IntKind.i64.wrap (s17.2.2 + 1))), mk_upds (ae rfl (ae rfl (ae rfl (ae rfl (ae rfl (ae rfl ae0)))))), h⟩
              · clear h; intro k19 h
                refine region_ ?_
                refine st_val (ex_move (v := (.bool s17.2.1)) rfl) ?_
                refine st_val (ex_move (v := (.bool s17.2.1)) rfl) ?_
                by_cases hc20 : s17.2.1 = true
                · rw [if_pos hc20] at h
                  refine st_on (t := 116) (c := s17.2.1) rfl rfl hc20 ?_
                  refine st_val (ex_move (v := (.float .f64 t114)) rfl) ?_
                  refine st_on (t := 116) (c := s17.2.1) rfl rfl hc20 ?_
                  refine st_val (ex_geqF (a := t114) (b := 0) rfl rfl) ?_
                  refine st_val (ex_pick1 (b := s17.2.1) rfl hc20 (v := (.bool (fGe t114 0))) rfl) ?_
                  refine st_val (ex_move (v := (.bool (fGe t114 0))) rfl) ?_
                  by_cases hc21 : (fGe t114 0) = true
                  · rw [if_pos hc21] at h
                    refine st_on (t := 120) (c := (fGe t114 0)) rfl rfl hc21 ?_
                    refine st_val (ex_move (v := (.float .f64 t114)) rfl) ?_
                    refine st_on (t := 120) (c := (fGe t114 0)) rfl rfl hc21 ?_
                    refine st_val (ex_leqF (a := t114) (b := 4636737291354636288) rfl rfl) ?_
                    refine st_val (ex_pick1 (b := (fGe t114 0)) rfl hc21 (v := (.bool (fLe t114 4636737291354636288))) rfl) ?_
                    refine st_val (ex_assign (v := (.bool (fLe t114 4636737291354636288))) rfl) ?_
                    refine wl_nil ?_
                    exact then_n ⟨(fLe t114 4636737291354636288), _, rfl, mk_upds' (ae rfl (ae rfl (ae rfl (ae rfl (ae rfl (ae rfl (ae rfl ae0))))))), h⟩
                  · rw [if_neg hc21] at h
                    refine st_off (t := 120) (c := (fGe t114 0)) rfl rfl (Bool.eq_false_iff.2 hc21) ?_
                    refine st_off (t := 120) (c := (fGe t114 0)) rfl rfl (Bool.eq_false_iff.2 hc21) ?_
                    refine st_val (ex_pick0 (b := (fGe t114 0)) rfl (Bool.eq_false_iff.2 hc21) (v := (.bool false)) rfl) ?_
                    refine st_val (ex_assign (v := (.bool false)) rfl) ?_
                    refine wl_nil ?_
                    exact then_n ⟨false, _, rfl, mk_upds' (ae rfl (ae rfl (ae rfl (ae rfl (ae rfl (ae rfl (ae rfl ae0))))))), h⟩
                · rw [if_neg hc20] at h
                  refine st_off (t := 116) (c := s17.2.1) rfl rfl (Bool.eq_false_iff.2 hc20) ?_
                  refine st_off (t := 116) (c := s17.2.1) rfl rfl (Bool.eq_false_iff.2 hc20) ?_
                  refine st_val (ex_pick0 (b := s17.2.1) rfl (Bool.eq_false_iff.2 hc20) (v := (.bool false)) rfl) ?_
                  refine st_val (ex_move (v := (.bool false)) rfl) ?_
                  refine st_off (t := 120) (c := false) rfl rfl (rfl : false = !true) ?_
                  refine st_off (t := 120) (c := false) rfl rfl (rfl : false = !true) ?_
                  refine st_val (ex_pick0 (b := false) rfl (rfl : false = false) (v := (.bool false)) rfl) ?_
                  refine st_val (ex_assign (v := (.bool false)) rfl) ?_
                  refine wl_nil ?_
                  exact then_n ⟨false, _, rfl, mk_upds' (ae rfl (ae rfl (ae rfl (ae rfl (ae rfl (ae rfl (ae rfl ae0))))))), h⟩
            · rw [if_neg hc18] at h; refine cond_0 (b := (decide (s17.2.2 < (t101.n : Int)))) rfl (decide_eq_false hc18) ?_
              refine wp_exit ?_
              refine then_e ?_
              refine then_e ?_
              refine inb_e ?_
              refine then_n ?_
              refine seq_ ?_
              refine region_ ?_
              refine st_val (ex_assign (v := (.float .f64 4517110426252607488)) rfl) ?_
              refine wl_nil ?_
              refine then_n ?_
              refine wp_jn (σ := Bool) (fun s22 l => ∃ j, l = upds j [(0, (Sl.v t0)), (3, (Ptr (⟨b3, 0, none⟩ : Addr))), (9, (.int .i64 s15)), (148, (.bool s22))]) h ?_ ?_
              · clear h; rintro s22 _ w ⟨j, rfl⟩ h
                by_cases hc26 : s22 = true
                · rw [if_pos hc26] at h; refine cond_1 (b := s22) rfl hc26 ?_
                  refine seq_ ?_
                  refine region_ ?_
                  refine st_val (ex_move (v := (.int .i64 s15)) rfl) ?_
                  refine st_val (ex_build (a' := [(0, (.int .i64 s15)), (2, (.int .i64 142))]) (v := TFault14.v (⟨s15, 0, 142⟩ : TFault14)) rfl (e_build Try.underlying101 zero101 rfl pl101 rfl _)) ?_
                  refine st_val (ex_assign (v := (Sl.v Sl.nil)) rfl) ?_
                  refine st_rnu (fun r => ex_store rfl rfl r) h ?_; clear h; intro w h
                  refine wl_nil ?_
                  refine then_n ?_
                  refine wp_ret ?_
                  refine inb_r ?_
                  refine then_r ?_
                  refine then_r ?_
                  refine inb_r ?_
                  refine then_r ?_
                  obtain ⟨r1_4, hr1_4, h⟩ := h
                  refine ret_tc rfl rfl rfl hr1_4 ⟨(Sl.nil, r1_4), rfl, h⟩
                · rw [if_neg hc26] at h; refine cond_0 (b := s22) rfl (Bool.eq_false_iff.2 hc26) ?_
                  refine wp_skip ?_
                  refine inb_n ?_
                  refine then_n ?_
                  refine region_ ?_
                  refine st_val (ex_move (v := (.int .i64 s15)) rfl) ?_
                  refine st_val (ex_add (a := s15) (b := 1) rfl rfl) ?_
                  refine st_val (ex_assign (v := (.int .i64 (IntKind.i64.wrap (s15 + 1)))) rfl) ?_
                  refine wl_nil ?_
                  exact then_n ⟨(IntKind.i64.wrap (s15 + 1)), mk_upds (ae rfl (ae rfl (ae rfl ae0))), h⟩
              · clear h; intro k22 h
                refine region_ ?_
                refine st_val (ex_move (v := (Sl.v t0)) rfl) ?_
                refine st_val (ex_move (v := (.int .i64 s15)) rfl) ?_
                refine st_rnp (fun r => ex_indexAddr rfl rfl r) h ?_; clear h; intro t129 h
                refine st_val (ex_fa fa48_0 (p := t129) rfl) ?_
                refine st_rn (fun r => ex_load rfl r) h ?_; clear h; intro t131 w h
                refine st_val (ex_eql (a := t131) (b := 2) rfl rfl) ?_
                refine st_val (ex_move (v := (.bool (decide (t131 = 2)))) rfl) ?_
                by_cases hc23 : t131 = 2
                · rw [if_pos hc23] at h
                  refine st_on (t := 133) (c := (decide (t131 = 2))) rfl rfl (decide_eq_true hc23) ?_
                  refine st_val (ex_move (v := (.bool s17.2.1)) rfl) ?_
                  refine st_on (t := 133) (c := (decide (t131 = 2))) rfl rfl (decide_eq_true hc23) ?_
                  refine st_val (ex_move (v := (.bool s17.2.1)) rfl) ?_
                  by_cases hc24 : s17.2.1 = true
                  · rw [if_pos hc24] at h
                    refine st_on (t := 135) (c := s17.2.1) rfl rfl hc24 ?_
                    refine st_val (ex_move (v := (.float .f64 s17.1)) rfl) ?_
                    refine st_on (t := 135) (c := s17.2.1) rfl rfl hc24 ?_
                    refine st_val (ex_move (v := (.float .f64 4517110426252607488)) rfl) ?_
                    refine st_on (t := 135) (c := s17.2.1) rfl rfl hc24 ?_
                    refine st_rn (fun r => ex_subF (a := 4636737291354636288) (b := 4517110426252607488) rfl rfl r) h ?_; clear h; intro t138 w h
                    refine st_on (t := 135) (c := s17.2.1) rfl rfl hc24 ?_
                    refine st_val (ex_geqF (a := s17.1) (b := t138) rfl rfl) ?_
                    refine st_on (t := 133) (c := (decide (t131 = 2))) rfl rfl (decide_eq_true hc23) ?_
                    refine st_val (ex_pick1 (b := s17.2.1) rfl hc24 (v := (.bool (fGe s17.1 t138))) rfl) ?_
                    refine st_on (t := 133) (c := (decide (t131 = 2))) rfl rfl (decide_eq_true hc23) ?_
                    refine st_val (ex_move (v := (.bool (fGe s17.1 t138))) rfl) ?_
                    by_cases hc25 : (fGe s17.1 t138) = true
                    · rw [if_pos hc25] at h
                      refine st_on (t := 141) (c := (fGe s17.1 t138)) rfl rfl hc25 ?_
                      refine st_val (ex_move (v := (.float .f64 s17.1)) rfl) ?_
                      refine st_on (t := 141) (c := (fGe s17.1 t138)) rfl rfl hc25 ?_
                      refine st_val (ex_move (v := (.float .f64 4517110426252607488)) rfl) ?_
                      refine st_on (t := 141) (c := (fGe s17.1 t138)) rfl rfl hc25 ?_
                      refine st_rn (fun r => ex_addF (a := 4636737291354636288) (b := 4517110426252607488) rfl rfl r) h ?_; clear h; intro t144 w h
                      refine st_on (t := 141) (c := (fGe s17.1 t138)) rfl rfl hc25 ?_
                      refine st_val (ex_leqF (a := s17.1) (b := t144) rfl rfl) ?_
                      refine st_on (t := 133) (c := (decide (t131 = 2))) rfl rfl (decide_eq_true hc23) ?_
                      refine st_val (ex_pick1 (b := (fGe s17.1 t138)) rfl hc25 (v := (.bool (fLe s17.1 t144))) rfl) ?_
                      refine st_on (t := 133) (c := (decide (t131 = 2))) rfl rfl (decide_eq_true hc23) ?_
                      refine st_val (ex_not (b := (fLe s17.1 t144)) rfl) ?_
                      refine st_val (ex_pick1 (b := (decide (t131 = 2))) rfl (decide_eq_true hc23) (v := (.bool (!(fLe s17.1 t144)))) rfl) ?_
                      refine wl_nil ?_
                      exact then_n ⟨(!(fLe s17.1 t144)), _, rfl, mk_upds' (ae rfl (ae rfl (ae rfl (ae rfl ae0)))), h⟩
                    · rw [if_neg hc25] at h
                      refine st_off (t := 141) (c := (fGe s17.1 t138)) rfl rfl (Bool.eq_false_iff.2 hc25) ?_
                      refine st_off (t := 141) (c := (fGe s17.1 t138)) rfl rfl (Bool.eq_false_iff.2 hc25) ?_
                      refine st_off (t := 141) (c := (fGe s17.1 t138)) rfl rfl (Bool.eq_false_iff.2 hc25) ?_
                      refine st_off (t := 141) (c := (fGe s17.1 t138)) rfl rfl (Bool.eq_false_iff.2 hc25) ?_
                      refine st_on (t := 133) (c := (decide (t131 = 2))) rfl rfl (decide_eq_true hc23) ?_
                      refine st_val (ex_pick0 (b := (fGe s17.1 t138)) rfl (Bool.eq_false_iff.2 hc25) (v := (.bool false)) rfl) ?_
                      refine st_on (t := 133) (c := (decide (t131 = 2))) rfl rfl (decide_eq_true hc23) ?_
                      refine st_val (ex_not (b := false) rfl) ?_
                      refine st_val (ex_pick1 (b := (decide (t131 = 2))) rfl (decide_eq_true hc23) (v := (.bool (!false))) rfl) ?_
                      refine wl_nil ?_
                      exact then_n ⟨(!false), _, rfl, mk_upds' (ae rfl (ae rfl (ae rfl (ae rfl ae0)))), h⟩
                  · rw [if_neg hc24] at h
                    refine st_off (t := 135) (c := s17.2.1) rfl rfl (Bool.eq_false_iff.2 hc24) ?_
                    refine st_off (t := 135) (c := s17.2.1) rfl rfl (Bool.eq_false_iff.2 hc24) ?_
                    refine st_off (t := 135) (c := s17.2.1) rfl rfl (Bool.eq_false_iff.2 hc24) ?_
                    refine st_off (t := 135) (c := s17.2.1) rfl rfl (Bool.eq_false_iff.2 hc24) ?_
                    refine st_on (t := 133) (c := (decide (t131 = 2))) rfl rfl (decide_eq_true hc23) ?_
                    refine st_val (ex_pick0 (b := s17.2.1) rfl (Bool.eq_false_iff.2 hc24) (v := (.bool false)) rfl) ?_
                    refine st_on (t := 133) (c := (decide (t131 = 2))) rfl rfl (decide_eq_true hc23) ?_
                    refine st_val (ex_move (v := (.bool false)) rfl) ?_
                    refine st_off (t := 141) (c := false) rfl rfl (rfl : false = !true) ?_
                    refine st_off (t := 141) (c := false) rfl rfl (rfl : false = !true) ?_
                    refine st_off (t := 141) (c := false) rfl rfl (rfl : false = !true) ?_
                    refine st_off (t := 141) (c := false) rfl rfl (rfl : false = !true) ?_
                    refine st_on (t := 133) (c := (decide (t131 = 2))) rfl rfl (decide_eq_true hc23) ?_
                    refine st_val (ex_pick0 (b := false) rfl (rfl : false = false) (v := (.bool false)) rfl) ?_
                    refine st_on (t := 133) (c := (decide (t131 = 2))) rfl rfl (decide_eq_true hc23) ?_
                    refine st_val (ex_not (b := false) rfl) ?_
                    refine st_val (ex_pick1 (b := (decide (t131 = 2))) rfl (decide_eq_true hc23) (v := (.bool (!false))) rfl) ?_
                    refine wl_nil ?_
                    exact then_n ⟨(!false), _, rfl, mk_upds' (ae rfl (ae rfl (ae rfl (ae rfl ae0)))), h⟩
                · rw [if_neg hc23] at h
                  refine st_off (t := 133) (c := (decide (t131 = 2))) rfl rfl (decide_eq_false hc23) ?_
                  refine st_off (t := 133) (c := (decide (t131 = 2))) rfl rfl (decide_eq_false hc23) ?_
                  refine st_offu (t := 135) rfl rfl ?_
                  refine st_offu (t := 135) rfl rfl ?_
                  refine st_offu (t := 135) rfl rfl ?_
                  refine st_offu (t := 135) rfl rfl ?_
                  refine st_off (t := 133) (c := (decide (t131 = 2))) rfl rfl (decide_eq_false hc23) ?_
                  refine st_off (t := 133) (c := (decide (t131 = 2))) rfl rfl (decide_eq_false hc23) ?_
                  refine st_offu (t := 141) rfl rfl ?_
                  refine st_offu (t := 141) rfl rfl ?_
                  refine st_offu (t := 141) rfl rfl ?_
                  refine st_offu (t := 141) rfl rfl ?_
                  refine st_off (t := 133) (c := (decide (t131 = 2))) rfl rfl (decide_eq_false hc23) ?_
                  refine st_off (t := 133) (c := (decide (t131 = 2))) rfl rfl (decide_eq_false hc23) ?_
                  refine st_val (ex_pick0 (b := (decide (t131 = 2))) rfl (decide_eq_false hc23) (v := (.bool false)) rfl) ?_
                  refine wl_nil ?_
                  exact then_n ⟨false, _, rfl, mk_upds' (ae rfl (ae rfl (ae rfl (ae rfl ae0)))), h⟩
          · rw [if_neg hc16] at h; refine cond_0 (b := (decide (s15 < (t0.n : Int)))) rfl (decide_eq_false hc16) ?_
            refine wp_exit ?_
            refine then_e ?_
            refine then_e ?_
            refine inb_e ?_
            refine then_n ?_
            refine seq_ ?_
            refine region_ ?_
            refine st_val (ex_move (v := (Sl.v t0)) rfl) ?_
            refine st_cal en102 rfl h ?_; clear h; intro t152 w h
            refine st_val (ex_assign (v := (Sl.v t152)) rfl) ?_
            refine wl_nil ?_
            refine then_n ?_
            refine seq_ ?_
            refine seq_ ?_
            refine region_ ?_
            refine st_val (ex_assign (v := (.int .i64 0)) rfl) ?_
            refine wl_nil ?_
            refine then_n ?_
            refine wp_block ?_
            refine wp_lp (σ := Int) (fun s27 a => ∃ j, a = F 243 (upds j [(0, (Sl.v t0)), (3, (Ptr (⟨b3, 0, none⟩ : Addr))), (15, (Sl.v t152)), (16, (.int .i64 s27))])) h (mk_upds (ae rfl (ae rfl (ae rfl (ae rfl ae0))))) ?_
            clear h; rintro s27 _ w n27 ⟨j, rfl⟩ h
            refine seq_ ?_
            refine seq_ ?_
            refine region_ ?_
            refine st_val (ex_move (v := (.int .i64 s27)) rfl) ?_
            refine st_val (ex_move (v := (Sl.v t0)) rfl) ?_
            refine st_val (ex_len (s := t0) Try.underlying22 rfl) ?_
            refine st_val (ex_lss (a := s27) (b := (t0.n : Int)) rfl rfl) ?_
            refine wl_nil ?_
            refine then_n ?_
            by_cases hc28 : s27 < (t0.n : Int)
            · rw [if_pos hc28] at h; refine cond_1 (b := (decide (s27 < (t0.n : Int)))) rfl (decide_eq_true hc28) ?_
              refine wp_skip ?_
              refine then_n ?_
              refine seq_ ?_
              refine wp_block ?_
              refine wp_jn (σ := Bool) (fun s29 l => ∃ j, l = upds j [(0, (Sl.v t0)), (3, (Ptr (⟨b3, 0, none⟩ : Addr))), (15, (Sl.v t152)), (16, (.int .i64 s27)), (171, (.bool s29))]) h ?_ ?_
              · clear h; rintro s29 _ w ⟨j, rfl⟩ h
                by_cases hc31 : s29 = true
                · rw [if_pos hc31] at h; refine cond_1 (b := s29) rfl hc31 ?_
                  refine seq_ ?_
                  refine region_ ?_
                  refine st_val (ex_move (v := (.int .i64 s27)) rfl) ?_
                  refine st_val (ex_build (a' := [(0, (.int .i64 s27)), (2, (.int .i64 143))]) (v := TFault14.v (⟨s27, 0, 143⟩ : TFault14)) rfl (e_build Try.underlying101 zero101 rfl pl101 rfl _)) ?_
                  refine st_val (ex_assign (v := (Sl.v Sl.nil)) rfl) ?_
                  refine st_rnu (fun r => ex_store rfl rfl r) h ?_; clear h; intro w h
                  refine wl_nil ?_
                  refine then_n ?_
                  refine wp_ret ?_
                  refine inb_r ?_
                  refine then_r ?_
                  refine then_r ?_
                  refine inb_r ?_
                  refine then_r ?_
                  obtain ⟨r1_5, hr1_5, h⟩ := h
                  refine ret_tc rfl rfl rfl hr1_5 ⟨(Sl.nil, r1_5), rfl, h⟩
                · rw [if_neg hc31] at h; refine cond_0 (b := s29) rfl (Bool.eq_false_iff.2 hc31) ?_
                  refine wp_skip ?_
                  refine inb_n ?_
                  refine then_n ?_
                  refine region_ ?_
                  refine st_val (ex_move (v := (.int .i64 s27)) rfl) ?_
                  refine st_val (ex_add (a := s27) (b := 1) rfl rfl) ?_
                  refine st_val (ex_assign (v := (.int .i64 (IntKind.i64.wrap (s27 + 1)))) rfl) ?_
                  refine wl_nil ?_
                  exact then_n ⟨(IntKind.i64.wrap (s27 + 1)), mk_upds (ae rfl (ae rfl (ae rfl (ae rfl ae0)))), h⟩
              · clear h; intro k29 h
                refine region_ ?_
                refine st_val (ex_move (v := (Sl.v t0)) rfl) ?_
                refine st_val (ex_move (v := (.int .i64 s27)) rfl) ?_
                refine st_rnp (fun r => ex_indexAddr rfl rfl r) h ?_; clear h; intro t161 h
                refine st_val (ex_fa fa48_0 (p := t161) rfl) ?_
                refine st_rn (fun r => ex_load rfl r) h ?_; clear h; intro t163 w h
                refine st_val (ex_eql (a := t163) (b := 2) rfl rfl) ?_
                refine st_val (ex_move (v := (.bool (decide (t163 = 2)))) rfl) ?_
                by_cases hc30 : t163 = 2
                · rw [if_pos hc30] at h
                  refine st_on (t := 165) (c := (decide (t163 = 2))) rfl rfl (decide_eq_true hc30) ?_
                  refine st_val (ex_move (v := (Sl.v t152)) rfl) ?_
                  refine st_on (t := 165) (c := (decide (t163 = 2))) rfl rfl (decide_eq_true hc30) ?_
                  refine st_val (ex_move (v := (.int .i64 s27)) rfl) ?_
                  refine st_on (t := 165) (c := (decide (t163 = 2))) rfl rfl (decide_eq_true hc30) ?_
                  refine st_rnp (fun r => ex_indexAddr rfl rfl r) h ?_; clear h; intro t168 h
                  refine st_on (t := 165) (c := (decide (t163 = 2))) rfl rfl (decide_eq_true hc30) ?_
                  refine st_rn (fun r => ex_load rfl r) h ?_; clear h; intro t169 w h
                  refine st_on (t := 165) (c := (decide (t163 = 2))) rfl rfl (decide_eq_true hc30) ?_
                  refine st_val (ex_eql (a := t169) (b := 0) rfl rfl) ?_
                  refine st_val (ex_pick1 (b := (decide (t163 = 2))) rfl (decide_eq_true hc30) (v := (.bool (decide (t169 = 0)))) rfl) ?_
                  refine wl_nil ?_
                  exact then_n ⟨(decide (t169 = 0)), _, rfl, mk_upds' (ae rfl (ae rfl (ae rfl (ae rfl (ae rfl ae0))))), h⟩
                · rw [if_neg hc30] at h
                  refine st_off (t := 165) (c := (decide (t163 = 2))) rfl rfl (decide_eq_false hc30) ?_
                  refine st_off (t := 165) (c := (decide (t163 = 2))) rfl rfl (decide_eq_false hc30) ?_
                  refine st_off (t := 165) (c := (decide (t163 = 2))) rfl rfl (decide_eq_false hc30) ?_
                  refine st_off (t := 165) (c := (decide (t163 = 2))) rfl rfl (decide_eq_false hc30) ?_
                  refine st_off (t := 165) (c := (decide (t163 = 2))) rfl rfl (decide_eq_false hc30) ?_
                  refine st_val (ex_pick0 (b := (decide (t163 = 2))) rfl (decide_eq_false hc30) (v := (.bool false)) rfl) ?_
                  refine wl_nil ?_
                  exact then_n ⟨false, _, rfl, mk_upds' (ae rfl (ae rfl (ae rfl (ae rfl (ae rfl ae0))))), h⟩
            · rw [if_neg hc28] at h; refine cond_0 (b := (decide (s27 < (t0.n : Int)))) rfl (decide_eq_false hc28) ?_
              refine wp_exit ?_
              refine then_e ?_
              refine then_e ?_
              refine inb_e ?_
              refine then_n ?_
              refine seq_ ?_
              refine region_ ?_
              refine st_val (ex_assign (v := (Sl.v Sl.nil)) rfl) ?_
              refine wl_nil ?_
              refine then_n ?_
              refine seq_ ?_
              refine seq_ ?_
              refine region_ ?_
              refine st_val (ex_assign (v := (.int .i64 0)) rfl) ?_
              refine wl_nil ?_
              refine then_n ?_
              refine wp_block ?_
              refine wp_lp (σ := Sl × Int) (fun s32 a => ∃ j, a = F 243 (upds j [(0, (Sl.v t0)), (3, (Ptr (⟨b3, 0, none⟩ : Addr))), (17, (Sl.v s32.1)), (18, (.int .i64 s32.2))])) h (mk_upds (ae rfl (ae rfl (ae rfl (ae rfl ae0))))) ?_
              clear h; rintro s32 _ w n32 ⟨j, rfl⟩ h
              refine seq_ ?_
              refine seq_ ?_
              refine region_ ?_
              refine st_val (ex_move (v := (.int .i64 s32.2)) rfl) ?_
              refine st_val (ex_move (v := (Sl.v t0)) rfl) ?_
              refine st_val (ex_len (s := t0) Try.underlying22 rfl) ?_
              refine st_val (ex_lss (a := s32.2) (b := (t0.n : Int)) rfl rfl) ?_
              refine wl_nil ?_
              refine then_n ?_
              by_cases hc33 : s32.2 < (t0.n : Int)
              · rw [if_pos hc33] at h; refine cond_1 (b := (decide (s32.2 < (t0.n : Int)))) rfl (decide_eq_true hc33) ?_
                refine wp_skip ?_
                refine then_n ?_
                refine wp_jn (σ := Sl) (fun s34 l => ∃ j, l = upds j [(0, (Sl.v t0)), (3, (Ptr (⟨b3, 0, none⟩ : Addr))), (17, (Sl.v s34)), (18, (.int .i64 s32.2))]) h ?_ ?_
                · clear h; rintro s34 _ w ⟨j, rfl⟩ h
                  refine region_ ?_
                  refine st_val (ex_move (v := (.int .i64 s32.2)) rfl) ?_
                  refine st_val (ex_add (a := s32.2) (b := 1) rfl rfl) ?_
                  refine st_val (ex_assign (v := (.int .i64 (IntKind.i64.wrap (s32.2 + 1)))) rfl) ?_
                  refine wl_nil ?_
                  exact then_n ⟨(s34, (IntKind.i64.wrap (s32.2 + 1))), mk_upds (ae rfl (ae rfl (ae rfl (ae rfl ae0)))), h⟩
                · clear h; intro k34 h
                  refine wp_block ?_
                  refine seq_ ?_
                  refine seq_ ?_
                  refine region_ ?_
                  refine st_val (ex_move (v := (Sl.v t0)) rfl) ?_
                  refine st_val (ex_move (v := (.int .i64 s32.2)) rfl) ?_
                  refine st_rnp (fun r => ex_indexAddr rfl rfl r) h ?_; clear h; intro t182 h
                  refine st_val (ex_fa fa48_0 (p := t182) rfl) ?_
                  refine st_rn (fun r => ex_load rfl r) h ?_; clear h; intro t184 w h
                  refine st_val (ex_lss (a := t184) (b := 3) rfl rfl) ?_
                  refine wl_nil ?_
                  refine then_n ?_
                  by_cases hc35 : t184 < 3
                  · rw [if_pos hc35] at h; refine cond_1 (b := (decide (t184 < 3))) rfl (decide_eq_true hc35) ?_
                    refine wp_exit ?_
                    refine then_e ?_
                    refine inb_e ?_
                    exact then_n ⟨s32.1, _, rfl, mk_upds' (ae rfl (ae rfl (ae rfl (ae rfl ae0)))), h⟩
                  · rw [if_neg hc35] at h; refine cond_0 (b := (decide (t184 < 3))) rfl (decide_eq_false hc35) ?_
                    refine wp_skip ?_
                    refine then_n ?_
                    refine seq_ ?_
                    refine region_ ?_
                    refine st_val (ex_assign (v := (.int .i64 0)) rfl) ?_
                    refine wl_nil ?_
                    refine then_n ?_
                    refine wp_block ?_
                    refine wp_lp (σ := Sl × Int) (fun s36 a => ∃ j, a = F 243 (upds j [(0, (Sl.v t0)), (3, (Ptr (⟨b3, 0, none⟩ : Addr))), (17, (Sl.v s36.1)), (18, (.int .i64 s32.2)), (19, (.int .i64 s36.2))])) h (mk_upds (ae rfl (ae rfl (ae rfl (ae rfl (ae rfl ae0)))))) ?_
                    clear h; rintro s36 _ w n36 ⟨j, rfl⟩ h
                    refine seq_ ?_
                    refine seq_ ?_
                    refine region_ ?_
                    refine st_val (ex_move (v := (.int .i64 s36.2)) rfl) ?_
                    refine st_val (ex_move (v := (Sl.v t0)) rfl) ?_
                    refine st_val (ex_move (v := (.int .i64 s32.2)) rfl) ?_
                    refine st_rnp (fun r => ex_indexAddr rfl rfl r) h ?_; clear h; intro t189 h
                    refine st_val (ex_fa fa48_5 (p := t189) rfl) ?_
                    refine st_rn (fun r => ex_load rfl r) h ?_; clear h; intro t191 w h
                    refine st_val (ex_len (s := t191) Try.underlying46 rfl) ?_
                    refine st_val (ex_lss (a := s36.2) (b := (t191.n : Int)) rfl rfl) ?_
                    refine wl_nil ?_
                    refine then_n ?_
                    by_cases hc37 : s36.2 < (t191.n : Int)
                    · rw [if_pos hc37] at h; refine cond_1 (b := (decide (s36.2 < (t191.n : Int)))) rfl (decide_eq_true hc37) ?_
                      refine wp_skip ?_
                      refine then_n ?_
                      refine wp_jn (σ := Sl) (fun s38 l => ∃ j, l = upds j [(0, (Sl.v t0)), (3, (Ptr (⟨b3, 0, none⟩ : Addr))), (17, (Sl.v s38)), (18, (.int .i64 s32.2)), (19, (.int .i64 s36.2))]) h ?_ ?_
                      · clear h; rintro s38 _ w ⟨j, rfl⟩ h
                        refine region_ ?_
                        refine st_val (ex_move (v := (.int .i64 s36.2)) rfl) ?_
                        refine st_val (ex_add (a := s36.2) (b := 1) rfl rfl) ?_
                        refine st_val (ex_assign (v := (.int .i64 (IntKind.i64.wrap (s36.2 + 1)))) rfl) ?_
                        refine wl_nil ?_
                        exact then_n ⟨(s38, (IntKind.i64.wrap (s36.2 + 1))), mk_upds (ae rfl (ae rfl (ae rfl (ae rfl (ae rfl ae0))))), h⟩
                      · clear h; intro k38 h
                        refine wp_block ?_
                        refine seq_ ?_
                        refine region_ ?_
                        refine st_val (ex_move (v := (Sl.v t0)) rfl) ?_
                        refine st_val (ex_move (v := (.int .i64 s32.2)) rfl) ?_
                        refine st_rnp (fun r => ex_indexAddr rfl rfl r) h ?_; clear h; intro t198 h
                        refine st_val (ex_fa fa48_5 (p := t198) rfl) ?_
                        refine st_rn (fun r => ex_load rfl r) h ?_; clear h; intro t200 w h
                        refine st_val (ex_move (v := (.int .i64 s36.2)) rfl) ?_
                        refine st_rnp (fun r => ex_indexAddr rfl rfl r) h ?_; clear h; intro t202 h
                        refine st_rn (fun r => ex_load rfl r) h ?_; clear h; intro t203 w h
                        refine st_new (f := (fun b => Ptr ⟨b, 0, none⟩)) (ex_allocN zero91 rfl) h ?_; clear h; intro b20 w h
                        refine st_rnu (fun r => ex_store rfl rfl r) h ?_; clear h; intro w h
                        refine wl_nil ?_
                        refine then_n ?_
                        refine seq_ ?_
                        refine region_ ?_
                        refine st_val (ex_assign (v := (.int .i64 0)) rfl) ?_
                        refine wl_nil ?_
                        refine then_n ?_
                        refine wp_block ?_
                        refine wp_lp (σ := Sl × Int) (fun s39 a => ∃ j, a = F 243 (upds j [(0, (Sl.v t0)), (3, (Ptr (⟨b3, 0, none⟩ : Addr))), (17, (Sl.v s39.1)), (18, (.int .i64 s32.2)), (19, (.int .i64 s36.2)), (20, (Ptr (⟨b20, 0, none⟩ : Addr))), (21, (.int .i64 s39.2))])) h (mk_upds (ae rfl (ae rfl (ae rfl (ae rfl (ae rfl (ae rfl (ae rfl ae0)))))))) ?_
                        clear h; rintro s39 _ w n39 ⟨j, rfl⟩ h
                        refine seq_ ?_
                        refine seq_ ?_
                        refine region_ ?_
                        refine st_val (ex_move (v := (.int .i64 s39.2)) rfl) ?_
                        refine st_val (ex_move (v := (.int .i64 s36.2)) rfl) ?_
                        refine st_val (ex_lss (a := s39.2) (b := s36.2) rfl rfl) ?_
                        refine wl_nil ?_
                        refine then_n ?_
                        by_cases hc40 : s39.2 < s36.2
                        · rw [if_pos hc40] at h; refine cond_1 (b := (decide (s39.2 < s36.2))) rfl (decide_eq_true hc40) ?_
                          refine wp_skip ?_
                          refine then_n ?_
                          refine seq_ ?_
                          refine wp_block ?_
                          refine seq_ ?_
                          refine region_ ?_
                          refine st_val (ex_move (v := (Sl.v t0)) rfl) ?_
                          refine st_val (ex_move (v := (.int .i64 s32.2)) rfl) ?_
                          refine st_rnp (fun r => ex_indexAddr rfl rfl r) h ?_; clear h; intro t211 h
                          refine st_val (ex_fa fa48_5 (p := t211) rfl) ?_
                          refine st_rn (fun r => ex_load rfl r) h ?_; clear h; intro t213 w h
                          refine st_val (ex_move (v := (.int .i64 s39.2)) rfl) ?_
                          refine st_rnp (fun r => ex_indexAddr rfl rfl r) h ?_; clear h; intro t215 h
                          refine st_rn (fun r => ex_load rfl r) h ?_; clear h; intro t216 w h
                          refine st_new (f := (fun b => Ptr ⟨b, 0, none⟩)) (ex_allocN zero91 rfl) h ?_; clear h; intro b22 w h
                          refine st_rnu (fun r => ex_store rfl rfl r) h ?_; clear h; intro w h
                          refine wl_nil ?_
                          refine then_n ?_
                          refine wp_jn (σ := Bool) (fun s41 l => ∃ j, l = upds j [(0, (Sl.v t0)), (3, (Ptr (⟨b3, 0, none⟩ : Addr))), (17, (Sl.v s39.1)), (18, (.int .i64 s32.2)), (19, (.int .i64 s36.2)), (20, (Ptr (⟨b20, 0, none⟩ : Addr))), (21, (.int .i64 s39.2)), (233, (.bool s41))]) h ?_ ?_
                          · clear h; rintro s41 _ w ⟨j, rfl⟩ h
                            by_cases hc44 : s41 = true
                            · rw [if_pos hc44] at h; refine cond_1 (b := s41) rfl hc44 ?_
                              refine seq_ ?_
                              refine region_ ?_
                              refine st_val (ex_move (v := (Sl.v s39.1)) rfl) ?_
                              refine st_val (ex_move (v := (.int .i64 s32.2)) rfl) ?_
                              refine st_val (ex_move (v := (.int .i64 s36.2)) rfl) ?_
                              refine st_val (ex_move (v := (.int .i64 s39.2)) rfl) ?_
                              refine st_val (ex_build (a' := [(0, (.int .i64 s32.2)), (1, (.int .i64 s36.2)), (2, (.int .i64 s39.2))]) (v := TWarning14.v (⟨s32.2, s36.2, s39.2⟩ : TWarning14)) rfl (e_build Try.underlying160 zero160 rfl pl160 rfl _)) ?_
                              refine st_new (f := (fun b => Sl.v ⟨some ⟨b, 0, none⟩, 1, 1⟩)) (ex_buildSlice (a' := [(0, (TWarning14.v (⟨s32.2, s36.2, s39.2⟩ : TWarning14)))]) rfl (e_buildSlice (cs := ((TWarning14.cells (⟨s32.2, s36.2, s39.2⟩ : TWarning14)))) Try.underlying99 info160 iz160 (by decide +kernel) (by decide +kernel) (by kernel_rfl) _)) h ?_; clear h; intro b239 w h
                              refine st_rn (fun r => ex_builtin rfl (fun _ => rfl) r) h ?_; clear h; intro t240 w h
                              refine st_val (ex_assign (v := (Sl.v t240)) rfl) ?_
                              refine wl_nil ?_
                              refine then_n ?_
                              refine wp_exit ?_
                              refine inb_o rfl ?_
                              refine then_e ?_
                              refine then_e ?_
                              refine inb_e ?_
                              refine inb_n ?_
                              exact then_n ⟨t240, _, rfl, mk_upds' (ae rfl (ae rfl (ae rfl (ae rfl (ae rfl ae0))))), h⟩
                            · rw [if_neg hc44] at h; refine cond_0 (b := s41) rfl (Bool.eq_false_iff.2 hc44) ?_
                              refine wp_skip ?_
                              refine inb_n ?_
                              refine then_n ?_
                              refine region_ ?_
                              refine st_val (ex_move (v := (.int .i64 s39.2)) rfl) ?_
                              refine st_val (ex_add (a := s39.2) (b := 1) rfl rfl) ?_
                              refine st_val (ex_assign (v := (.int .i64 (IntKind.i64.wrap (s39.2 + 1)))) rfl) ?_
                              refine wl_nil ?_
                              exact then_n ⟨(s39.1, (IntKind.i64.wrap (s39.2 + 1))), mk_upds (ae rfl (ae rfl (ae rfl (ae rfl (ae rfl (ae rfl (ae rfl ae0))))))), h⟩
                          · clear h; intro k41 h
                            refine region_ ?_
                            refine st_val (ex_fa fa91_1 (p := (⟨b22, 0, none⟩ : Addr)) rfl) ?_
                            refine st_rn (fun r => ex_load rfl r) h ?_; clear h; intro t218 w h
                            refine st_val (ex_eqlS (a := t218) (b := (⟨#[42]⟩ : ByteArray)) rfl rfl) ?_
                            refine st_val (ex_move (v := (.bool (decide (t218 = (⟨#[42]⟩ : ByteArray))))) rfl) ?_
                            by_cases hc42 : t218 = (⟨#[42]⟩ : ByteArray)
                            · rw [if_pos hc42] at h
                              refine st_off (t := 220) (c := (decide (t218 = (⟨#[42]⟩ : ByteArray)))) rfl rfl (decide_eq_true hc42) ?_
                              refine st_off (t := 220) (c := (decide (t218 = (⟨#[42]⟩ : ByteArray)))) rfl rfl (decide_eq_true hc42) ?_
                              refine st_off (t := 220) (c := (decide (t218 = (⟨#[42]⟩ : ByteArray)))) rfl rfl (decide_eq_true hc42) ?_
                              refine st_off (t := 220) (c := (decide (t218 = (⟨#[42]⟩ : ByteArray)))) rfl rfl (decide_eq_true hc42) ?_
                              refine st_off (t := 220) (c := (decide (t218 = (⟨#[42]⟩ : ByteArray)))) rfl rfl (decide_eq_true hc42) ?_
                              refine st_val (ex_pick1 (b := (decide (t218 = (⟨#[42]⟩ : ByteArray)))) rfl (decide_eq_true hc42) (v := (.bool true)) rfl) ?_
                              refine st_val (ex_move (v := (.bool true)) rfl) ?_
                              refine st_on (t := 227) (c := true) rfl rfl (rfl : true = true) ?_
                              refine st_val (ex_fa fa91_0 (p := (⟨b22, 0, none⟩ : Addr)) rfl) ?_
                              refine st_on (t := 227) (c := true) rfl rfl (rfl : true = true) ?_
                              refine st_rn (fun r => ex_load rfl r) h ?_; clear h; intro t229 w h
                              refine st_on (t := 227) (c := true) rfl rfl (rfl : true = true) ?_
                              refine st_val (ex_fa fa91_0 (p := (⟨b20, 0, none⟩ : Addr)) rfl) ?_
                              refine st_on (t := 227) (c := true) rfl rfl (rfl : true = true) ?_
                              refine st_rn (fun r => ex_load rfl r) h ?_; clear h; intro t231 w h
                              refine st_on (t := 227) (c := true) rfl rfl (rfl : true = true) ?_
                              refine st_cal en103 rfl h ?_; clear h; intro t232 w h
                              refine st_val (ex_pick1 (b := true) rfl (rfl : true = true) (v := (.bool t232)) rfl) ?_
                              refine wl_nil ?_
                              exact then_n ⟨t232, _, rfl, mk_upds' (ae rfl (ae rfl (ae rfl (ae rfl (ae rfl (ae rfl (ae rfl (ae rfl ae0)))))))), h⟩
                            · rw [if_neg hc42] at h
                              refine st_on (t := 220) (c := (decide (t218 = (⟨#[42]⟩ : ByteArray)))) rfl rfl (decide_eq_false hc42) ?_
                              refine st_val (ex_fa fa91_1 (p := (⟨b22, 0, none⟩ : Addr)) rfl) ?_
                              refine st_on (t := 220) (c := (decide (t218 = (⟨#[42]⟩ : ByteArray)))) rfl rfl (decide_eq_false hc42) ?_
                              refine st_rn (fun r => ex_load rfl r) h ?_; clear h; intro t222 w h
                              refine st_on (t := 220) (c := (decide (t218 = (⟨#[42]⟩ : ByteArray)))) rfl rfl (decide_eq_false hc42) ?_
                              refine st_val (ex_fa fa91_1 (p := (⟨b20, 0, none⟩ : Addr)) rfl) ?_
                              refine st_on (t := 220) (c := (decide (t218 = (⟨#[42]⟩ : ByteArray)))) rfl rfl (decide_eq_false hc42) ?_
                              refine st_rn (fun r => ex_load rfl r) h ?_; clear h; intro t224 w h
                              refine st_on (t := 220) (c := (decide (t218 = (⟨#[42]⟩ : ByteArray)))) rfl rfl (decide_eq_false hc42) ?_
                              refine st_val (ex_eqlS (a := t222) (b := t224) rfl rfl) ?_
                              refine st_val (ex_pick0 (b := (decide (t218 = (⟨#[42]⟩ : ByteArray)))) rfl (decide_eq_false hc42) (v := (.bool (decide (t222 = t224)))) rfl) ?_
                              refine st_val (ex_move (v := (.bool (decide (t222 = t224)))) rfl) ?_
                              by_cases hc43 : t222 = t224
                              · rw [if_pos hc43] at h
                                refine st_on (t := 227) (c := (decide (t222 = t224))) rfl rfl (decide_eq_true hc43) ?_
                                refine st_val (ex_fa fa91_0 (p := (⟨b22, 0, none⟩ : Addr)) rfl) ?_
                                refine st_on (t := 227) (c := (decide (t222 = t224))) rfl rfl (decide_eq_true hc43) ?_
                                refine st_rn (fun r => ex_load rfl r) h ?_; clear h; intro t229_1 w h
                                refine st_on (t := 227) (c := (decide (t222 = t224))) rfl rfl (decide_eq_true hc43) ?_
                                refine st_val (ex_fa fa91_0 (p := (⟨b20, 0, none⟩ : Addr)) rfl) ?_
                                refine st_on (t := 227) (c := (decide (t222 = t224))) rfl rfl (decide_eq_true hc43) ?_
                                refine st_rn (fun r => ex_load rfl r) h ?_; clear h; intro t231_1 w h
                                refine st_on (t := 227) (c := (decide (t222 = t224))) rfl rfl (decide_eq_true hc43) ?_
                                refine st_cal en103 rfl h ?_; clear h; intro t232_1 w h
                                refine st_val (ex_pick1 (b := (decide (t222 = t224))) rfl (decide_eq_true hc43) (v := (.bool t232_1)) rfl) ?_
                                refine wl_nil ?_
                                exact then_n ⟨t232_1, _, rfl, mk_upds' (ae rfl (ae rfl (ae rfl (ae rfl (ae rfl (ae rfl (ae rfl (ae rfl ae0)))))))), h⟩
                              · rw [if_neg hc43] at h
                                refine st_off (t := 227) (c := (decide (t222 = t224))) rfl rfl (decide_eq_false hc43) ?_
                                refine st_off (t := 227) (c := (decide (t222 = t224))) rfl rfl (decide_eq_false hc43) ?_
                                refine st_off (t := 227) (c := (decide (t222 = t224))) rfl rfl (decide_eq_false hc43) ?_
                                refine st_off (t := 227) (c := (decide (t222 = t224))) rfl rfl (decide_eq_false hc43) ?_
                                refine st_off (t := 227) (c := (decide (t222 = t224))) rfl rfl (decide_eq_false hc43) ?_
                                refine st_val (ex_pick0 (b := (decide (t222 = t224))) rfl (decide_eq_false hc43) (v := (.bool false)) rfl) ?_
                                refine wl_nil ?_
                                exact then_n ⟨false, _, rfl, mk_upds' (ae rfl (ae rfl (ae rfl (ae rfl (ae rfl (ae rfl (ae rfl (ae rfl ae0)))))))), h⟩
                        · rw [if_neg hc40] at h; refine cond_0 (b := (decide (s39.2 < s36.2))) rfl (decide_eq_false hc40) ?_
                          refine wp_exit ?_
                          refine then_e ?_
                          refine then_e ?_
                          refine inb_e ?_
                          refine inb_n ?_
                          exact then_n ⟨s39.1, _, rfl, mk_upds' (ae rfl (ae rfl (ae rfl (ae rfl (ae rfl ae0))))), h⟩
                    · rw [if_neg hc37] at h; refine cond_0 (b := (decide (s36.2 < (t191.n : Int)))) rfl (decide_eq_false hc37) ?_
                      refine wp_exit ?_
                      refine then_e ?_
                      refine then_e ?_
                      refine inb_e ?_
                      refine inb_n ?_
                      exact then_n ⟨s36.1, _, rfl, mk_upds' (ae rfl (ae rfl (ae rfl (ae rfl ae0)))), h⟩
              · rw [if_neg hc33] at h; refine cond_0 (b := (decide (s32.2 < (t0.n : Int)))) rfl (decide_eq_false hc33) ?_
                refine wp_exit ?_
                refine then_e ?_
                refine then_e ?_
                refine inb_e ?_
                refine then_n ?_
                refine seq_ ?_
                refine region_ ?_
                refine st_val (ex_move (v := (Sl.v s32.1)) rfl) ?_
                refine st_val (ex_build (a' := []) (v := TFault14.v (⟨0, 0, 0⟩ : TFault14)) rfl (e_build Try.underlying101 zero101 rfl pl101 rfl _)) ?_
                refine st_val (ex_assign (v := (Sl.v s32.1)) rfl) ?_
                refine st_rnu (fun r => ex_store rfl rfl r) h ?_; clear h; intro w h
                refine wl_nil ?_
                refine then_n ?_
                refine wp_ret ?_
                obtain ⟨r1_6, hr1_6, h⟩ := h
                refine ret_tc rfl rfl rfl hr1_6 ⟨(s32.1, r1_6), rfl, h⟩

/-- turnpike/turnpikeref15.All; slots 0:conf, 1:conf, 3:k, 4:round, 5:i, 6:l, 7:ok -/
def f59 (t0 : Sl) (R : ((Option Addr)) → World → Prop) (w : World) : Prop :=
  New 109 (TKnown15.cells (⟨Sl.nil, Sl.nil⟩ : TKnown15)) w fun b9 w =>
  Lp (σ := Int) (fun s1 w n1 =>
    if s1 < (t0.n : Int) then
      Lp (σ := Int) (fun s3 w n3 =>
        if s3 < (t0.n : Int) then
          Jn (σ := Unit) (fun k5 =>
            Jn (σ := Bool) (fun k6 =>
              RnP Try.prog Ptr (Instr.indexAt 22 (Sl.v t0) (.int .i64 s3)) fun t24 =>
              Rn Try.prog (Value.int .i64) (Instr.loadAt 3 (Ptr (t24.add 0))) w fun t26 w =>
              if t26 ≠ 2 then
                k6 true w
              else
                RnP Try.prog Ptr (Instr.indexAt 22 (Sl.v t0) (.int .i64 s3)) fun t32 =>
                Rn Try.prog Value.string (Instr.loadAt 9 (Ptr (t32.add 1))) w fun t34 w =>
                Cal Try.prog (Value.int .i64) 60 #[(Ptr (⟨b9, 0, none⟩ : Addr)), (.string t34)] w fun t35 w =>
                k6 (decide (0 ≤ t35)) w
            ) fun s6 w =>
              if s6 = true then
                k5 () w
              else
                RnP Try.prog Ptr (Instr.indexAt 22 (Sl.v t0) (.int .i64 s3)) fun t42 =>
                Rn Try.prog TResource.v (Instr.loadAt 48 (Ptr t42)) w fun t43 w =>
                Cal Try.prog (fun x : Sl × Bool => Value.tuple #[(Sl.v x.1), (.bool x.2)]) 104 #[(Ptr (⟨b9, 0, none⟩ : Addr)), (TResource.v t43)] w fun t44 w =>
                if t44.2 = true then
                  Dr w fun w10 w =>
                    RnL Try.prog Sl.v (Instr.loadAt 44 (Ptr ((⟨b9, 0, none⟩ : Addr).add 0))) w10 fun t52 =>
                    RnP Try.prog Ptr (Instr.indexAt 22 (Sl.v t0) (.int .i64 s3)) fun t55 =>
                    RnL Try.prog Value.string (Instr.loadAt 9 (Ptr (t55.add 1))) w10 fun t57 =>
                    New 9 ([(.string t57)]) w fun b58 w =>
                    Rn Try.prog Sl.v (Builtin.append_ #[44, 44] 44 #[(Sl.v t52), (Sl.v (⟨some ⟨b58, 0, none⟩, 1, 1⟩ : Sl))]) w fun t59 w =>
                    RnU Try.prog (Instr.storeAt 44 (Ptr ((⟨b9, 0, none⟩ : Addr).add 0)) (Sl.v t59)) w fun w =>
                    Rn Try.prog Sl.v (Instr.loadAt 107 (Ptr ((⟨b9, 0, none⟩ : Addr).add 1))) w fun t66 w =>
                    New 23 ([(Sl.v t44.1)]) w fun b68 w =>
                    Rn Try.prog Sl.v (Builtin.append_ #[107, 107] 107 #[(Sl.v t66), (Sl.v (⟨some ⟨b68, 0, none⟩, 1, 1⟩ : Sl))]) w fun t69 w =>
                    RnU Try.prog (Instr.storeAt 107 (Ptr ((⟨b9, 0, none⟩ : Addr).add 1)) (Sl.v t69)) w fun w =>
                    k5 () w
                else
                  k5 () w
          ) fun s5 w =>
            n3 (IntKind.i64.wrap (s3 + 1)) w
        else
          n1 (IntKind.i64.wrap (s1 + 1)) w
      ) 0 w
    else
      R (some (⟨b9, 0, none⟩ : Addr)) w
  ) 0 w
theorem c59 {t0 : Sl} {R : ((Option Addr)) → World → Prop} {w : World} (h : f59 t0 R w) :
    Cal Try.prog Value.pointer 59 #[(Sl.v t0)] w R := by
  unfold f59 at h
  refine calls_ Try.func59 Try.ntmps59 rfl rfl ?_
  refine seq_ ?_
  refine region_ ?_
  refine st_val (ex_assign (v := (.pointer none)) rfl) ?_
  refine wl_nil ?_
  refine then_n ?_
  refine seq_ ?_
  refine region_ ?_
  refine st_val (ex_build (a' := []) (v := TKnown15.v (⟨Sl.nil, Sl.nil⟩ : TKnown15)) rfl (e_build Try.underlying109 zero109 rfl pl109 rfl _)) ?_
  refine st_new (f := (fun b => Ptr ⟨b, 0, none⟩)) (ex_boxN rfl rfl) h ?_; clear h; intro b9 w h
  refine st_val (ex_assign (v := (Ptr (⟨b9, 0, none⟩ : Addr))) rfl) ?_
  refine wl_nil ?_
  refine then_n ?_
  refine seq_ ?_
  refine seq_ ?_
  refine region_ ?_
  refine st_val (ex_assign (v := (.int .i64 0)) rfl) ?_
  refine wl_nil ?_
  refine then_n ?_
  refine wp_block ?_
  refine wp_lp (σ := Int) (fun s1 a => ∃ j, a = F 73 (upds j [(0, (Sl.v t0)), (3, (Ptr (⟨b9, 0, none⟩ : Addr))), (4, (.int .i64 s1))])) h (mk_upds (ae rfl (ae rfl (ae rfl ae0)))) ?_
  clear h; rintro s1 _ w n1 ⟨j, rfl⟩ h
  refine seq_ ?_
  refine seq_ ?_
  refine region_ ?_
  refine st_val (ex_move (v := (.int .i64 s1)) rfl) ?_
  refine st_val (ex_move (v := (Sl.v t0)) rfl) ?_
  refine st_val (ex_len (s := t0) Try.underlying22 rfl) ?_
  refine st_val (ex_lss (a := s1) (b := (t0.n : Int)) rfl rfl) ?_
  refine wl_nil ?_
  refine then_n ?_
  by_cases hc2 : s1 < (t0.n : Int)
  · rw [if_pos hc2] at h; refine cond_1 (b := (decide (s1 < (t0.n : Int)))) rfl (decide_eq_true hc2) ?_
    refine wp_skip ?_
    refine then_n ?_
    refine seq_ ?_
    refine wp_block ?_
    refine seq_ ?_
    refine region_ ?_
    refine st_val (ex_assign (v := (.int .i64 0)) rfl) ?_
    refine wl_nil ?_
    refine then_n ?_
    refine wp_block ?_
    refine wp_lp (σ := Int) (fun s3 a => ∃ j, a = F 73 (upds j [(0, (Sl.v t0)), (3, (Ptr (⟨b9, 0, none⟩ : Addr))), (4, (.int .i64 s1)), (5, (.int .i64 s3))])) h (mk_upds (ae rfl (ae rfl (ae rfl (ae rfl ae0))))) ?_
    clear h; rintro s3 _ w n3 ⟨j, rfl⟩ h
    refine seq_ ?_
    refine seq_ ?_
    refine region_ ?_
    refine st_val (ex_move (v := (.int .i64 s3)) rfl) ?_
    refine st_val (ex_move (v := (Sl.v t0)) rfl) ?_
    refine st_val (ex_len (s := t0) Try.underlying22 rfl) ?_
    refine st_val (ex_lss (a := s3) (b := (t0.n : Int)) rfl rfl) ?_
    refine wl_nil ?_
    refine then_n ?_
    by_cases hc4 : s3 < (t0.n : Int)
    · rw [if_pos hc4] at h; refine cond_1 (b := (decide (s3 < (t0.n : Int)))) rfl (decide_eq_true hc4) ?_
      refine wp_skip ?_
      refine then_n ?_
      refine wp_jn (σ := Unit) (fun s5 l => ∃ j, l = upds j [(0, (Sl.v t0)), (3, (Ptr (⟨b9, 0, none⟩ : Addr))), (4, (.int .i64 s1)), (5, (.int .i64 s3))]) h ?_ ?_
      · clear h; rintro s5 _ w ⟨j, rfl⟩ h
        refine region_ ?_
        refine st_val (ex_move (v := (.int .i64 s3)) rfl) ?_
        refine st_val (ex_add (a := s3) (b := 1) rfl rfl) ?_
        refine st_val (ex_assign (v := (.int .i64 (IntKind.i64.wrap (s3 + 1)))) rfl) ?_
        refine wl_nil ?_
        exact then_n ⟨(IntKind.i64.wrap (s3 + 1)), mk_upds (ae rfl (ae rfl (ae rfl (ae rfl ae0)))), h⟩
      · clear h; intro k5 h
        refine wp_block ?_
        refine seq_ ?_
        refine wp_jn (σ := Bool) (fun s6 l => ∃ j, l = upds j [(0, (Sl.v t0)), (3, (Ptr (⟨b9, 0, none⟩ : Addr))), (4, (.int .i64 s1)), (5, (.int .i64 s3)), (37, (.bool s6))]) h ?_ ?_
        · clear h; rintro s6 _ w ⟨j, rfl⟩ h
          by_cases hc8 : s6 = true
          · rw [if_pos hc8] at h; refine cond_1 (b := s6) rfl hc8 ?_
            refine wp_exit ?_
            refine then_e ?_
            refine inb_e ?_
            exact then_n ⟨(), _, rfl, mk_upds' (ae rfl (ae rfl (ae rfl (ae rfl ae0)))), h⟩
          · rw [if_neg hc8] at h; refine cond_0 (b := s6) rfl (Bool.eq_false_iff.2 hc8) ?_
            refine wp_skip ?_
            refine then_n ?_
            refine seq_ ?_
            refine region_ ?_
            refine st_val (ex_move (v := (Ptr (⟨b9, 0, none⟩ : Addr))) rfl) ?_
            refine st_val (ex_move (v := (Sl.v t0)) rfl) ?_
            refine st_val (ex_move (v := (.int .i64 s3)) rfl) ?_
            refine st_rnp (fun r => ex_indexAddr rfl rfl r) h ?_; clear h; intro t42 h
            refine st_rn (fun r => ex_load rfl r) h ?_; clear h; intro t43 w h
            refine st_cal en104 rfl h ?_; clear h; intro t44 w h
            refine st_val (ex_move (v := (.tuple #[(Sl.v t44.1), (.bool t44.2)])) rfl) ?_
            refine st_val (ex_extract (u := (.tuple #[(Sl.v t44.1), (.bool t44.2)])) rfl (v := (Sl.v t44.1)) rfl) ?_
            refine st_val (ex_extract (u := (.tuple #[(Sl.v t44.1), (.bool t44.2)])) rfl (v := (.bool t44.2)) rfl) ?_
            refine st_val (ex_assign (v := (Sl.v t44.1)) rfl) ?_
            refine st_val (ex_assign (v := (.bool t44.2)) rfl) ?_
            refine wl_nil ?_
            refine then_n ?_
            refine seq_ ?_
            refine region_ ?_
            refine st_val (ex_move (v := (.bool t44.2)) rfl) ?_
            refine wl_nil ?_
            refine then_n ?_
            by_cases hc9 : t44.2 = true
            · rw [if_pos hc9] at h; refine cond_1 (b := t44.2) rfl hc9 ?_
              refine seq_ ?_
              refine dr_begin mixed [11, 14] (listed := #[false, false, false, false, false, false, false, false, false, false, false, false, false, false, false]) rfl (n := 15) rfl h ?_; clear h; intro w10 h
              have hE : Ext w10 w10 := Ext.refl _
              refine dr_takeP (i := 0) (by kernel_rfl) rfl (fun _ _ _ h => h) (fun _ => hE) (fun _ => ex_move (v := (Ptr (⟨b9, 0, none⟩ : Addr))) rfl) ?_
              refine dr_takeP (i := 1) (by kernel_rfl) rfl (fun _ _ _ h => h) (fun _ => hE) (fun _ => ex_move (v := (Ptr (⟨b9, 0, none⟩ : Addr))) rfl) ?_
              refine dr_takeP (i := 2) (by kernel_rfl) rfl (fun _ _ _ h => h) (fun _ => hE) (fun _ => ex_nilCheck (p := (⟨b9, 0, none⟩ : Addr)) rfl) ?_
              refine dr_takeP (i := 3) (by kernel_rfl) rfl (fun _ _ _ h => h) (fun _ => hE) (fun _ => ex_fa fa109_0 (p := (⟨b9, 0, none⟩ : Addr)) rfl) ?_
              obtain ⟨t52, ht52, h⟩ := h
              refine dr_take (i := 4) (by kernel_rfl) rfl (fun _ _ _ h => h) hE (fun _ hw => (fun r => ex_load rfl r) (ht52 _ hw)) ?_
              refine dr_takeP (i := 5) (by kernel_rfl) rfl (fun _ _ _ h => h) (fun _ => hE) (fun _ => ex_move (v := (Sl.v t0)) rfl) ?_
              refine dr_takeP (i := 6) (by kernel_rfl) rfl (fun _ _ _ h => h) (fun _ => hE) (fun _ => ex_move (v := (.int .i64 s3)) rfl) ?_
              obtain ⟨t55, ht55, h⟩ := h
              refine dr_takeP (i := 7) (by kernel_rfl) rfl (fun _ _ _ h => h) (fun _ => hE) (fun _ => (fun r => ex_indexAddr rfl rfl r) (ht55 _)) ?_
              refine dr_takeP (i := 8) (by kernel_rfl) rfl (fun _ _ _ h => h) (fun _ => hE) (fun _ => ex_fa fa48_1 (p := t55) rfl) ?_
              obtain ⟨t57, ht57, h⟩ := h
              refine dr_take (i := 9) (by kernel_rfl) rfl (fun _ _ _ h => h) hE (fun _ hw => (fun r => ex_load rfl r) (ht57 _ hw)) ?_
              refine dr_only (i := 10) (by kernel_rfl) rfl rfl ?_
              refine o_new (f := (fun b => Sl.v ⟨some ⟨b, 0, none⟩, 1, 1⟩)) (ex_buildSlice (a' := [(0, (.string t57))]) rfl (e_buildSlice (cs := ([(.string t57)])) Try.underlying44 info9 iz9 (by decide +kernel) (by decide +kernel) (by kernel_rfl) _)) h ?_; clear h; intro b58 w hx h; replace hE := hE.trans hx; clear hx; refine ⟨fun _ => hE, ?_⟩
              refine dr_only (i := 11) (by kernel_rfl) rfl rfl ?_
              refine o_rn (fun r => ex_builtin rfl (fun _ => rfl) r) h ?_; clear h; intro t59 w h; refine ⟨noG (by kernel_rfl), ?_⟩
              refine dr_takeP (i := 12) (by kernel_rfl) rfl (fun _ _ _ h => h) (noG (by kernel_rfl)) (fun _ => ex_nilCheck (p := (⟨b9, 0, none⟩ : Addr)) rfl) ?_
              refine dr_takeP (i := 13) (by kernel_rfl) rfl (fun _ _ _ h => h) (noG (by kernel_rfl)) (fun _ => ex_fa fa109_0 (p := (⟨b9, 0, none⟩ : Addr)) rfl) ?_
              refine dr_only (i := 14) (by kernel_rfl) rfl rfl ?_
              refine o_rnu (fun r => ex_store rfl rfl r) h ?_; clear h; intro w h; refine ⟨noG (by kernel_rfl), ?_⟩
              refine dr_end (by kernel_rfl) ?_
              refine then_n ?_
              refine region_ ?_
              refine st_val (ex_move (v := (Ptr (⟨b9, 0, none⟩ : Addr))) rfl) ?_
              refine st_val (ex_move (v := (Ptr (⟨b9, 0, none⟩ : Addr))) rfl) ?_
              refine st_val (ex_nilCheck (p := (⟨b9, 0, none⟩ : Addr)) rfl) ?_
              refine st_val (ex_fa fa109_1 (p := (⟨b9, 0, none⟩ : Addr)) rfl) ?_
              refine st_rn (fun r => ex_load rfl r) h ?_; clear h; intro t66 w h
              refine st_val (ex_move (v := (Sl.v t44.1)) rfl) ?_
              refine st_new (f := (fun b => Sl.v ⟨some ⟨b, 0, none⟩, 1, 1⟩)) (ex_buildSlice (a' := [(0, (Sl.v t44.1))]) rfl (e_buildSlice (cs := ([(Sl.v t44.1)])) Try.underlying107 info23 iz23 (by decide +kernel) (by decide +kernel) (by kernel_rfl) _)) h ?_; clear h; intro b68 w h
              refine st_rn (fun r => ex_builtin rfl (fun _ => rfl) r) h ?_; clear h; intro t69 w h
              refine st_val (ex_nilCheck (p := (⟨b9, 0, none⟩ : Addr)) rfl) ?_
              refine st_val (ex_fa fa109_1 (p := (⟨b9, 0, none⟩ : Addr)) rfl) ?_
              refine st_rnu (fun r => ex_store rfl rfl r) h ?_; clear h; intro w h
              refine wl_nil ?_
              refine inb_n ?_
              exact then_n ⟨(), _, rfl, mk_upds' (ae rfl (ae rfl (ae rfl (ae rfl ae0)))), h⟩
            · rw [if_neg hc9] at h; refine cond_0 (b := t44.2) rfl (Bool.eq_false_iff.2 hc9) ?_
              refine wp_skip ?_
              refine inb_n ?_
              exact then_n ⟨(), _, rfl, mk_upds' (ae rfl (ae rfl (ae rfl (ae rfl ae0)))), h⟩
        · clear h; intro k6 h
          refine region_ ?_
          refine st_val (ex_move (v := (Sl.v t0)) rfl) ?_
          refine st_val (ex_move (v := (.int .i64 s3)) rfl) ?_
          refine st_rnp (fun r => ex_indexAddr rfl rfl r) h ?_; clear h; intro t24 h
          refine st_val (ex_fa fa48_0 (p := t24) rfl) ?_
          refine st_rn (fun r => ex_load rfl r) h ?_; clear h; intro t26 w h
          refine st_val (ex_neq (a := t26) (b := 2) rfl rfl) ?_
          refine st_val (ex_move (v := (.bool (decide (t26 ≠ 2)))) rfl) ?_
          by_cases hc7 : t26 ≠ 2
          · rw [if_pos hc7] at h
            refine st_off (t := 28) (c := (decide (t26 ≠ 2))) rfl rfl (decide_eq_true hc7) ?_
            refine st_off (t := 28) (c := (decide (t26 ≠ 2))) rfl rfl (decide_eq_true hc7) ?_
            refine st_off (t := 28) (c := (decide (t26 ≠ 2))) rfl rfl (decide_eq_true hc7) ?_
            refine st_off (t := 28) (c := (decide (t26 ≠ 2))) rfl rfl (decide_eq_true hc7) ?_
            refine st_off (t := 28) (c := (decide (t26 ≠ 2))) rfl rfl (decide_eq_true hc7) ?_
            refine st_off (t := 28) (c := (decide (t26 ≠ 2))) rfl rfl (decide_eq_true hc7) ?_
            refine st_off (t := 28) (c := (decide (t26 ≠ 2))) rfl rfl (decide_eq_true hc7) ?_
            refine st_off (t := 28) (c := (decide (t26 ≠ 2))) rfl rfl (decide_eq_true hc7) ?_
            refine st_val (ex_pick1 (b := (decide (t26 ≠ 2))) rfl (decide_eq_true hc7) (v := (.bool true)) rfl) ?_
            refine wl_nil ?_
            exact then_n ⟨true, _, rfl, mk_upds' (ae rfl (ae rfl (ae rfl (ae rfl (ae rfl ae0))))), h⟩
          · rw [if_neg hc7] at h
            refine st_on (t := 28) (c := (decide (t26 ≠ 2))) rfl rfl (decide_eq_false hc7) ?_
            refine st_val (ex_move (v := (Ptr (⟨b9, 0, none⟩ : Addr))) rfl) ?_
            refine st_on (t := 28) (c := (decide (t26 ≠ 2))) rfl rfl (decide_eq_false hc7) ?_
            refine st_val (ex_move (v := (Sl.v t0)) rfl) ?_
            refine st_on (t := 28) (c := (decide (t26 ≠ 2))) rfl rfl (decide_eq_false hc7) ?_
            refine st_val (ex_move (v := (.int .i64 s3)) rfl) ?_
            refine st_on (t := 28) (c := (decide (t26 ≠ 2))) rfl rfl (decide_eq_false hc7) ?_
            refine st_rnp (fun r => ex_indexAddr rfl rfl r) h ?_; clear h; intro t32 h
            refine st_on (t := 28) (c := (decide (t26 ≠ 2))) rfl rfl (decide_eq_false hc7) ?_
            refine st_val (ex_fa fa48_1 (p := t32) rfl) ?_
            refine st_on (t := 28) (c := (decide (t26 ≠ 2))) rfl rfl (decide_eq_false hc7) ?_
            refine st_rn (fun r => ex_load rfl r) h ?_; clear h; intro t34 w h
            refine st_on (t := 28) (c := (decide (t26 ≠ 2))) rfl rfl (decide_eq_false hc7) ?_
            refine st_cal en60 rfl h ?_; clear h; intro t35 w h
            refine st_on (t := 28) (c := (decide (t26 ≠ 2))) rfl rfl (decide_eq_false hc7) ?_
            refine st_val (ex_geq (a := t35) (b := 0) rfl rfl) ?_
            refine st_val (ex_pick0 (b := (decide (t26 ≠ 2))) rfl (decide_eq_false hc7) (v := (.bool (decide (0 ≤ t35)))) rfl) ?_
            refine wl_nil ?_
            exact then_n ⟨(decide (0 ≤ t35)), _, rfl, mk_upds' (ae rfl (ae rfl (ae rfl (ae rfl (ae rfl ae0))))), h⟩
    · rw [if_neg hc4] at h; refine cond_0 (b := (decide (s3 < (t0.n : Int)))) rfl (decide_eq_false hc4) ?_
      refine wp_exit ?_
      refine then_e ?_
      refine then_e ?_
      refine inb_e ?_
      refine inb_n ?_
      refine then_n ?_
      refine region_ ?_
      refine st_val (ex_move (v := (.int .i64 s1)) rfl) ?_
      refine st_val (ex_add (a := s1) (b := 1) rfl rfl) ?_
      refine st_val (ex_assign (v := (.int .i64 (IntKind.i64.wrap (s1 + 1)))) rfl) ?_
      refine wl_nil ?_
      exact then_n ⟨(IntKind.i64.wrap (s1 + 1)), mk_upds (ae rfl (ae rfl (ae rfl ae0))), h⟩
  · rw [if_neg hc2] at h; refine cond_0 (b := (decide (s1 < (t0.n : Int)))) rfl (decide_eq_false hc2) ?_
    refine wp_exit ?_
    refine then_e ?_
    refine then_e ?_
    refine inb_e ?_
    refine then_n ?_
    refine seq_ ?_
    refine region_ ?_
    refine st_val (ex_move (v := (Ptr (⟨b9, 0, none⟩ : Addr))) rfl) ?_
    refine st_val (ex_assign (v := (Ptr (⟨b9, 0, none⟩ : Addr))) rfl) ?_
    refine wl_nil ?_
    refine then_n ?_
    refine wp_ret ?_
    refine ret_1 rfl rfl ⟨(some (⟨b9, 0, none⟩ : Addr)), rfl, h⟩

/-- (*turnpike/turnpikeref15.Known).at; slots 0:k, 1:name, 2:k, 3:name, 5:i -/
def f60 (t0 : (Option Addr)) (t1 : ByteArray) (R : (Int) → World → Prop) (w : World) : Prop :=
  Lp (σ := Int) (fun s1 w n1 =>
    NotNil t0 fun t8 =>
    Rn Try.prog Sl.v (Instr.loadAt 44 (Ptr (t8.add 0))) w fun t10 w =>
    if s1 < (t10.n : Int) then
      NotNil t0 fun t16 =>
      Rn Try.prog Sl.v (Instr.loadAt 44 (Ptr (t16.add 0))) w fun t18 w =>
      RnP Try.prog Ptr (Instr.indexAt 44 (Sl.v t18) (.int .i64 s1)) fun t20 =>
      Rn Try.prog Value.string (Instr.loadAt 9 (Ptr t20)) w fun t21 w =>
      if t21 = t1 then
        R s1 w
      else
        n1 (IntKind.i64.wrap (s1 + 1)) w
    else
      R (-1) w
  ) 0 w
theorem c60 {t0 : (Option Addr)} {t1 : ByteArray} {R : (Int) → World → Prop} {w : World} (h : f60 t0 t1 R w) :
    Cal Try.prog (Value.int .i64) 60 #[(.pointer t0), (.string t1)] w R := by
  unfold f60 at h
  refine calls_ Try.func60 Try.ntmps60 rfl rfl ?_
  refine seq_ ?_
  refine region_ ?_
  refine st_val (ex_assign (v := (.int .i64 0)) rfl) ?_
  refine wl_nil ?_
  refine then_n ?_
  refine seq_ ?_
  refine seq_ ?_
  refine region_ ?_
  refine st_val (ex_assign (v := (.int .i64 0)) rfl) ?_
  refine wl_nil ?_
  refine then_n ?_
  refine wp_block ?_
  refine wp_lp (σ := Int) (fun s1 a => ∃ j, a = F 25 (upds j [(0, (.pointer t0)), (1, (.string t1)), (5, (.int .i64 s1))])) h (mk_upds (ae rfl (ae rfl (ae rfl ae0)))) ?_
  clear h; rintro s1 _ w n1 ⟨j, rfl⟩ h
  refine seq_ ?_
  refine seq_ ?_
  refine region_ ?_
  refine st_val (ex_move (v := (.int .i64 s1)) rfl) ?_
  refine st_val (ex_move (v := (.pointer t0)) rfl) ?_
  obtain ⟨t8, ht8, h⟩ := h
  refine st_val (ex_nilCheckP (p := t0) rfl ht8) ?_
  refine st_val (ex_fa fa109_0 (p := t8) rfl) ?_
  refine st_rn (fun r => ex_load rfl r) h ?_; clear h; intro t10 w h
  refine st_val (ex_len (s := t10) Try.underlying44 rfl) ?_
  refine st_val (ex_lss (a := s1) (b := (t10.n : Int)) rfl rfl) ?_
  refine wl_nil ?_
  refine then_n ?_
  by_cases hc2 : s1 < (t10.n : Int)
  · rw [if_pos hc2] at h; refine cond_1 (b := (decide (s1 < (t10.n : Int)))) rfl (decide_eq_true hc2) ?_
    refine wp_skip ?_
    refine then_n ?_
    refine seq_ ?_
    refine wp_block ?_
    refine seq_ ?_
    refine region_ ?_
    refine st_val (ex_move (v := (.pointer t0)) rfl) ?_
    obtain ⟨t16, ht16, h⟩ := h
    refine st_val (ex_nilCheckP (p := t0) rfl ht16) ?_
    refine st_val (ex_fa fa109_0 (p := t16) rfl) ?_
    refine st_rn (fun r => ex_load rfl r) h ?_; clear h; intro t18 w h
    refine st_val (ex_move (v := (.int .i64 s1)) rfl) ?_
    refine st_rnp (fun r => ex_indexAddr rfl rfl r) h ?_; clear h; intro t20 h
    refine st_rn (fun r => ex_load rfl r) h ?_; clear h; intro t21 w h
    refine st_val (ex_move (v := (.string t1)) rfl) ?_
    refine st_val (ex_eqlS (a := t21) (b := t1) rfl rfl) ?_
    refine wl_nil ?_
    refine then_n ?_
    by_cases hc3 : t21 = t1
    · rw [if_pos hc3] at h; refine cond_1 (b := (decide (t21 = t1))) rfl (decide_eq_true hc3) ?_
      refine seq_ ?_
      refine region_ ?_
      refine st_val (ex_move (v := (.int .i64 s1)) rfl) ?_
      refine st_val (ex_assign (v := (.int .i64 s1)) rfl) ?_
      refine wl_nil ?_
      refine then_n ?_
      refine wp_ret ?_
      refine inb_r ?_
      refine then_r ?_
      refine then_r ?_
      refine inb_r ?_
      refine then_r ?_
      refine ret_1 rfl rfl ⟨s1, rfl, h⟩
    · rw [if_neg hc3] at h; refine cond_0 (b := (decide (t21 = t1))) rfl (decide_eq_false hc3) ?_
      refine wp_skip ?_
      refine inb_n ?_
      refine then_n ?_
      refine region_ ?_
      refine st_val (ex_move (v := (.int .i64 s1)) rfl) ?_
      refine st_val (ex_add (a := s1) (b := 1) rfl rfl) ?_
      refine st_val (ex_assign (v := (.int .i64 (IntKind.i64.wrap (s1 + 1)))) rfl) ?_
      refine wl_nil ?_
      exact then_n ⟨(IntKind.i64.wrap (s1 + 1)), mk_upds (ae rfl (ae rfl (ae rfl ae0))), h⟩
  · rw [if_neg hc2] at h; refine cond_0 (b := (decide (s1 < (t10.n : Int)))) rfl (decide_eq_false hc2) ?_
    refine wp_exit ?_
    refine then_e ?_
    refine then_e ?_
    refine inb_e ?_
    refine then_n ?_
    refine seq_ ?_
    refine region_ ?_
    refine st_val (ex_assign (v := (.int .i64 (-1))) rfl) ?_
    refine wl_nil ?_
    refine then_n ?_
    refine wp_ret ?_
    refine ret_1 rfl rfl ⟨(-1), rfl, h⟩

/-- turnpike/turnpikelaw15.alike; slots 0:x, 1:y, 2:x, 3:y -/
def f61 (t0 : Nat) (t1 : Nat) (R : (Bool) → World → Prop) (w : World) : Prop :=
  Jn (σ := Bool) (fun k1 =>
    Rx Try.prog (Value.int .u64) 105 #[(.float .f64 t0)] w fun t6 w =>
    Rx Try.prog (Value.int .u64) 105 #[(.float .f64 t1)] w fun t8 w =>
    if t6 = t8 then
      k1 true w
    else
      if (fNe t0 t0) = true then
        k1 (fNe t1 t1) w
      else
        k1 false w
  ) fun s1 w =>
    R s1 w
theorem c61 {t0 : Nat} {t1 : Nat} {R : (Bool) → World → Prop} {w : World} (h : f61 t0 t1 R w) :
    Cal Try.prog Value.bool 61 #[(.float .f64 t0), (.float .f64 t1)] w R := by
  unfold f61 at h
  refine calls_ Try.func61 Try.ntmps61 rfl rfl ?_
  refine seq_ ?_
  refine region_ ?_
  refine st_val (ex_assign (v := (.bool false)) rfl) ?_
  refine wl_nil ?_
  refine then_n ?_
  refine wp_jn (σ := Bool) (fun s1 l => ∃ j, l = upds j [(4, (.bool s1))]) h ?_ ?_
  · clear h; rintro s1 _ w ⟨j, rfl⟩ h
    refine wp_ret ?_
    refine ret_1 rfl rfl ⟨s1, rfl, h⟩
  · clear h; intro k1 h
    refine region_ ?_
    refine st_val (ex_move (v := (.float .f64 t0)) rfl) ?_
    refine st_rx rfl h ?_; clear h; intro t6 w h
    refine st_val (ex_move (v := (.float .f64 t1)) rfl) ?_
    refine st_rx rfl h ?_; clear h; intro t8 w h
    refine st_val (ex_eql (a := t6) (b := t8) rfl rfl) ?_
    refine st_val (ex_move (v := (.bool (decide (t6 = t8)))) rfl) ?_
    by_cases hc2 : t6 = t8
    · rw [if_pos hc2] at h
      refine st_off (t := 10) (c := (decide (t6 = t8))) rfl rfl (decide_eq_true hc2) ?_
      refine st_off (t := 10) (c := (decide (t6 = t8))) rfl rfl (decide_eq_true hc2) ?_
      refine st_off (t := 10) (c := (decide (t6 = t8))) rfl rfl (decide_eq_true hc2) ?_
      refine st_off (t := 10) (c := (decide (t6 = t8))) rfl rfl (decide_eq_true hc2) ?_
      refine st_offu (t := 14) rfl rfl ?_
      refine st_offu (t := 14) rfl rfl ?_
      refine st_offu (t := 14) rfl rfl ?_
      refine st_off (t := 10) (c := (decide (t6 = t8))) rfl rfl (decide_eq_true hc2) ?_
      refine st_val (ex_pick1 (b := (decide (t6 = t8))) rfl (decide_eq_true hc2) (v := (.bool true)) rfl) ?_
      refine st_val (ex_assign (v := (.bool true)) rfl) ?_
      refine wl_nil ?_
      exact then_n ⟨true, _, rfl, mk_upds' (ae rfl ae0), h⟩
    · rw [if_neg hc2] at h
      refine st_on (t := 10) (c := (decide (t6 = t8))) rfl rfl (decide_eq_false hc2) ?_
      refine st_val (ex_move (v := (.float .f64 t0)) rfl) ?_
      refine st_on (t := 10) (c := (decide (t6 = t8))) rfl rfl (decide_eq_false hc2) ?_
      refine st_val (ex_move (v := (.float .f64 t0)) rfl) ?_
      refine st_on (t := 10) (c := (decide (t6 = t8))) rfl rfl (decide_eq_false hc2) ?_
      refine st_val (ex_neqF (a := t0) (b := t0) rfl rfl) ?_
      refine st_on (t := 10) (c := (decide (t6 = t8))) rfl rfl (decide_eq_false hc2) ?_
      refine st_val (ex_move (v := (.bool (fNe t0 t0))) rfl) ?_
      by_cases hc3 : (fNe t0 t0) = true
      · rw [if_pos hc3] at h
        refine st_on (t := 14) (c := (fNe t0 t0)) rfl rfl hc3 ?_
        refine st_val (ex_move (v := (.float .f64 t1)) rfl) ?_
        refine st_on (t := 14) (c := (fNe t0 t0)) rfl rfl hc3 ?_
        refine st_val (ex_move (v := (.float .f64 t1)) rfl) ?_
        refine st_on (t := 14) (c := (fNe t0 t0)) rfl rfl hc3 ?_
        refine st_val (ex_neqF (a := t1) (b := t1) rfl rfl) ?_
        refine st_on (t := 10) (c := (decide (t6 = t8))) rfl rfl (decide_eq_false hc2) ?_
        refine st_val (ex_pick1 (b := (fNe t0 t0)) rfl hc3 (v := (.bool (fNe t1 t1))) rfl) ?_
        refine st_val (ex_pick0 (b := (decide (t6 = t8))) rfl (decide_eq_false hc2) (v := (.bool (fNe t1 t1))) rfl) ?_
        refine st_val (ex_assign (v := (.bool (fNe t1 t1))) rfl) ?_
        refine wl_nil ?_
        exact then_n ⟨(fNe t1 t1), _, rfl, mk_upds' (ae rfl ae0), h⟩
      · rw [if_neg hc3] at h
        refine st_off (t := 14) (c := (fNe t0 t0)) rfl rfl (Bool.eq_false_iff.2 hc3) ?_
        refine st_off (t := 14) (c := (fNe t0 t0)) rfl rfl (Bool.eq_false_iff.2 hc3) ?_
        refine st_off (t := 14) (c := (fNe t0 t0)) rfl rfl (Bool.eq_false_iff.2 hc3) ?_
        refine st_on (t := 10) (c := (decide (t6 = t8))) rfl rfl (decide_eq_false hc2) ?_
        refine st_val (ex_pick0 (b := (fNe t0 t0)) rfl (Bool.eq_false_iff.2 hc3) (v := (.bool false)) rfl) ?_
        refine st_val (ex_pick0 (b := (decide (t6 = t8))) rfl (decide_eq_false hc2) (v := (.bool false)) rfl) ?_
        refine st_val (ex_assign (v := (.bool false)) rfl) ?_
        refine wl_nil ?_
        exact then_n ⟨false, _, rfl, mk_upds' (ae rfl ae0), h⟩

/-- turnpike/turnpikelaw15.resource; slots 0:a, 1:b, 2:a, 3:b -/
def f62 (t0 : TResource) (t1 : TResource) (R : (Bool) → World → Prop) (w : World) : Prop :=
  New 48 (TResource.cells t0) w fun b2 w =>
  New 48 (TResource.cells t1) w fun b3 w =>
  Jn (σ := Bool) (fun k1 =>
    Rn Try.prog (Value.int .i64) (Instr.loadAt 3 (Ptr ((⟨b2, 0, none⟩ : Addr).add 0))) w fun t6 w =>
    Rn Try.prog (Value.int .i64) (Instr.loadAt 3 (Ptr ((⟨b3, 0, none⟩ : Addr).add 0))) w fun t8 w =>
    if t6 = t8 then
      Rn Try.prog Value.string (Instr.loadAt 9 (Ptr ((⟨b2, 0, none⟩ : Addr).add 1))) w fun t12 w =>
      Rn Try.prog Value.string (Instr.loadAt 9 (Ptr ((⟨b3, 0, none⟩ : Addr).add 1))) w fun t14 w =>
      if t12 = t14 then
        Rn Try.prog Sl.v (Instr.loadAt 44 (Ptr ((⟨b2, 0, none⟩ : Addr).add 2))) w fun t19 w =>
        Rn Try.prog Sl.v (Instr.loadAt 44 (Ptr ((⟨b3, 0, none⟩ : Addr).add 2))) w fun t21 w =>
        Cal Try.prog Value.bool 80 #[(Sl.v t19), (Sl.v t21)] w fun t22 w =>
        if t22 = true then
          Rn Try.prog Sl.v (Instr.loadAt 45 (Ptr ((⟨b2, 0, none⟩ : Addr).add 3))) w fun t26 w =>
          Rn Try.prog Sl.v (Instr.loadAt 45 (Ptr ((⟨b3, 0, none⟩ : Addr).add 3))) w fun t28 w =>
          Cal Try.prog Value.bool 106 #[(Sl.v t26), (Sl.v t28)] w fun t29 w =>
          if t29 = true then
            Rn Try.prog Value.string (Instr.loadAt 9 (Ptr ((⟨b2, 0, none⟩ : Addr).add 4))) w fun t33 w =>
            Rn Try.prog Value.string (Instr.loadAt 9 (Ptr ((⟨b3, 0, none⟩ : Addr).add 4))) w fun t35 w =>
            if t33 = t35 then
              Rn Try.prog Sl.v (Instr.loadAt 46 (Ptr ((⟨b2, 0, none⟩ : Addr).add 5))) w fun t40 w =>
              Rn Try.prog Sl.v (Instr.loadAt 46 (Ptr ((⟨b3, 0, none⟩ : Addr).add 5))) w fun t42 w =>
              Cal Try.prog Value.bool 107 #[(Sl.v t40), (Sl.v t42)] w fun t43 w =>
              if t43 = true then
                Rn Try.prog Value.string (Instr.loadAt 9 (Ptr ((⟨b2, 0, none⟩ : Addr).add 6))) w fun t47 w =>
                Rn Try.prog Value.string (Instr.loadAt 9 (Ptr ((⟨b3, 0, none⟩ : Addr).add 6))) w fun t49 w =>
                if t47 = t49 then
                  Rn Try.prog Value.bool (Instr.loadAt 4 (Ptr ((⟨b2, 0, none⟩ : Addr).add 7))) w fun t54 w =>
                  Rn Try.prog Value.bool (Instr.loadAt 4 (Ptr ((⟨b3, 0, none⟩ : Addr).add 7))) w fun t56 w =>
                  k1 (t54 == t56) w
                else
                  k1 false w
              else
                k1 false w
            else
              k1 false w
          else
            k1 false w
        else
          k1 false w
      else
        k1 false w
    else
      k1 false w
  ) fun s1 w =>
    R s1 w
theorem c62 {t0 : TResource} {t1 : TResource} {R : (Bool) → World → Prop} {w : World} (h : f62 t0 t1 R w) :
    Cal Try.prog Value.bool 62 #[(TResource.v t0), (TResource.v t1)] w R := by
  unfold f62 at h
  refine calls_ Try.func62 Try.ntmps62 rfl rfl ?_
  refine seq_ ?_
  refine region_ ?_
  refine st_new (f := (fun b => Ptr ⟨b, 0, none⟩)) (ex_boxN rfl rfl) h ?_; clear h; intro b2 w h
  refine st_new (f := (fun b => Ptr ⟨b, 0, none⟩)) (ex_boxN rfl rfl) h ?_; clear h; intro b3 w h
  refine st_val (ex_assign (v := (.bool false)) rfl) ?_
  refine wl_nil ?_
  refine then_n ?_
  refine wp_jn (σ := Bool) (fun s1 l => ∃ j, l = upds j [(4, (.bool s1))]) h ?_ ?_
  · clear h; rintro s1 _ w ⟨j, rfl⟩ h
    refine wp_ret ?_
    refine ret_1 rfl rfl ⟨s1, rfl, h⟩
  · clear h; intro k1 h
    refine region_ ?_
    refine st_val (ex_fa fa48_0 (p := (⟨b2, 0, none⟩ : Addr)) rfl) ?_
    refine st_rn (fun r => ex_load rfl r) h ?_; clear h; intro t6 w h
    refine st_val (ex_fa fa48_0 (p := (⟨b3, 0, none⟩ : Addr)) rfl) ?_
    refine st_rn (fun r => ex_load rfl r) h ?_; clear h; intro t8 w h
    refine st_val (ex_eql (a := t6) (b := t8) rfl rfl) ?_
    refine st_val (ex_move (v := (.bool (decide (t6 = t8)))) rfl) ?_
    by_cases hc2 : t6 = t8
    · rw [if_pos hc2] at h
      refine st_on (t := 10) (c := (decide (t6 = t8))) rfl rfl (decide_eq_true hc2) ?_
      refine st_val (ex_fa fa48_1 (p := (⟨b2, 0, none⟩ : Addr)) rfl) ?_
      refine st_on (t := 10) (c := (decide (t6 = t8))) rfl rfl (decide_eq_true hc2) ?_
      refine st_rn (fun r => ex_load rfl r) h ?_; clear h; intro t12 w h
      refine st_on (t := 10) (c := (decide (t6 = t8))) rfl rfl (decide_eq_true hc2) ?_
      refine st_val (ex_fa fa48_1 (p := (⟨b3, 0, none⟩ : Addr)) rfl) ?_
      refine st_on (t := 10) (c := (decide (t6 = t8))) rfl rfl (decide_eq_true hc2) ?_
      refine st_rn (fun r => ex_load rfl r) h ?_; clear h; intro t14 w h
      refine st_on (t := 10) (c := (decide (t6 = t8))) rfl rfl (decide_eq_true hc2) ?_
      refine st_val (ex_eqlS (a := t12) (b := t14) rfl rfl) ?_
      refine st_val (ex_pick1 (b := (decide (t6 = t8))) rfl (decide_eq_true hc2) (v := (.bool (decide (t12 = t14)))) rfl) ?_
      refine st_val (ex_move (v := (.bool (decide (t12 = t14)))) rfl) ?_
      by_cases hc3 : t12 = t14
      · rw [if_pos hc3] at h
        refine st_on (t := 17) (c := (decide (t12 = t14))) rfl rfl (decide_eq_true hc3) ?_
        refine st_val (ex_fa fa48_2 (p := (⟨b2, 0, none⟩ : Addr)) rfl) ?_
        refine st_on (t := 17) (c := (decide (t12 = t14))) rfl rfl (decide_eq_true hc3) ?_
        refine st_rn (fun r => ex_load rfl r) h ?_; clear h; intro t19 w h
        refine st_on (t := 17) (c := (decide (t12 = t14))) rfl rfl (decide_eq_true hc3) ?_
        refine st_val (ex_fa fa48_2 (p := (⟨b3, 0, none⟩ : Addr)) rfl) ?_
        refine st_on (t := 17) (c := (decide (t12 = t14))) rfl rfl (decide_eq_true hc3) ?_
        refine st_rn (fun r => ex_load rfl r) h ?_; clear h; intro t21 w h
        refine st_on (t := 17) (c := (decide (t12 = t14))) rfl rfl (decide_eq_true hc3) ?_
        refine st_cal en80 rfl h ?_; clear h; intro t22 w h
        refine st_val (ex_pick1 (b := (decide (t12 = t14))) rfl (decide_eq_true hc3) (v := (.bool t22)) rfl) ?_
        refine st_val (ex_move (v := (.bool t22)) rfl) ?_
        by_cases hc4 : t22 = true
        · rw [if_pos hc4] at h
          refine st_on (t := 24) (c := t22) rfl rfl hc4 ?_
          refine st_val (ex_fa fa48_3 (p := (⟨b2, 0, none⟩ : Addr)) rfl) ?_
          refine st_on (t := 24) (c := t22) rfl rfl hc4 ?_
          refine st_rn (fun r => ex_load rfl r) h ?_; clear h; intro t26 w h
          refine st_on (t := 24) (c := t22) rfl rfl hc4 ?_
          refine st_val (ex_fa fa48_3 (p := (⟨b3, 0, none⟩ : Addr)) rfl) ?_
          refine st_on (t := 24) (c := t22) rfl rfl hc4 ?_
          refine st_rn (fun r => ex_load rfl r) h ?_; clear h; intro t28 w h
          refine st_on (t := 24) (c := t22) rfl rfl hc4 ?_
          refine st_cal en106 rfl h ?_; clear h; intro t29 w h
          refine st_val (ex_pick1 (b := t22) rfl hc4 (v := (.bool t29)) rfl) ?_
          refine st_val (ex_move (v := (.bool t29)) rfl) ?_
          by_cases hc5 : t29 = true
          · rw [if_pos hc5] at h
            refine st_on (t := 31) (c := t29) rfl rfl hc5 ?_
            refine st_val (ex_fa fa48_4 (p := (⟨b2, 0, none⟩ : Addr)) rfl) ?_
            refine st_on (t := 31) (c := t29) rfl rfl hc5 ?_
            refine st_rn (fun r => ex_load rfl r) h ?_; clear h; intro t33 w h
            refine st_on (t := 31) (c := t29) rfl rfl hc5 ?_
            refine st_val (ex_fa fa48_4 (p := (⟨b3, 0, none⟩ : Addr)) rfl) ?_
            refine st_on (t := 31) (c := t29) rfl rfl hc5 ?_
            refine st_rn (fun r => ex_load rfl r) h ?_; clear h; intro t35 w h
            refine st_on (t := 31) (c := t29) rfl rfl hc5 ?_
            refine st_val (ex_eqlS (a := t33) (b := t35) rfl rfl) ?_
            refine st_val (ex_pick1 (b := t29) rfl hc5 (v := (.bool (decide (t33 = t35)))) rfl) ?_
            refine st_val (ex_move (v := (.bool (decide (t33 = t35)))) rfl) ?_
            by_cases hc6 : t33 = t35
            · rw [if_pos hc6] at h
              refine st_on (t := 38) (c := (decide (t33 = t35))) rfl rfl (decide_eq_true hc6) ?_
              refine st_val (ex_fa fa48_5 (p := (⟨b2, 0, none⟩ : Addr)) rfl) ?_
              refine st_on (t := 38) (c := (decide (t33 = t35))) rfl rfl (decide_eq_true hc6) ?_
              refine st_rn (fun r => ex_load rfl r) h ?_; clear h; intro t40 w h
              refine st_on (t := 38) (c := (decide (t33 = t35))) rfl rfl (decide_eq_true hc6) ?_
              refine st_val (ex_fa fa48_5 (p := (⟨b3, 0, none⟩ : Addr)) rfl) ?_
              refine st_on (t := 38) (c := (decide (t33 = t35))) rfl rfl (decide_eq_true hc6) ?_
              refine st_rn (fun r => ex_load rfl r) h ?_; clear h; intro t42 w h
              refine st_on (t := 38) (c := (decide (t33 = t35))) rfl rfl (decide_eq_true hc6) ?_
              refine st_cal en107 rfl h ?_; clear h; intro t43 w h
              refine st_val (ex_pick1 (b := (decide (t33 = t35))) rfl (decide_eq_true hc6) (v := (.bool t43)) rfl) ?_
              refine st_val (ex_move (v := (.bool t43)) rfl) ?_
              by_cases hc7 : t43 = true
              · rw [if_pos hc7] at h
                refine st_on (t := 45) (c := t43) rfl rfl hc7 ?_
                refine st_val (ex_fa fa48_6 (p := (⟨b2, 0, none⟩ : Addr)) rfl) ?_
                refine st_on (t := 45) (c := t43) rfl rfl hc7 ?_
                refine st_rn (fun r => ex_load rfl r) h ?_; clear h; intro t47 w h
                refine st_on (t := 45) (c := t43) rfl rfl hc7 ?_
                refine st_val (ex_fa fa48_6 (p := (⟨b3, 0, none⟩ : Addr)) rfl) ?_
                refine st_on (t := 45) (c := t43) rfl rfl hc7 ?_
                refine st_rn (fun r => ex_load rfl r) h ?_; clear h; intro t49 w h
                refine st_on (t := 45) (c := t43) rfl rfl hc7 ?_
                refine st_val (ex_eqlS (a := t47) (b := t49) rfl rfl) ?_
                refine st_val (ex_pick1 (b := t43) rfl hc7 (v := (.bool (decide (t47 = t49)))) rfl) ?_
                refine st_val (ex_move (v := (.bool (decide (t47 = t49)))) rfl) ?_
                by_cases hc8 : t47 = t49
                · rw [if_pos hc8] at h
                  refine st_on (t := 52) (c := (decide (t47 = t49))) rfl rfl (decide_eq_true hc8) ?_
                  refine st_val (ex_fa fa48_7 (p := (⟨b2, 0, none⟩ : Addr)) rfl) ?_
                  refine st_on (t := 52) (c := (decide (t47 = t49))) rfl rfl (decide_eq_true hc8) ?_
                  refine st_rn (fun r => ex_load rfl r) h ?_; clear h; intro t54 w h
                  refine st_on (t := 52) (c := (decide (t47 = t49))) rfl rfl (decide_eq_true hc8) ?_
                  refine st_val (ex_fa fa48_7 (p := (⟨b3, 0, none⟩ : Addr)) rfl) ?_
                  refine st_on (t := 52) (c := (decide (t47 = t49))) rfl rfl (decide_eq_true hc8) ?_
                  refine st_rn (fun r => ex_load rfl r) h ?_; clear h; intro t56 w h
                  refine st_on (t := 52) (c := (decide (t47 = t49))) rfl rfl (decide_eq_true hc8) ?_
                  refine st_val (ex_eqlB Try.underlying4 (a := t54) (b := t56) rfl rfl) ?_
                  refine st_val (ex_pick1 (b := (decide (t47 = t49))) rfl (decide_eq_true hc8) (v := (.bool (t54 == t56))) rfl) ?_
                  refine st_val (ex_assign (v := (.bool (t54 == t56))) rfl) ?_
                  refine wl_nil ?_
                  exact then_n ⟨(t54 == t56), _, rfl, mk_upds' (ae rfl ae0), h⟩
                · rw [if_neg hc8] at h
                  refine st_off (t := 52) (c := (decide (t47 = t49))) rfl rfl (decide_eq_false hc8) ?_
                  refine st_off (t := 52) (c := (decide (t47 = t49))) rfl rfl (decide_eq_false hc8) ?_
                  refine st_off (t := 52) (c := (decide (t47 = t49))) rfl rfl (decide_eq_false hc8) ?_
                  refine st_off (t := 52) (c := (decide (t47 = t49))) rfl rfl (decide_eq_false hc8) ?_
                  refine st_off (t := 52) (c := (decide (t47 = t49))) rfl rfl (decide_eq_false hc8) ?_
                  refine st_val (ex_pick0 (b := (decide (t47 = t49))) rfl (decide_eq_false hc8) (v := (.bool false)) rfl) ?_
                  refine st_val (ex_assign (v := (.bool false)) rfl) ?_
                  refine wl_nil ?_
                  exact then_n ⟨false, _, rfl, mk_upds' (ae rfl ae0), h⟩
              · rw [if_neg hc7] at h
                refine st_off (t := 45) (c := t43) rfl rfl (Bool.eq_false_iff.2 hc7) ?_
                refine st_off (t := 45) (c := t43) rfl rfl (Bool.eq_false_iff.2 hc7) ?_
                refine st_off (t := 45) (c := t43) rfl rfl (Bool.eq_false_iff.2 hc7) ?_
                refine st_off (t := 45) (c := t43) rfl rfl (Bool.eq_false_iff.2 hc7) ?_
                refine st_off (t := 45) (c := t43) rfl rfl (Bool.eq_false_iff.2 hc7) ?_
                refine st_val (ex_pick0 (b := t43) rfl (Bool.eq_false_iff.2 hc7) (v := (.bool false)) rfl) ?_
                refine st_val (ex_move (v := (.bool false)) rfl) ?_
                refine st_off (t := 52) (c := false) rfl rfl (rfl : false = !true) ?_
                refine st_off (t := 52) (c := false) rfl rfl (rfl : false = !true) ?_
                refine st_off (t := 52) (c := false) rfl rfl (rfl : false = !true) ?_
                refine st_off (t := 52) (c := false) rfl rfl (rfl : false = !true) ?_
                refine st_off (t := 52) (c := false) rfl rfl (rfl : false = !true) ?_
                refine st_val (ex_pick0 (b := false) rfl (rfl : false = false) (v := (.bool false)) rfl) ?_
                refine st_val (ex_assign (v := (.bool false)) rfl) ?_
                refine wl_nil ?_
                exact then_n ⟨false, _, rfl, mk_upds' (ae rfl ae0), h⟩
            · rw [if_neg hc6] at h
              refine st_off (t := 38) (c := (decide (t33 = t35))) rfl rfl (decide_eq_false hc6) ?_
              refine st_off (t := 38) (c := (decide (t33 = t35))) rfl rfl (decide_eq_false hc6) ?_
              refine st_off (t := 38) (c := (decide (t33 = t35))) rfl rfl (decide_eq_false hc6) ?_
              refine st_off (t := 38) (c := (decide (t33 = t35))) rfl rfl (decide_eq_false hc6) ?_
              refine st_off (t := 38) (c := (decide (t33 = t35))) rfl rfl (decide_eq_false hc6) ?_
              refine st_val (ex_pick0 (b := (decide (t33 = t35))) rfl (decide_eq_false hc6) (v := (.bool false)) rfl) ?_
              refine st_val (ex_move (v := (.bool false)) rfl) ?_
              refine st_off (t := 45) (c := false) rfl rfl (rfl : false = !true) ?_
              refine st_off (t := 45) (c := false) rfl rfl (rfl : false = !true) ?_
              refine st_off (t := 45) (c := false) rfl rfl (rfl : false = !true) ?_
              refine st_off (t := 45) (c := false) rfl rfl (rfl : false = !true) ?_
              refine st_off (t := 45) (c := false) rfl rfl (rfl : false = !true) ?_
              refine st_val (ex_pick0 (b := false) rfl (rfl : false = false) (v := (.bool false)) rfl) ?_
              refine st_val (ex_move (v := (.bool false)) rfl) ?_
              refine st_off (t := 52) (c := false) rfl rfl (rfl : false = !true) ?_
              refine st_off (t := 52) (c := false) rfl rfl (rfl : false = !true) ?_
              refine st_off (t := 52) (c := false) rfl rfl (rfl : false = !true) ?_
              refine st_off (t := 52) (c := false) rfl rfl (rfl : false = !true) ?_
              refine st_off (t := 52) (c := false) rfl rfl (rfl : false = !true) ?_
              refine st_val (ex_pick0 (b := false) rfl (rfl : false = false) (v := (.bool false)) rfl) ?_
              refine st_val (ex_assign (v := (.bool false)) rfl) ?_
              refine wl_nil ?_
              exact then_n ⟨false, _, rfl, mk_upds' (ae rfl ae0), h⟩
          · rw [if_neg hc5] at h
            refine st_off (t := 31) (c := t29) rfl rfl (Bool.eq_false_iff.2 hc5) ?_
            refine st_off (t := 31) (c := t29) rfl rfl (Bool.eq_false_iff.2 hc5) ?_
            refine st_off (t := 31) (c := t29) rfl rfl (Bool.eq_false_iff.2 hc5) ?_
            refine st_off (t := 31) (c := t29) rfl rfl (Bool.eq_false_iff.2 hc5) ?_
            refine st_off (t := 31) (c := t29) rfl rfl (Bool.eq_false_iff.2 hc5) ?_
            refine st_val (ex_pick0 (b := t29) rfl (Bool.eq_false_iff.2 hc5) (v := (.bool false)) rfl) ?_
            refine st_val (ex_move (v := (.bool false)) rfl) ?_
            refine st_off (t := 38) (c := false) rfl rfl (rfl : false = !true) ?_
            refine st_off (t := 38) (c := false) rfl rfl (rfl : false = !true) ?_
            refine st_off (t := 38) (c := false) rfl rfl (rfl : false = !true) ?_
            refine st_off (t := 38) (c := false) rfl rfl (rfl : false = !true) ?_
            refine st_off (t := 38) (c := false) rfl rfl (rfl : false = !true) ?_
            refine st_val (ex_pick0 (b := false) rfl (rfl : false = false) (v := (.bool false)) rfl) ?_
            refine st_val (ex_move (v := (.bool false)) rfl) ?_
            refine st_off (t := 45) (c := false) rfl rfl (rfl : false = !true) ?_
            refine st_off (t := 45) (c := false) rfl rfl (rfl : false = !true) ?_
            refine st_off (t := 45) (c := false) rfl rfl (rfl : false = !true) ?_
            refine st_off (t := 45) (c := false) rfl rfl (rfl : false = !true) ?_
            refine st_off (t := 45) (c := false) rfl rfl (rfl : false = !true) ?_
            refine st_val (ex_pick0 (b := false) rfl (rfl : false = false) (v := (.bool false)) rfl) ?_
            refine st_val (ex_move (v := (.bool false)) rfl) ?_
            refine st_off (t := 52) (c := false) rfl rfl (rfl : false = !true) ?_
            refine st_off (t := 52) (c := false) rfl rfl (rfl : false = !true) ?_
            refine st_off (t := 52) (c := false) rfl rfl (rfl : false = !true) ?_
            refine st_off (t := 52) (c := false) rfl rfl (rfl : false = !true) ?_
            refine st_off (t := 52) (c := false) rfl rfl (rfl : false = !true) ?_
            refine st_val (ex_pick0 (b := false) rfl (rfl : false = false) (v := (.bool false)) rfl) ?_
            refine st_val (ex_assign (v := (.bool false)) rfl) ?_
            refine wl_nil ?_
            exact then_n ⟨false, _, rfl, mk_upds' (ae rfl ae0), h⟩
        · rw [if_neg hc4] at h
          refine st_off (t := 24) (c := t22) rfl rfl (Bool.eq_false_iff.2 hc4) ?_
          refine st_off (t := 24) (c := t22) rfl rfl (Bool.eq_false_iff.2 hc4) ?_
          refine st_off (t := 24) (c := t22) rfl rfl (Bool.eq_false_iff.2 hc4) ?_
          refine st_off (t := 24) (c := t22) rfl rfl (Bool.eq_false_iff.2 hc4) ?_
          refine st_off (t := 24) (c := t22) rfl rfl (Bool.eq_false_iff.2 hc4) ?_
          refine st_val (ex_pick0 (b := t22) rfl (Bool.eq_false_iff.2 hc4) (v := (.bool false)) rfl) ?_
          refine st_val (ex_move (v := (.bool false)) rfl) ?_
          refine st_off (t := 31) (c := false) rfl rfl (rfl : false = !true) ?_
          refine st_off (t := 31) (c := false) rfl rfl (rfl : false = !true) ?_
          refine st_off (t := 31) (c := false) rfl rfl (rfl : false = !true) ?_
          refine st_off (t := 31) (c := false) rfl rfl (rfl : false = !true) ?_
          refine st_off (t := 31) (c := false) rfl rfl (rfl : false = !true) ?_
          refine st_val (ex_pick0 (b := false) rfl (rfl : false = false) (v := (.bool false)) rfl) ?_
          refine st_val (ex_move (v := (.bool false)) rfl) ?_
          refine st_off (t := 38) (c := false) rfl rfl (rfl : false = !true) ?_
          refine st_off (t := 38) (c := false) rfl rfl (rfl : false = !true) ?_
          refine st_off (t := 38) (c := false) rfl rfl (rfl : false = !true) ?_
          refine st_off (t := 38) (c := false) rfl rfl (rfl : false = !true) ?_
          refine st_off (t := 38) (c := false) rfl rfl (rfl : false = !true) ?_
          refine st_val (ex_pick0 (b := false) rfl (rfl : false = false) (v := (.bool false)) rfl) ?_
          refine st_val (ex_move (v := (.bool false)) rfl) ?_
          refine st_off (t := 45) (c := false) rfl rfl (rfl : false = !true) ?_
          refine st_off (t := 45) (c := false) rfl rfl (rfl : false = !true) ?_
          refine st_off (t := 45) (c := false) rfl rfl (rfl : false = !true) ?_
          refine st_off (t := 45) (c := false) rfl rfl (rfl : false = !true) ?_
          refine st_off (t := 45) (c := false) rfl rfl (rfl : false = !true) ?_
          refine st_val (ex_pick0 (b := false) rfl (rfl : false = false) (v := (.bool false)) rfl) ?_
          refine st_val (ex_move (v := (.bool false)) rfl) ?_
          refine st_off (t := 52) (c := false) rfl rfl (rfl : false = !true) ?_
          refine st_off (t := 52) (c := false) rfl rfl (rfl : false = !true) ?_
          refine st_off (t := 52) (c := false) rfl rfl (rfl : false = !true) ?_
          refine st_off (t := 52) (c := false) rfl rfl (rfl : false = !true) ?_
          refine st_off (t := 52) (c := false) rfl rfl (rfl : false = !true) ?_
          refine st_val (ex_pick0 (b := false) rfl (rfl : false = false) (v := (.bool false)) rfl) ?_
          refine st_val (ex_assign (v := (.bool false)) rfl) ?_
          refine wl_nil ?_
          exact then_n ⟨false, _, rfl, mk_upds' (ae rfl ae0), h⟩
      · rw [if_neg hc3] at h
        refine st_off (t := 17) (c := (decide (t12 = t14))) rfl rfl (decide_eq_false hc3) ?_
        refine st_off (t := 17) (c := (decide (t12 = t14))) rfl rfl (decide_eq_false hc3) ?_
        refine st_off (t := 17) (c := (decide (t12 = t14))) rfl rfl (decide_eq_false hc3) ?_
        refine st_off (t := 17) (c := (decide (t12 = t14))) rfl rfl (decide_eq_false hc3) ?_
        refine st_off (t := 17) (c := (decide (t12 = t14))) rfl rfl (decide_eq_false hc3) ?_
        refine st_val (ex_pick0 (b := (decide (t12 = t14))) rfl (decide_eq_false hc3) (v := (.bool false)) rfl) ?_
        refine st_val (ex_move (v := (.bool false)) rfl) ?_
        refine st_off (t := 24) (c := false) rfl rfl (rfl : false = !true) ?_
        refine st_off (t := 24) (c := false) rfl rfl (rfl : false = !true) ?_
        refine st_off (t := 24) (c := false) rfl rfl (rfl : false = !true) ?_
        refine st_off (t := 24) (c := false) rfl rfl (rfl : false = !true) ?_
        refine st_off (t := 24) (c := false) rfl rfl (rfl : false = !true) ?_
        refine st_val (ex_pick0 (b := false) rfl (rfl : false = false) (v := (.bool false)) rfl) ?_
        refine st_val (ex_move (v := (.bool false)) rfl) ?_
        refine st_off (t := 31) (c := false) rfl rfl (rfl : false = !true) ?_
        refine st_off (t := 31) (c := false) rfl rfl (rfl : false = !true) ?_
        refine st_off (t := 31) (c := false) rfl rfl (rfl : false = !true) ?_
        refine st_off (t := 31) (c := false) rfl rfl (rfl : false = !true) ?_
        refine st_off (t := 31) (c := false) rfl rfl (rfl : false = !true) ?_
        refine st_val (ex_pick0 (b := false) rfl (rfl : false = false) (v := (.bool false)) rfl) ?_
        refine st_val (ex_move (v := (.bool false)) rfl) ?_
        refine st_off (t := 38) (c := false) rfl rfl (rfl : false = !true) ?_
        refine st_off (t := 38) (c := false) rfl rfl (rfl : false = !true) ?_
        refine st_off (t := 38) (c := false) rfl rfl (rfl : false = !true) ?_
        refine st_off (t := 38) (c := false) rfl rfl (rfl : false = !true) ?_
        refine st_off (t := 38) (c := false) rfl rfl (rfl : false = !true) ?_
        refine st_val (ex_pick0 (b := false) rfl (rfl : false = false) (v := (.bool false)) rfl) ?_
        refine st_val (ex_move (v := (.bool false)) rfl) ?_
        refine st_off (t := 45) (c := false) rfl rfl (rfl : false = !true) ?_
        refine st_off (t := 45) (c := false) rfl rfl (rfl : false = !true) ?_
        refine st_off (t := 45) (c := false) rfl rfl (rfl : false = !true) ?_
        refine st_off (t := 45) (c := false) rfl rfl (rfl : false = !true) ?_
        refine st_off (t := 45) (c := false) rfl rfl (rfl : false = !true) ?_
        refine st_val (ex_pick0 (b := false) rfl (rfl : false = false) (v := (.bool false)) rfl) ?_
        refine st_val (ex_move (v := (.bool false)) rfl) ?_
        refine st_off (t := 52) (c := false) rfl rfl (rfl : false = !true) ?_
        refine st_off (t := 52) (c := false) rfl rfl (rfl : false = !true) ?_
        refine st_off (t := 52) (c := false) rfl rfl (rfl : false = !true) ?_
        refine st_off (t := 52) (c := false) rfl rfl (rfl : false = !true) ?_
        refine st_off (t := 52) (c := false) rfl rfl (rfl : false = !true) ?_
        refine st_val (ex_pick0 (b := false) rfl (rfl : false = false) (v := (.bool false)) rfl) ?_
        refine st_val (ex_assign (v := (.bool false)) rfl) ?_
        refine wl_nil ?_
        exact then_n ⟨false, _, rfl, mk_upds' (ae rfl ae0), h⟩
    · rw [if_neg hc2] at h
      refine st_off (t := 10) (c := (decide (t6 = t8))) rfl rfl (decide_eq_false hc2) ?_
      refine st_off (t := 10) (c := (decide (t6 = t8))) rfl rfl (decide_eq_false hc2) ?_
      refine st_off (t := 10) (c := (decide (t6 = t8))) rfl rfl (decide_eq_false hc2) ?_
      refine st_off (t := 10) (c := (decide (t6 = t8))) rfl rfl (decide_eq_false hc2) ?_
      refine st_off (t := 10) (c := (decide (t6 = t8))) rfl rfl (decide_eq_false hc2) ?_
      refine st_val (ex_pick0 (b := (decide (t6 = t8))) rfl (decide_eq_false hc2) (v := (.bool false)) rfl) ?_
      refine st_val (ex_move (v := (.bool false)) rfl) ?_
      refine st_off (t := 17) (c := false) rfl rfl (rfl : false = !true) ?_
      refine st_off (t := 17) (c := false) rfl rfl (rfl : false = !true) ?_
      refine st_off (t := 17) (c := false) rfl rfl (rfl : false = !true) ?_
      refine st_off (t := 17) (c := false) rfl rfl (rfl : false = !true) ?_
      refine st_off (t := 17) (c := false) rfl rfl (rfl : false = !true) ?_
      refine st_val (ex_pick0 (b := false) rfl (rfl : false = false) (v := (.bool false)) rfl) ?_
      refine st_val (ex_move (v := (.bool false)) rfl) ?_
      refine st_off (t := 24) (c := false) rfl rfl (rfl : false = !true) ?_
      refine st_off (t := 24) (c := false) rfl rfl (rfl : false = !true) ?_
      refine st_off (t := 24) (c := false) rfl rfl (rfl : false = !true) ?_
      refine st_off (t := 24) (c := false) rfl rfl (rfl : false = !true) ?_
      refine st_off (t := 24) (c := false) rfl rfl (rfl : false = !true) ?_
      refine st_val (ex_pick0 (b := false) rfl (rfl : false = false) (v := (.bool false)) rfl) ?_
      refine st_val (ex_move (v := (.bool false)) rfl) ?_
      refine st_off (t := 31) (c := false) rfl rfl (rfl : false = !true) ?_
      refine st_off (t := 31) (c := false) rfl rfl (rfl : false = !true) ?_
      refine st_off (t := 31) (c := false) rfl rfl (rfl : false = !true) ?_
      refine st_off (t := 31) (c := false) rfl rfl (rfl : false = !true) ?_
      refine st_off (t := 31) (c := false) rfl rfl (rfl : false = !true) ?_
      refine st_val (ex_pick0 (b := false) rfl (rfl : false = false) (v := (.bool false)) rfl) ?_
      refine st_val (ex_move (v := (.bool false)) rfl) ?_
      refine st_off (t := 38) (c := false) rfl rfl (rfl : false = !true) ?_
      refine st_off (t := 38) (c := false) rfl rfl (rfl : false = !true) ?_
      refine st_off (t := 38) (c := false) rfl rfl (rfl : false = !true) ?_
      refine st_off (t := 38) (c := false) rfl rfl (rfl : false = !true) ?_
      refine st_off (t := 38) (c := false) rfl rfl (rfl : false = !true) ?_
      refine st_val (ex_pick0 (b := false) rfl (rfl : false = false) (v := (.bool false)) rfl) ?_
      refine st_val (ex_move (v := (.bool false)) rfl) ?_
      refine st_off (t := 45) (c := false) rfl rfl (rfl : false = !true) ?_
      refine st_off (t := 45) (c := false) rfl rfl (rfl : false = !true) ?_
      refine st_off (t := 45) (c := false) rfl rfl (rfl : false = !true) ?_
      refine st_off (t := 45) (c := false) rfl rfl (rfl : false = !true) ?_
      refine st_off (t := 45) (c := false) rfl rfl (rfl : false = !true) ?_
      refine st_val (ex_pick0 (b := false) rfl (rfl : false = false) (v := (.bool false)) rfl) ?_
      refine st_val (ex_move (v := (.bool false)) rfl) ?_
      refine st_off (t := 52) (c := false) rfl rfl (rfl : false = !true) ?_
      refine st_off (t := 52) (c := false) rfl rfl (rfl : false = !true) ?_
      refine st_off (t := 52) (c := false) rfl rfl (rfl : false = !true) ?_
      refine st_off (t := 52) (c := false) rfl rfl (rfl : false = !true) ?_
      refine st_off (t := 52) (c := false) rfl rfl (rfl : false = !true) ?_
      refine st_val (ex_pick0 (b := false) rfl (rfl : false = false) (v := (.bool false)) rfl) ?_
      refine st_val (ex_assign (v := (.bool false)) rfl) ?_
      refine wl_nil ?_
      exact then_n ⟨false, _, rfl, mk_upds' (ae rfl ae0), h⟩

/-- turnpike/check.of; slots 0:r, 1:r -/
def f63 (t0 : TResource) (R : (TKey) → World → Prop) (w : World) : Prop :=
  New 48 (TResource.cells t0) w fun b1 w =>
  New 113 (TKey.cells (⟨0, ⟨#[]⟩⟩ : TKey)) w fun b2 w =>
  Rn Try.prog (Value.int .i64) (Instr.loadAt 3 (Ptr ((⟨b1, 0, none⟩ : Addr).add 0))) w fun t4 w =>
  Rn Try.prog Value.string (Instr.loadAt 9 (Ptr ((⟨b1, 0, none⟩ : Addr).add 1))) w fun t6 w =>
  RnU Try.prog (Instr.storeAt 113 (Ptr (⟨b2, 0, none⟩ : Addr)) (TKey.v (⟨t4, t6⟩ : TKey))) w fun w =>
  RnR Try.prog TKey.v (loadVar 113 (⟨b2, 0, none⟩ : Addr)) w fun r0 =>
  R r0 w
theorem c63 {t0 : TResource} {R : (TKey) → World → Prop} {w : World} (h : f63 t0 R w) :
    Cal Try.prog TKey.v 63 #[(TResource.v t0)] w R := by
  unfold f63 at h
  refine calls_ Try.func63 Try.ntmps63 rfl rfl ?_
  refine seq_ ?_
  refine region_ ?_
  refine st_new (f := (fun b => Ptr ⟨b, 0, none⟩)) (ex_boxN rfl rfl) h ?_; clear h; intro b1 w h
  refine st_new (f := (fun b => Ptr ⟨b, 0, none⟩)) (ex_allocN zero113 rfl) h ?_; clear h; intro b2 w h
  refine wl_nil ?_
  refine then_n ?_
  refine seq_ ?_
  refine region_ ?_
  refine st_val (ex_fa fa48_0 (p := (⟨b1, 0, none⟩ : Addr)) rfl) ?_
  refine st_rn (fun r => ex_load rfl r) h ?_; clear h; intro t4 w h
  refine st_val (ex_fa fa48_1 (p := (⟨b1, 0, none⟩ : Addr)) rfl) ?_
  refine st_rn (fun r => ex_load rfl r) h ?_; clear h; intro t6 w h
  refine st_val (ex_build (a' := [(0, (.int .i64 t4)), (1, (.string t6))]) (v := TKey.v (⟨t4, t6⟩ : TKey)) rfl (e_build Try.underlying113 zero113 rfl pl113 rfl _)) ?_
  refine st_rnu (fun r => ex_store rfl rfl r) h ?_; clear h; intro w h
  refine wl_nil ?_
  refine then_n ?_
  refine wp_ret ?_
  obtain ⟨r0, hr0, h⟩ := h
  refine ret_c rfl rfl hr0 ⟨r0, rfl, h⟩


end Go.Proofs.Ytdoeegfcmbcbkaa.Tr

