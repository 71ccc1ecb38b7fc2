/- A part of the proof whose last text is YtdoeegfcmbcbkaaCZ4. -/
import Derived.Test.YtdoeegfcmbcbkaaCZ1
import Derived.Lib.Bytealg
import Derived.Maps.RangeRun
import Derived.Laws.MakeOwn
import Derived.Laws.Slices
import Derived.Laws.Strings
set_option linter.all false
namespace Go.Proofs.Ytdoeegfcmbcbkaa.Tr
open Go Go.Eng
set_option linter.unusedVariables false
set_option maxRecDepth 100000
set_option maxHeartbeats 4000000
def f134 (t0 : ByteArray) (t1 : ByteArray) (R : (Int) → World → Prop) (w : World) : Prop :=
 Cal Try.prog (Value.int .i64) 154 #[(.string t0), (.string t1)] w fun t7 w =>
 R t7 w
theorem c134 {t0 : ByteArray} {t1 : ByteArray} {R : (Int) → World → Prop} {w : World} (h : f134 t0 t1 R w) :
  Cal Try.prog (Value.int .i64) 134 #[(.string t0), (.string t1)] w R := by
 unfold f134 at h
 refine calls_ Try.func134 Try.ntmps134 rfl rfl <| seq_ <| region_ <| asg (.int .i64 0) rfl <| wl_nil <| then_n <| seq_ <| region_ <| mv (.string t0) rfl <| mv (.string t1) rfl ?_
 refine st_cal en154 rfl h ?_; clear h; intro t7 w h
 refine asg (.int .i64 t7) rfl <| wl_nil <| then_n <| wp_ret ?_
 refine ret_1 rfl rfl ⟨t7, rfl, h⟩

def f135 (t0 : Sl) (t1 : Int) (t2 : Int) (t3 : Value) (R : (Unit) → World → Prop) (w : World) : Prop :=
 Lp (σ := Int) (fun s1 w n1 =>
  if s1 < t2 then
   Lp (σ := Int) (fun s3 w n3 =>
    Jn (σ := Bool) (fun k4 =>
     Dr w fun w5 w =>
      if t1 < s3 then
       RnP Try.prog Ptr (Instr.indexAt 51 (Sl.v t0) (.int .i64 s3)) fun t25 =>
       RnL Try.prog THost.v (Instr.loadAt 59 (Ptr t25)) w5 fun t26 =>
       RnP Try.prog Ptr (Instr.indexAt 51 (Sl.v t0) (.int .i64 (IntKind.i64.wrap (s3 - 1)))) fun t30 =>
       RnL Try.prog THost.v (Instr.loadAt 59 (Ptr t30)) w5 fun t31 =>
       CalV Try.prog (Value.int .i64) t3 #[(THost.v t26), (THost.v t31)] w fun t32 w =>
       k4 (decide (t32 < 0)) w
      else
       k4 false w
    ) fun s4 w =>
     if s4 = true then
      Dr w fun w8 w =>
       RnP Try.prog Ptr (Instr.indexAt 51 (Sl.v t0) (.int .i64 (IntKind.i64.wrap (s3 - 1)))) fun t45 =>
       RnL Try.prog THost.v (Instr.loadAt 59 (Ptr t45)) w8 fun t46 =>
       RnP Try.prog Ptr (Instr.indexAt 51 (Sl.v t0) (.int .i64 s3)) fun t49 =>
       RnL Try.prog THost.v (Instr.loadAt 59 (Ptr t49)) w8 fun t50 =>
       RnP Try.prog Ptr (Instr.indexAt 51 (Sl.v t0) (.int .i64 s3)) fun t51 =>
       RnU Try.prog (Instr.storeAt 59 (Ptr t51) (THost.v t46)) w fun w =>
       RnP Try.prog Ptr (Instr.indexAt 51 (Sl.v t0) (.int .i64 (IntKind.i64.wrap (s3 - 1)))) fun t52 =>
       RnU Try.prog (Instr.storeAt 59 (Ptr t52) (THost.v t50)) w fun w =>
       n3 (IntKind.i64.wrap (s3 - 1)) w
     else
      n1 (IntKind.i64.wrap (s1 + 1)) w
   ) s1 w
  else
   R () w
 ) (IntKind.i64.wrap (t1 + 1)) w
theorem c135 {t0 : Sl} {t1 : Int} {t2 : Int} {t3 : Value} {R : (Unit) → World → Prop} {w : World} (h : f135 t0 t1 t2 t3 R w) :
  Cal Try.prog (fun _ : Unit => Value.tuple #[]) 135 #[(Sl.v t0), (.int .i64 t1), (.int .i64 t2), t3] w R := by
 unfold f135 at h
 refine calls_ Try.func135 Try.ntmps135 rfl rfl <| seq_ <| region_ <| mv (.int .i64 t1) rfl <| st_val (ex_add (a := t1) (b := 1) rfl rfl) <| asg (.int .i64 (IntKind.i64.wrap (t1 + 1))) rfl <| wl_nil <| then_n <| wp_block <| wp_lp (σ := Int) (fun s1 a => ∃ j, a = F 53 (upds j [(0, (Sl.v t0)), (1, (.int .i64 t1)), (2, (.int .i64 t2)), (3, t3), (8, (.int .i64 s1))])) h (mk_upds (ae rfl (ae rfl (ae rfl (ae rfl (ae rfl ae0)))))) ?_
 clear h; rintro s1 _ w n1 ⟨j, rfl⟩ h
 refine seq_ <| seq_ <| region_ <| mv (.int .i64 s1) rfl <| mv (.int .i64 t2) rfl <| st_val (ex_lss (a := s1) (b := t2) rfl rfl) <| wl_nil <| then_n ?_
 by_cases hc2 : s1 < t2
 ·rw [if_pos hc2] at h; refine cond_1 (b := (decide (s1 < t2))) rfl (decide_eq_true hc2) ?_
  refine wp_skip <| then_n <| seq_ <| wp_block <| seq_ <| region_ <| mv (.int .i64 s1) rfl <| asg (.int .i64 s1) rfl <| wl_nil <| then_n ?_
  refine wp_block <| wp_lp (σ := Int) (fun s3 a => ∃ j, a = F 53 (upds j [(0, (Sl.v t0)), (1, (.int .i64 t1)), (2, (.int .i64 t2)), (3, t3), (8, (.int .i64 s1)), (9, (.int .i64 s3))])) h (mk_upds (ae rfl (ae rfl (ae rfl (ae rfl (ae rfl (ae rfl ae0))))))) ?_
  clear h; rintro s3 _ w n3 ⟨j, rfl⟩ h
  refine seq_ ?_
  refine wp_jn (σ := Bool) (fun s4 l => ∃ j, l = upds j [(0, (Sl.v t0)), (1, (.int .i64 t1)), (2, (.int .i64 t2)), (3, t3), (8, (.int .i64 s1)), (9, (.int .i64 s3)), (34, (.bool s4))]) h ?_ ?_
  ·clear h; rintro s4 _ w ⟨j, rfl⟩ h
   by_cases hc7 : s4 = true
   ·rw [if_pos hc7] at h; refine cond_1 (b := s4) rfl hc7 ?_
    refine wp_skip <| then_n <| seq_ <| wp_block ?_
    refine dr_begin mixed [15, 17] (listed := #[false, false, false, false, false, false, false, false, false, false, false, false, false, false, false, false, false, false]) rfl (n := 18) rfl h ?_; clear h; intro w8 h
    have hE : Ext w8 w8 := Ext.refl _
    refine tP 0 rfl (fun _ => hE) (fun _ => ex_move (v := (Sl.v t0)) rfl) <| tP 1 rfl (fun _ => hE) (fun _ => ex_move (v := (.int .i64 s3)) rfl) <| tP 2 rfl (fun _ => hE) (fun _ => ex_move (v := (Sl.v t0)) rfl) <| tP 3 rfl (fun _ => hE) (fun _ => ex_move (v := (.int .i64 s3)) rfl) <| tP 4 rfl (fun _ => hE) (fun _ => ex_sub (a := s3) (b := 1) rfl rfl) <| tP 5 rfl (fun _ => hE) (fun _ => ex_move (v := (Sl.v t0)) rfl) <| tP 6 rfl (fun _ => hE) (fun _ => ex_move (v := (.int .i64 s3)) rfl) <| tP 7 rfl (fun _ => hE) (fun _ => ex_sub (a := s3) (b := 1) rfl rfl) ?_
    obtain ⟨t45, ht45, h⟩ := h
    refine tP 8 rfl (fun _ => hE) (fun _ => (fun r => ex_indexAddr rfl rfl r) (ht45 _)) ?_
    obtain ⟨t46, ht46, h⟩ := h
    refine tK 9 rfl hE (fun _ hw => (fun r => ex_load rfl r) (ht46 _ hw)) <| tP 10 rfl (fun _ => hE) (fun _ => ex_move (v := (Sl.v t0)) rfl) <| tP 11 rfl (fun _ => hE) (fun _ => ex_move (v := (.int .i64 s3)) rfl) ?_
    obtain ⟨t49, ht49, h⟩ := h
    refine tP 12 rfl (fun _ => hE) (fun _ => (fun r => ex_indexAddr rfl rfl r) (ht49 _)) ?_
    obtain ⟨t50, ht50, h⟩ := h
    refine tK 13 rfl hE (fun _ hw => (fun r => ex_load rfl r) (ht50 _ hw)) ?_
    obtain ⟨t51, ht51, h⟩ := h
    refine tP 14 rfl (fun _ => hE) (fun _ => (fun r => ex_indexAddr rfl rfl r) (ht51 _)) <| dr_only (i := 15) (by kernel_rfl) rfl rfl ?_
    refine o_rnu (fun r => ex_store rfl rfl r) h ?_; clear h; intro w h; refine ⟨noG (by kernel_rfl), ?_⟩
    obtain ⟨t52, ht52, h⟩ := h
    refine tP 16 rfl (noG (by kernel_rfl)) (fun _ => (fun r => ex_indexAddr rfl rfl r) (ht52 _)) <| dr_only (i := 17) (by kernel_rfl) rfl rfl ?_
    refine o_rnu (fun r => ex_store rfl rfl r) h ?_; clear h; intro w h; refine ⟨noG (by kernel_rfl), ?_⟩
    refine dr_end (by kernel_rfl) <| inb_n <| then_n <| region_ <| mv (.int .i64 s3) rfl <| st_val (ex_sub (a := s3) (b := 1) rfl rfl) <| asg (.int .i64 (IntKind.i64.wrap (s3 - 1))) rfl <| wl_nil ?_
    exact then_n ⟨(IntKind.i64.wrap (s3 - 1)), mk_upds (ae rfl (ae rfl (ae rfl (ae rfl (ae rfl (ae rfl ae0)))))), h⟩
   ·rw [if_neg hc7] at h; refine cond_0 (b := s4) rfl (Bool.eq_false_iff.2 hc7) ?_
    refine wp_exit <| then_e <| then_e <| inb_e <| inb_n <| then_n <| region_ <| mv (.int .i64 s1) rfl <| st_val (ex_add (a := s1) (b := 1) rfl rfl) <| asg (.int .i64 (IntKind.i64.wrap (s1 + 1))) rfl ?_
    refine wl_nil ?_
    exact then_n ⟨(IntKind.i64.wrap (s1 + 1)), mk_upds (ae rfl (ae rfl (ae rfl (ae rfl (ae rfl ae0))))), h⟩
  ·clear h; intro k4 h
   refine dr_begin mixed [14] (listed := #[false, false, false, false, false, false, false, false, false, false, false, false, false, false, false, false, false]) rfl (n := 17) rfl h ?_; clear h; intro w5 h
   have hE : Ext w5 w5 := Ext.refl _
   refine tP 0 rfl (fun _ => hE) (fun _ => ex_move (v := (.int .i64 s3)) rfl) <| tP 1 rfl (fun _ => hE) (fun _ => ex_move (v := (.int .i64 t1)) rfl) <| tP 2 rfl (fun _ => hE) (fun _ => ex_gtr (a := s3) (b := t1) rfl rfl) <| tP 3 rfl (fun _ => hE) (fun _ => ex_move (v := (.bool (decide (t1 < s3)))) rfl) ?_
   by_cases hc6 : t1 < s3
   ·rw [if_pos hc6] at h
    refine tPo 4 21 rfl (decide_eq_true hc6) rfl rfl (fun _ => hE) (fun _ => ex_move (v := t3) rfl) <| tPo 5 21 rfl (decide_eq_true hc6) rfl rfl (fun _ => hE) (fun _ => ex_move (v := (Sl.v t0)) rfl) <| tPo 6 21 rfl (decide_eq_true hc6) rfl rfl (fun _ => hE) (fun _ => ex_move (v := (.int .i64 s3)) rfl) ?_
    obtain ⟨t25, ht25, h⟩ := h
    refine tPo 7 21 rfl (decide_eq_true hc6) rfl rfl (fun _ => hE) (fun _ => (fun r => ex_indexAddr rfl rfl r) (ht25 _)) ?_
    obtain ⟨t26, ht26, h⟩ := h
    refine tKo 8 21 rfl (decide_eq_true hc6) rfl rfl hE (fun _ hw => (fun r => ex_load rfl r) (ht26 _ hw)) <| tPo 9 21 rfl (decide_eq_true hc6) rfl rfl (fun _ => hE) (fun _ => ex_move (v := (Sl.v t0)) rfl) <| tPo 10 21 rfl (decide_eq_true hc6) rfl rfl (fun _ => hE) (fun _ => ex_move (v := (.int .i64 s3)) rfl) <| tPo 11 21 rfl (decide_eq_true hc6) rfl rfl (fun _ => hE) (fun _ => ex_sub (a := s3) (b := 1) rfl rfl) ?_
    obtain ⟨t30, ht30, h⟩ := h
    refine tPo 12 21 rfl (decide_eq_true hc6) rfl rfl (fun _ => hE) (fun _ => (fun r => ex_indexAddr rfl rfl r) (ht30 _)) ?_
    obtain ⟨t31, ht31, h⟩ := h
    refine tKo 13 21 rfl (decide_eq_true hc6) rfl rfl hE (fun _ hw => (fun r => ex_load rfl r) (ht31 _ hw)) <| dr_only_on (i := 14) (t := 21) (c := (decide (t1 < s3))) (by kernel_rfl) rfl rfl rfl (decide_eq_true hc6) ?_
    refine o_calv rfl rfl h ?_; clear h; intro t32 w h; refine ⟨noG (by kernel_rfl), ?_⟩
    refine tPo 15 21 rfl (decide_eq_true hc6) rfl rfl (noG (by kernel_rfl)) (fun _ => ex_lss (a := t32) (b := 0) rfl rfl) <| tP 16 rfl (noG (by kernel_rfl)) (fun _ => ex_pick1 (b := (decide (t1 < s3))) rfl (decide_eq_true hc6) (v := (.bool (decide (t32 < 0)))) rfl) <| dr_end (by kernel_rfl) ?_
    exact then_n ⟨(decide (t32 < 0)), _, rfl, mk_upds' (ae rfl (ae rfl (ae rfl (ae rfl (ae rfl (ae rfl (ae rfl ae0))))))), h⟩
   ·rw [if_neg hc6] at h
    refine tF 4 21 rfl (decide_eq_false hc6) rfl rfl (fun _ => hE) <| tF 5 21 rfl (decide_eq_false hc6) rfl rfl (fun _ => hE) <| tF 6 21 rfl (decide_eq_false hc6) rfl rfl (fun _ => hE) <| tF 7 21 rfl (decide_eq_false hc6) rfl rfl (fun _ => hE) <| tF 8 21 rfl (decide_eq_false hc6) rfl rfl (fun _ => hE) <| tF 9 21 rfl (decide_eq_false hc6) rfl rfl (fun _ => hE) <| tF 10 21 rfl (decide_eq_false hc6) rfl rfl (fun _ => hE) <| tF 11 21 rfl (decide_eq_false hc6) rfl rfl (fun _ => hE) <| tF 12 21 rfl (decide_eq_false hc6) rfl rfl (fun _ => hE) <| tF 13 21 rfl (decide_eq_false hc6) rfl rfl (fun _ => hE) ?_
    refine dr_only_off (i := 14) (t := 21) (c := (decide (t1 < s3))) (by kernel_rfl) rfl rfl rfl (decide_eq_false hc6) (fun _ => hE) <| tF 15 21 rfl (decide_eq_false hc6) rfl rfl (noG (by kernel_rfl)) <| tP 16 rfl (noG (by kernel_rfl)) (fun _ => ex_pick0 (b := (decide (t1 < s3))) rfl (decide_eq_false hc6) (v := (.bool false)) rfl) <| dr_end (by kernel_rfl) ?_
    exact then_n ⟨false, _, rfl, mk_upds' (ae rfl (ae rfl (ae rfl (ae rfl (ae rfl (ae rfl (ae rfl ae0))))))), h⟩
 ·rw [if_neg hc2] at h; refine cond_0 (b := (decide (s1 < t2))) rfl (decide_eq_false hc2) ?_
  refine wp_exit <| then_e <| then_e <| inb_e ?_
  refine end_0 rfl ⟨(), rfl, h⟩

def f136 (t0 : Sl) (t1 : Int) (t2 : Int) (t3 : Int) (t4 : Value) (R : (Unit) → World → Prop) (w : World) : Prop :=
 if (IntKind.i64.wrap (t2 - t1)) = 1 then
  Lp (σ := Int × Int) (fun s2 w n2 =>
   if s2.1 < s2.2 then
    RnP Try.prog (Value.int .u64) (binOp .shr 184 (.int .u64 (IntKind.u64.wrap (IntKind.i64.wrap (s2.1 + s2.2)))) (.int .u64 1)) fun t38 =>
    Dr w fun w4 w =>
     RnP Try.prog Ptr (Instr.indexAt 51 (Sl.v t0) (.int .i64 (IntKind.i64.wrap t38))) fun t43 =>
     RnL Try.prog THost.v (Instr.loadAt 59 (Ptr t43)) w4 fun t44 =>
     RnP Try.prog Ptr (Instr.indexAt 51 (Sl.v t0) (.int .i64 t1)) fun t47 =>
     RnL Try.prog THost.v (Instr.loadAt 59 (Ptr t47)) w4 fun t48 =>
     CalV Try.prog (Value.int .i64) t4 #[(THost.v t44), (THost.v t48)] w fun t49 w =>
     if t49 < 0 then
      n2 ((IntKind.i64.wrap ((IntKind.i64.wrap t38) + 1)), s2.2) w
     else
      n2 (s2.1, (IntKind.i64.wrap t38)) w
   else
    Lp (σ := Int) (fun s6 w n6 =>
     if s6 < (IntKind.i64.wrap (s2.1 - 1)) then
      Dr w fun w8 w =>
       RnP Try.prog Ptr (Instr.indexAt 51 (Sl.v t0) (.int .i64 (IntKind.i64.wrap (s6 + 1)))) fun t69 =>
       RnL Try.prog THost.v (Instr.loadAt 59 (Ptr t69)) w8 fun t70 =>
       RnP Try.prog Ptr (Instr.indexAt 51 (Sl.v t0) (.int .i64 s6)) fun t73 =>
       RnL Try.prog THost.v (Instr.loadAt 59 (Ptr t73)) w8 fun t74 =>
       RnP Try.prog Ptr (Instr.indexAt 51 (Sl.v t0) (.int .i64 s6)) fun t75 =>
       RnU Try.prog (Instr.storeAt 59 (Ptr t75) (THost.v t70)) w fun w =>
       RnP Try.prog Ptr (Instr.indexAt 51 (Sl.v t0) (.int .i64 (IntKind.i64.wrap (s6 + 1)))) fun t76 =>
       RnU Try.prog (Instr.storeAt 59 (Ptr t76) (THost.v t74)) w fun w =>
       n6 (IntKind.i64.wrap (s6 + 1)) w
     else
      R () w
    ) t1 w
  ) (t2, t3) w
 else
  if (IntKind.i64.wrap (t3 - t2)) = 1 then
   Lp (σ := Int × Int) (fun s10 w n10 =>
    if s10.1 < s10.2 then
     RnP Try.prog (Value.int .u64) (binOp .shr 184 (.int .u64 (IntKind.u64.wrap (IntKind.i64.wrap (s10.1 + s10.2)))) (.int .u64 1)) fun t90 =>
     Dr w fun w12 w =>
      RnP Try.prog Ptr (Instr.indexAt 51 (Sl.v t0) (.int .i64 t2)) fun t95 =>
      RnL Try.prog THost.v (Instr.loadAt 59 (Ptr t95)) w12 fun t96 =>
      RnP Try.prog Ptr (Instr.indexAt 51 (Sl.v t0) (.int .i64 (IntKind.i64.wrap t90))) fun t99 =>
      RnL Try.prog THost.v (Instr.loadAt 59 (Ptr t99)) w12 fun t100 =>
      CalV Try.prog (Value.int .i64) t4 #[(THost.v t96), (THost.v t100)] w fun t101 w =>
      if (!(decide (t101 < 0))) = true then
       n10 ((IntKind.i64.wrap ((IntKind.i64.wrap t90) + 1)), s10.2) w
      else
       n10 (s10.1, (IntKind.i64.wrap t90)) w
    else
     Lp (σ := Int) (fun s14 w n14 =>
      if s10.1 < s14 then
       Dr w fun w16 w =>
        RnP Try.prog Ptr (Instr.indexAt 51 (Sl.v t0) (.int .i64 (IntKind.i64.wrap (s14 - 1)))) fun t121 =>
        RnL Try.prog THost.v (Instr.loadAt 59 (Ptr t121)) w16 fun t122 =>
        RnP Try.prog Ptr (Instr.indexAt 51 (Sl.v t0) (.int .i64 s14)) fun t125 =>
        RnL Try.prog THost.v (Instr.loadAt 59 (Ptr t125)) w16 fun t126 =>
        RnP Try.prog Ptr (Instr.indexAt 51 (Sl.v t0) (.int .i64 s14)) fun t127 =>
        RnU Try.prog (Instr.storeAt 59 (Ptr t127) (THost.v t122)) w fun w =>
        RnP Try.prog Ptr (Instr.indexAt 51 (Sl.v t0) (.int .i64 (IntKind.i64.wrap (s14 - 1)))) fun t128 =>
        RnU Try.prog (Instr.storeAt 59 (Ptr t128) (THost.v t126)) w fun w =>
        n14 (IntKind.i64.wrap (s14 - 1)) w
      else
       R () w
     ) t2 w
   ) (t1, t2) w
  else
   RnP Try.prog (Value.int .u64) (binOp .shr 184 (.int .u64 (IntKind.u64.wrap (IntKind.i64.wrap (t1 + t3)))) (.int .u64 1)) fun t133 =>
   Jn (σ := Int × Int) (fun k17 =>
    if (IntKind.i64.wrap t133) < t2 then
     k17 ((IntKind.i64.wrap ((IntKind.i64.wrap ((IntKind.i64.wrap t133) + t2)) - t3)), (IntKind.i64.wrap t133)) w
    else
     k17 (t1, t2) w
   ) fun s17 w =>
    Lp (σ := Int × Int) (fun s19 w n19 =>
     if s19.1 < s19.2 then
      RnP Try.prog (Value.int .u64) (binOp .shr 184 (.int .u64 (IntKind.u64.wrap (IntKind.i64.wrap (s19.1 + s19.2)))) (.int .u64 1)) fun t156 =>
      Dr w fun w21 w =>
       RnP Try.prog Ptr (Instr.indexAt 51 (Sl.v t0) (.int .i64 (IntKind.i64.wrap ((IntKind.i64.wrap ((IntKind.i64.wrap ((IntKind.i64.wrap t133) + t2)) - 1)) - (IntKind.i64.wrap t156))))) fun t163 =>
       RnL Try.prog THost.v (Instr.loadAt 59 (Ptr t163)) w21 fun t164 =>
       RnP Try.prog Ptr (Instr.indexAt 51 (Sl.v t0) (.int .i64 (IntKind.i64.wrap t156))) fun t167 =>
       RnL Try.prog THost.v (Instr.loadAt 59 (Ptr t167)) w21 fun t168 =>
       CalV Try.prog (Value.int .i64) t4 #[(THost.v t164), (THost.v t168)] w fun t169 w =>
       if (!(decide (t169 < 0))) = true then
        n19 ((IntKind.i64.wrap ((IntKind.i64.wrap t156) + 1)), s19.2) w
       else
        n19 (s19.1, (IntKind.i64.wrap t156)) w
     else
      Jn (σ := Unit) (fun k23 =>
       Jn (σ := Bool) (fun k24 =>
        if s19.1 < t2 then
         k24 (decide (t2 < (IntKind.i64.wrap ((IntKind.i64.wrap ((IntKind.i64.wrap t133) + t2)) - s19.1)))) w
        else
         k24 false w
       ) fun s24 w =>
        if s24 = true then
         Cal Try.prog (fun _ : Unit => Value.tuple #[]) 155 #[(Sl.v t0), (.int .i64 s19.1), (.int .i64 t2), (.int .i64 (IntKind.i64.wrap ((IntKind.i64.wrap ((IntKind.i64.wrap t133) + t2)) - s19.1))), t4] w fun t191 w =>
         k23 () w
        else
         k23 () w
      ) fun s23 w =>
       Jn (σ := Unit) (fun k27 =>
        Jn (σ := Bool) (fun k28 =>
         if t1 < s19.1 then
          k28 (decide (s19.1 < (IntKind.i64.wrap t133))) w
         else
          k28 false w
        ) fun s28 w =>
         if s28 = true then
          Cal Try.prog (fun _ : Unit => Value.tuple #[]) 136 #[(Sl.v t0), (.int .i64 t1), (.int .i64 s19.1), (.int .i64 (IntKind.i64.wrap t133)), t4] w fun t205 w =>
          k27 () w
         else
          k27 () w
       ) fun s27 w =>
        Jn (σ := Bool) (fun k31 =>
         if (IntKind.i64.wrap t133) < (IntKind.i64.wrap ((IntKind.i64.wrap ((IntKind.i64.wrap t133) + t2)) - s19.1)) then
          k31 (decide ((IntKind.i64.wrap ((IntKind.i64.wrap ((IntKind.i64.wrap t133) + t2)) - s19.1)) < t3)) w
         else
          k31 false w
        ) fun s31 w =>
         if s31 = true then
          Cal Try.prog (fun _ : Unit => Value.tuple #[]) 136 #[(Sl.v t0), (.int .i64 (IntKind.i64.wrap t133)), (.int .i64 (IntKind.i64.wrap ((IntKind.i64.wrap ((IntKind.i64.wrap t133) + t2)) - s19.1))), (.int .i64 t3), t4] w fun t219 w =>
          R () w
         else
          R () w
    ) (s17.1, s17.2) w
theorem c136 {t0 : Sl} {t1 : Int} {t2 : Int} {t3 : Int} {t4 : Value} {R : (Unit) → World → Prop} {w : World} (h : f136 t0 t1 t2 t3 t4 R w) :
  Cal Try.prog (fun _ : Unit => Value.tuple #[]) 136 #[(Sl.v t0), (.int .i64 t1), (.int .i64 t2), (.int .i64 t3), t4] w R := by
 unfold f136 at h
 refine calls_ Try.func136 Try.ntmps136 rfl rfl <| seq_ <| seq_ <| region_ <| mv (.int .i64 t2) rfl <| mv (.int .i64 t1) rfl <| st_val (ex_sub (a := t2) (b := t1) rfl rfl) <| st_val (ex_eql (a := (IntKind.i64.wrap (t2 - t1))) (b := 1) rfl rfl) <| wl_nil <| then_n ?_
 by_cases hc1 : (IntKind.i64.wrap (t2 - t1)) = 1
 ·rw [if_pos hc1] at h; refine cond_1 (b := (decide ((IntKind.i64.wrap (t2 - t1)) = 1))) rfl (decide_eq_true hc1) ?_
  refine seq_ <| region_ <| mv (.int .i64 t2) rfl <| asg (.int .i64 t2) rfl <| wl_nil <| then_n <| seq_ <| region_ <| mv (.int .i64 t3) rfl <| asg (.int .i64 t3) rfl ?_
  refine wl_nil <| then_n <| seq_ <| wp_block <| wp_lp (σ := Int × Int) (fun s2 a => ∃ j, a = F 220 (upds j [(0, (Sl.v t0)), (1, (.int .i64 t1)), (4, t4), (10, (.int .i64 s2.1)), (11, (.int .i64 s2.2))])) h (mk_upds (ae rfl (ae rfl (ae rfl (ae rfl (ae rfl ae0)))))) ?_
  clear h; rintro s2 _ w n2 ⟨j, rfl⟩ h
  refine seq_ <| seq_ <| region_ <| mv (.int .i64 s2.1) rfl <| mv (.int .i64 s2.2) rfl <| st_val (ex_lss (a := s2.1) (b := s2.2) rfl rfl) <| wl_nil <| then_n ?_
  by_cases hc3 : s2.1 < s2.2
  ·rw [if_pos hc3] at h; refine cond_1 (b := (decide (s2.1 < s2.2))) rfl (decide_eq_true hc3) ?_
   refine wp_skip <| then_n <| wp_block <| seq_ <| region_ <| mv (.int .i64 s2.1) rfl <| mv (.int .i64 s2.2) rfl <| st_val (ex_add (a := s2.1) (b := s2.2) rfl rfl) <| st_val (ex_convI (n := (IntKind.i64.wrap (s2.1 + s2.2))) Try.underlying3 Try.underlying184 rfl) ?_
   refine st_rnp (fun r => ex_binI (a := (IntKind.u64.wrap (IntKind.i64.wrap (s2.1 + s2.2)))) (b := 1) rfl rfl r) h ?_; clear h; intro t38 h
   refine st_val (ex_convI (n := t38) Try.underlying184 Try.underlying3 rfl) <| asg (.int .i64 (IntKind.i64.wrap t38)) rfl <| wl_nil <| then_n <| seq_ ?_
   refine dr_begin mixed [9] (listed := #[false, false, false, false, false, false, false, false, false, false, false]) rfl (n := 11) rfl h ?_; clear h; intro w4 h
   have hE : Ext w4 w4 := Ext.refl _
   refine tP 0 rfl (fun _ => hE) (fun _ => ex_move (v := t4) rfl) <| tP 1 rfl (fun _ => hE) (fun _ => ex_move (v := (Sl.v t0)) rfl) <| tP 2 rfl (fun _ => hE) (fun _ => ex_move (v := (.int .i64 (IntKind.i64.wrap t38))) rfl) ?_
   obtain ⟨t43, ht43, h⟩ := h
   refine tP 3 rfl (fun _ => hE) (fun _ => (fun r => ex_indexAddr rfl rfl r) (ht43 _)) ?_
   obtain ⟨t44, ht44, h⟩ := h
   refine tK 4 rfl hE (fun _ hw => (fun r => ex_load rfl r) (ht44 _ hw)) <| tP 5 rfl (fun _ => hE) (fun _ => ex_move (v := (Sl.v t0)) rfl) <| tP 6 rfl (fun _ => hE) (fun _ => ex_move (v := (.int .i64 t1)) rfl) ?_
   obtain ⟨t47, ht47, h⟩ := h
   refine tP 7 rfl (fun _ => hE) (fun _ => (fun r => ex_indexAddr rfl rfl r) (ht47 _)) ?_
   obtain ⟨t48, ht48, h⟩ := h
   refine tK 8 rfl hE (fun _ hw => (fun r => ex_load rfl r) (ht48 _ hw)) <| dr_only (i := 9) (by kernel_rfl) rfl rfl ?_
   refine o_calv rfl rfl h ?_; clear h; intro t49 w h; refine ⟨noG (by kernel_rfl), ?_⟩
   refine tP 10 rfl (noG (by kernel_rfl)) (fun _ => ex_lss (a := t49) (b := 0) rfl rfl) <| dr_end (by kernel_rfl) <| then_n ?_
   by_cases hc5 : t49 < 0
   ·rw [if_pos hc5] at h; refine cond_1 (b := (decide (t49 < 0))) rfl (decide_eq_true hc5) ?_
    refine region_ <| mv (.int .i64 (IntKind.i64.wrap t38)) rfl <| st_val (ex_add (a := (IntKind.i64.wrap t38)) (b := 1) rfl rfl) <| asg (.int .i64 (IntKind.i64.wrap ((IntKind.i64.wrap t38) + 1))) rfl <| wl_nil <| inb_n ?_
    exact then_n ⟨((IntKind.i64.wrap ((IntKind.i64.wrap t38) + 1)), s2.2), mk_upds (ae rfl (ae rfl (ae rfl (ae rfl (ae rfl ae0))))), h⟩
   ·rw [if_neg hc5] at h; refine cond_0 (b := (decide (t49 < 0))) rfl (decide_eq_false hc5) ?_
    refine region_ <| mv (.int .i64 (IntKind.i64.wrap t38)) rfl <| asg (.int .i64 (IntKind.i64.wrap t38)) rfl <| wl_nil <| inb_n ?_
    exact then_n ⟨(s2.1, (IntKind.i64.wrap t38)), mk_upds (ae rfl (ae rfl (ae rfl (ae rfl (ae rfl ae0))))), h⟩
  ·rw [if_neg hc3] at h; refine cond_0 (b := (decide (s2.1 < s2.2))) rfl (decide_eq_false hc3) ?_
   refine wp_exit <| then_e <| then_e <| inb_e <| then_n <| seq_ <| seq_ <| region_ <| mv (.int .i64 t1) rfl <| asg (.int .i64 t1) rfl ?_
   refine wl_nil <| then_n <| wp_block <| wp_lp (σ := Int) (fun s6 a => ∃ j, a = F 220 (upds j [(0, (Sl.v t0)), (10, (.int .i64 s2.1)), (13, (.int .i64 s6))])) h (mk_upds (ae rfl (ae rfl (ae rfl ae0)))) ?_
   clear h; rintro s6 _ w n6 ⟨j, rfl⟩ h
   refine seq_ <| seq_ <| region_ <| mv (.int .i64 s6) rfl <| mv (.int .i64 s2.1) rfl <| st_val (ex_sub (a := s2.1) (b := 1) rfl rfl) <| st_val (ex_lss (a := s6) (b := (IntKind.i64.wrap (s2.1 - 1))) rfl rfl) <| wl_nil <| then_n ?_
   by_cases hc7 : s6 < (IntKind.i64.wrap (s2.1 - 1))
   ·rw [if_pos hc7] at h; refine cond_1 (b := (decide (s6 < (IntKind.i64.wrap (s2.1 - 1))))) rfl (decide_eq_true hc7) ?_
    refine wp_skip <| then_n <| seq_ <| wp_block ?_
    refine dr_begin mixed [15, 17] (listed := #[false, false, false, false, false, false, false, false, false, false, false, false, false, false, false, false, false, false]) rfl (n := 18) rfl h ?_; clear h; intro w8 h
    have hE : Ext w8 w8 := Ext.refl _
    refine tP 0 rfl (fun _ => hE) (fun _ => ex_move (v := (Sl.v t0)) rfl) <| tP 1 rfl (fun _ => hE) (fun _ => ex_move (v := (.int .i64 s6)) rfl) <| tP 2 rfl (fun _ => hE) (fun _ => ex_move (v := (Sl.v t0)) rfl) <| tP 3 rfl (fun _ => hE) (fun _ => ex_move (v := (.int .i64 s6)) rfl) <| tP 4 rfl (fun _ => hE) (fun _ => ex_add (a := s6) (b := 1) rfl rfl) <| tP 5 rfl (fun _ => hE) (fun _ => ex_move (v := (Sl.v t0)) rfl) <| tP 6 rfl (fun _ => hE) (fun _ => ex_move (v := (.int .i64 s6)) rfl) <| tP 7 rfl (fun _ => hE) (fun _ => ex_add (a := s6) (b := 1) rfl rfl) ?_
    obtain ⟨t69, ht69, h⟩ := h
    refine tP 8 rfl (fun _ => hE) (fun _ => (fun r => ex_indexAddr rfl rfl r) (ht69 _)) ?_
    obtain ⟨t70, ht70, h⟩ := h
    refine tK 9 rfl hE (fun _ hw => (fun r => ex_load rfl r) (ht70 _ hw)) <| tP 10 rfl (fun _ => hE) (fun _ => ex_move (v := (Sl.v t0)) rfl) <| tP 11 rfl (fun _ => hE) (fun _ => ex_move (v := (.int .i64 s6)) rfl) ?_
    obtain ⟨t73, ht73, h⟩ := h
    refine tP 12 rfl (fun _ => hE) (fun _ => (fun r => ex_indexAddr rfl rfl r) (ht73 _)) ?_
    obtain ⟨t74, ht74, h⟩ := h
    refine tK 13 rfl hE (fun _ hw => (fun r => ex_load rfl r) (ht74 _ hw)) ?_
    obtain ⟨t75, ht75, h⟩ := h
    refine tP 14 rfl (fun _ => hE) (fun _ => (fun r => ex_indexAddr rfl rfl r) (ht75 _)) <| dr_only (i := 15) (by kernel_rfl) rfl rfl ?_
    refine o_rnu (fun r => ex_store rfl rfl r) h ?_; clear h; intro w h; refine ⟨noG (by kernel_rfl), ?_⟩
    obtain ⟨t76, ht76, h⟩ := h
    refine tP 16 rfl (noG (by kernel_rfl)) (fun _ => (fun r => ex_indexAddr rfl rfl r) (ht76 _)) <| dr_only (i := 17) (by kernel_rfl) rfl rfl ?_
    refine o_rnu (fun r => ex_store rfl rfl r) h ?_; clear h; intro w h; refine ⟨noG (by kernel_rfl), ?_⟩
    refine dr_end (by kernel_rfl) <| inb_n <| then_n <| region_ <| mv (.int .i64 s6) rfl <| st_val (ex_add (a := s6) (b := 1) rfl rfl) <| asg (.int .i64 (IntKind.i64.wrap (s6 + 1))) rfl <| wl_nil ?_
    exact then_n ⟨(IntKind.i64.wrap (s6 + 1)), mk_upds (ae rfl (ae rfl (ae rfl ae0))), h⟩
   ·rw [if_neg hc7] at h; refine cond_0 (b := (decide (s6 < (IntKind.i64.wrap (s2.1 - 1))))) rfl (decide_eq_false hc7) ?_
    refine wp_exit <| then_e <| then_e <| inb_e <| then_n <| wp_ret <| then_r ?_
    refine ret_0 rfl ⟨(), rfl, h⟩
 ·rw [if_neg hc1] at h; refine cond_0 (b := (decide ((IntKind.i64.wrap (t2 - t1)) = 1))) rfl (decide_eq_false hc1) ?_
  refine wp_skip <| then_n <| seq_ <| seq_ <| region_ <| mv (.int .i64 t3) rfl <| mv (.int .i64 t2) rfl <| st_val (ex_sub (a := t3) (b := t2) rfl rfl) <| st_val (ex_eql (a := (IntKind.i64.wrap (t3 - t2))) (b := 1) rfl rfl) <| wl_nil ?_
  refine then_n ?_
  by_cases hc9 : (IntKind.i64.wrap (t3 - t2)) = 1
  ·rw [if_pos hc9] at h; refine cond_1 (b := (decide ((IntKind.i64.wrap (t3 - t2)) = 1))) rfl (decide_eq_true hc9) ?_
   refine seq_ <| region_ <| mv (.int .i64 t1) rfl <| asg (.int .i64 t1) rfl <| wl_nil <| then_n <| seq_ <| region_ <| mv (.int .i64 t2) rfl <| asg (.int .i64 t2) rfl ?_
   refine wl_nil <| then_n <| seq_ <| wp_block <| wp_lp (σ := Int × Int) (fun s10 a => ∃ j, a = F 220 (upds j [(0, (Sl.v t0)), (2, (.int .i64 t2)), (4, t4), (14, (.int .i64 s10.1)), (15, (.int .i64 s10.2))])) h (mk_upds (ae rfl (ae rfl (ae rfl (ae rfl (ae rfl ae0)))))) ?_
   clear h; rintro s10 _ w n10 ⟨j, rfl⟩ h
   refine seq_ <| seq_ <| region_ <| mv (.int .i64 s10.1) rfl <| mv (.int .i64 s10.2) rfl <| st_val (ex_lss (a := s10.1) (b := s10.2) rfl rfl) <| wl_nil <| then_n ?_
   by_cases hc11 : s10.1 < s10.2
   ·rw [if_pos hc11] at h; refine cond_1 (b := (decide (s10.1 < s10.2))) rfl (decide_eq_true hc11) ?_
    refine wp_skip <| then_n <| wp_block <| seq_ <| region_ <| mv (.int .i64 s10.1) rfl <| mv (.int .i64 s10.2) rfl <| st_val (ex_add (a := s10.1) (b := s10.2) rfl rfl) <| st_val (ex_convI (n := (IntKind.i64.wrap (s10.1 + s10.2))) Try.underlying3 Try.underlying184 rfl) ?_
    refine st_rnp (fun r => ex_binI (a := (IntKind.u64.wrap (IntKind.i64.wrap (s10.1 + s10.2)))) (b := 1) rfl rfl r) h ?_; clear h; intro t90 h
    refine st_val (ex_convI (n := t90) Try.underlying184 Try.underlying3 rfl) <| asg (.int .i64 (IntKind.i64.wrap t90)) rfl <| wl_nil <| then_n <| seq_ ?_
    refine dr_begin mixed [9] (listed := #[false, false, false, false, false, false, false, false, false, false, false, false]) rfl (n := 12) rfl h ?_; clear h; intro w12 h
    have hE : Ext w12 w12 := Ext.refl _
    refine tP 0 rfl (fun _ => hE) (fun _ => ex_move (v := t4) rfl) <| tP 1 rfl (fun _ => hE) (fun _ => ex_move (v := (Sl.v t0)) rfl) <| tP 2 rfl (fun _ => hE) (fun _ => ex_move (v := (.int .i64 t2)) rfl) ?_
    obtain ⟨t95, ht95, h⟩ := h
    refine tP 3 rfl (fun _ => hE) (fun _ => (fun r => ex_indexAddr rfl rfl r) (ht95 _)) ?_
    obtain ⟨t96, ht96, h⟩ := h
    refine tK 4 rfl hE (fun _ hw => (fun r => ex_load rfl r) (ht96 _ hw)) <| tP 5 rfl (fun _ => hE) (fun _ => ex_move (v := (Sl.v t0)) rfl) <| tP 6 rfl (fun _ => hE) (fun _ => ex_move (v := (.int .i64 (IntKind.i64.wrap t90))) rfl) ?_
    obtain ⟨t99, ht99, h⟩ := h
    refine tP 7 rfl (fun _ => hE) (fun _ => (fun r => ex_indexAddr rfl rfl r) (ht99 _)) ?_
    obtain ⟨t100, ht100, h⟩ := h
    refine tK 8 rfl hE (fun _ hw => (fun r => ex_load rfl r) (ht100 _ hw)) <| dr_only (i := 9) (by kernel_rfl) rfl rfl ?_
    refine o_calv rfl rfl h ?_; clear h; intro t101 w h; refine ⟨noG (by kernel_rfl), ?_⟩
    refine tP 10 rfl (noG (by kernel_rfl)) (fun _ => ex_lss (a := t101) (b := 0) rfl rfl) <| tP 11 rfl (noG (by kernel_rfl)) (fun _ => ex_not (b := (decide (t101 < 0))) rfl) <| dr_end (by kernel_rfl) <| then_n ?_
    by_cases hc13 : (!(decide (t101 < 0))) = true
    ·rw [if_pos hc13] at h; refine cond_1 (b := (!(decide (t101 < 0)))) rfl hc13 ?_
     refine region_ <| mv (.int .i64 (IntKind.i64.wrap t90)) rfl <| st_val (ex_add (a := (IntKind.i64.wrap t90)) (b := 1) rfl rfl) <| asg (.int .i64 (IntKind.i64.wrap ((IntKind.i64.wrap t90) + 1))) rfl <| wl_nil <| inb_n ?_
     exact then_n ⟨((IntKind.i64.wrap ((IntKind.i64.wrap t90) + 1)), s10.2), mk_upds (ae rfl (ae rfl (ae rfl (ae rfl (ae rfl ae0))))), h⟩
    ·rw [if_neg hc13] at h; refine cond_0 (b := (!(decide (t101 < 0)))) rfl (Bool.eq_false_iff.2 hc13) ?_
     refine region_ <| mv (.int .i64 (IntKind.i64.wrap t90)) rfl <| asg (.int .i64 (IntKind.i64.wrap t90)) rfl <| wl_nil <| inb_n ?_
     exact then_n ⟨(s10.1, (IntKind.i64.wrap t90)), mk_upds (ae rfl (ae rfl (ae rfl (ae rfl (ae rfl ae0))))), h⟩
   ·rw [if_neg hc11] at h; refine cond_0 (b := (decide (s10.1 < s10.2))) rfl (decide_eq_false hc11) ?_
    refine wp_exit <| then_e <| then_e <| inb_e <| then_n <| seq_ <| seq_ <| region_ <| mv (.int .i64 t2) rfl <| asg (.int .i64 t2) rfl ?_
    refine wl_nil <| then_n <| wp_block <| wp_lp (σ := Int) (fun s14 a => ∃ j, a = F 220 (upds j [(0, (Sl.v t0)), (14, (.int .i64 s10.1)), (17, (.int .i64 s14))])) h (mk_upds (ae rfl (ae rfl (ae rfl ae0)))) ?_
    clear h; rintro s14 _ w n14 ⟨j, rfl⟩ h
    refine seq_ <| seq_ <| region_ <| mv (.int .i64 s14) rfl <| mv (.int .i64 s10.1) rfl <| st_val (ex_gtr (a := s14) (b := s10.1) rfl rfl) <| wl_nil <| then_n ?_
    by_cases hc15 : s10.1 < s14
    ·rw [if_pos hc15] at h; refine cond_1 (b := (decide (s10.1 < s14))) rfl (decide_eq_true hc15) ?_
     refine wp_skip <| then_n <| seq_ <| wp_block ?_
     refine dr_begin mixed [15, 17] (listed := #[false, false, false, false, false, false, false, false, false, false, false, false, false, false, false, false, false, false]) rfl (n := 18) rfl h ?_; clear h; intro w16 h
     have hE : Ext w16 w16 := Ext.refl _
     refine tP 0 rfl (fun _ => hE) (fun _ => ex_move (v := (Sl.v t0)) rfl) <| tP 1 rfl (fun _ => hE) (fun _ => ex_move (v := (.int .i64 s14)) rfl) <| tP 2 rfl (fun _ => hE) (fun _ => ex_move (v := (Sl.v t0)) rfl) <| tP 3 rfl (fun _ => hE) (fun _ => ex_move (v := (.int .i64 s14)) rfl) <| tP 4 rfl (fun _ => hE) (fun _ => ex_sub (a := s14) (b := 1) rfl rfl) <| tP 5 rfl (fun _ => hE) (fun _ => ex_move (v := (Sl.v t0)) rfl) <| tP 6 rfl (fun _ => hE) (fun _ => ex_move (v := (.int .i64 s14)) rfl) <| tP 7 rfl (fun _ => hE) (fun _ => ex_sub (a := s14) (b := 1) rfl rfl) ?_
     obtain ⟨t121, ht121, h⟩ := h
     refine tP 8 rfl (fun _ => hE) (fun _ => (fun r => ex_indexAddr rfl rfl r) (ht121 _)) ?_
     obtain ⟨t122, ht122, h⟩ := h
     refine tK 9 rfl hE (fun _ hw => (fun r => ex_load rfl r) (ht122 _ hw)) <| tP 10 rfl (fun _ => hE) (fun _ => ex_move (v := (Sl.v t0)) rfl) <| tP 11 rfl (fun _ => hE) (fun _ => ex_move (v := (.int .i64 s14)) rfl) ?_
     obtain ⟨t125, ht125, h⟩ := h
     refine tP 12 rfl (fun _ => hE) (fun _ => (fun r => ex_indexAddr rfl rfl r) (ht125 _)) ?_
     obtain ⟨t126, ht126, h⟩ := h
     refine tK 13 rfl hE (fun _ hw => (fun r => ex_load rfl r) (ht126 _ hw)) ?_
     obtain ⟨t127, ht127, h⟩ := h
     refine tP 14 rfl (fun _ => hE) (fun _ => (fun r => ex_indexAddr rfl rfl r) (ht127 _)) <| dr_only (i := 15) (by kernel_rfl) rfl rfl ?_
     refine o_rnu (fun r => ex_store rfl rfl r) h ?_; clear h; intro w h; refine ⟨noG (by kernel_rfl), ?_⟩
     obtain ⟨t128, ht128, h⟩ := h
     refine tP 16 rfl (noG (by kernel_rfl)) (fun _ => (fun r => ex_indexAddr rfl rfl r) (ht128 _)) <| dr_only (i := 17) (by kernel_rfl) rfl rfl ?_
     refine o_rnu (fun r => ex_store rfl rfl r) h ?_; clear h; intro w h; refine ⟨noG (by kernel_rfl), ?_⟩
     refine dr_end (by kernel_rfl) <| inb_n <| then_n <| region_ <| mv (.int .i64 s14) rfl <| st_val (ex_sub (a := s14) (b := 1) rfl rfl) <| asg (.int .i64 (IntKind.i64.wrap (s14 - 1))) rfl <| wl_nil ?_
     exact then_n ⟨(IntKind.i64.wrap (s14 - 1)), mk_upds (ae rfl (ae rfl (ae rfl ae0))), h⟩
    ·rw [if_neg hc15] at h; refine cond_0 (b := (decide (s10.1 < s14))) rfl (decide_eq_false hc15) ?_
     refine wp_exit <| then_e <| then_e <| inb_e <| then_n <| wp_ret <| then_r ?_
     refine ret_0 rfl ⟨(), rfl, h⟩
  ·rw [if_neg hc9] at h; refine cond_0 (b := (decide ((IntKind.i64.wrap (t3 - t2)) = 1))) rfl (decide_eq_false hc9) ?_
   refine wp_skip <| then_n <| seq_ <| region_ <| mv (.int .i64 t1) rfl <| mv (.int .i64 t3) rfl <| st_val (ex_add (a := t1) (b := t3) rfl rfl) <| st_val (ex_convI (n := (IntKind.i64.wrap (t1 + t3))) Try.underlying3 Try.underlying184 rfl) ?_
   refine st_rnp (fun r => ex_binI (a := (IntKind.u64.wrap (IntKind.i64.wrap (t1 + t3)))) (b := 1) rfl rfl r) h ?_; clear h; intro t133 h
   refine st_val (ex_convI (n := t133) Try.underlying184 Try.underlying3 rfl) <| asg (.int .i64 (IntKind.i64.wrap t133)) rfl <| wl_nil <| then_n <| seq_ <| region_ <| mv (.int .i64 (IntKind.i64.wrap t133)) rfl <| mv (.int .i64 t2) rfl <| st_val (ex_add (a := (IntKind.i64.wrap t133)) (b := t2) rfl rfl) <| asg (.int .i64 (IntKind.i64.wrap ((IntKind.i64.wrap t133) + t2))) rfl ?_
   refine wl_nil <| then_n <| seq_ <| region_ <| asg (.int .i64 0) rfl <| asg (.int .i64 0) rfl <| wl_nil <| then_n ?_
   refine wp_jn (σ := Int × Int) (fun s17 l => ∃ j, l = upds j [(0, (Sl.v t0)), (1, (.int .i64 t1)), (2, (.int .i64 t2)), (3, (.int .i64 t3)), (4, t4), (18, (.int .i64 (IntKind.i64.wrap t133))), (19, (.int .i64 (IntKind.i64.wrap ((IntKind.i64.wrap t133) + t2)))), (20, (.int .i64 s17.1)), (21, (.int .i64 s17.2))]) h ?_ ?_
   ·clear h; rintro s17 _ w ⟨j, rfl⟩ h
    refine seq_ <| region_ <| mv (.int .i64 (IntKind.i64.wrap ((IntKind.i64.wrap t133) + t2))) rfl <| st_val (ex_sub (a := (IntKind.i64.wrap ((IntKind.i64.wrap t133) + t2))) (b := 1) rfl rfl) <| asg (.int .i64 (IntKind.i64.wrap ((IntKind.i64.wrap ((IntKind.i64.wrap t133) + t2)) - 1))) rfl <| wl_nil <| then_n <| seq_ <| wp_block <| wp_lp (σ := Int × Int) (fun s19 a => ∃ j, a = F 220 (upds j [(0, (Sl.v t0)), (1, (.int .i64 t1)), (2, (.int .i64 t2)), (3, (.int .i64 t3)), (4, t4), (18, (.int .i64 (IntKind.i64.wrap t133))), (19, (.int .i64 (IntKind.i64.wrap ((IntKind.i64.wrap t133) + t2)))), (20, (.int .i64 s19.1)), (21, (.int .i64 s19.2)), (22, (.int .i64 (IntKind.i64.wrap ((IntKind.i64.wrap ((IntKind.i64.wrap t133) + t2)) - 1))))])) h (mk_upds (ae rfl (ae rfl (ae rfl (ae rfl (ae rfl (ae rfl (ae rfl (ae rfl (ae rfl (ae rfl ae0))))))))))) ?_
    clear h; rintro s19 _ w n19 ⟨j, rfl⟩ h
    refine seq_ <| seq_ <| region_ <| mv (.int .i64 s19.1) rfl <| mv (.int .i64 s19.2) rfl <| st_val (ex_lss (a := s19.1) (b := s19.2) rfl rfl) <| wl_nil <| then_n ?_
    by_cases hc20 : s19.1 < s19.2
    ·rw [if_pos hc20] at h; refine cond_1 (b := (decide (s19.1 < s19.2))) rfl (decide_eq_true hc20) ?_
     refine wp_skip <| then_n <| wp_block <| seq_ <| region_ <| mv (.int .i64 s19.1) rfl <| mv (.int .i64 s19.2) rfl <| st_val (ex_add (a := s19.1) (b := s19.2) rfl rfl) <| st_val (ex_convI (n := (IntKind.i64.wrap (s19.1 + s19.2))) Try.underlying3 Try.underlying184 rfl) ?_
     refine st_rnp (fun r => ex_binI (a := (IntKind.u64.wrap (IntKind.i64.wrap (s19.1 + s19.2)))) (b := 1) rfl rfl r) h ?_; clear h; intro t156 h
     refine st_val (ex_convI (n := t156) Try.underlying184 Try.underlying3 rfl) <| asg (.int .i64 (IntKind.i64.wrap t156)) rfl <| wl_nil <| then_n <| seq_ ?_
     refine dr_begin mixed [11] (listed := #[false, false, false, false, false, false, false, false, false, false, false, false, false, false]) rfl (n := 14) rfl h ?_; clear h; intro w21 h
     have hE : Ext w21 w21 := Ext.refl _
     refine tP 0 rfl (fun _ => hE) (fun _ => ex_move (v := t4) rfl) <| tP 1 rfl (fun _ => hE) (fun _ => ex_move (v := (Sl.v t0)) rfl) <| tP 2 rfl (fun _ => hE) (fun _ => ex_move (v := (.int .i64 (IntKind.i64.wrap ((IntKind.i64.wrap ((IntKind.i64.wrap t133) + t2)) - 1)))) rfl) <| tP 3 rfl (fun _ => hE) (fun _ => ex_move (v := (.int .i64 (IntKind.i64.wrap t156))) rfl) <| tP 4 rfl (fun _ => hE) (fun _ => ex_sub (a := (IntKind.i64.wrap ((IntKind.i64.wrap ((IntKind.i64.wrap t133) + t2)) - 1))) (b := (IntKind.i64.wrap t156)) rfl rfl) ?_
     obtain ⟨t163, ht163, h⟩ := h
     refine tP 5 rfl (fun _ => hE) (fun _ => (fun r => ex_indexAddr rfl rfl r) (ht163 _)) ?_
     obtain ⟨t164, ht164, h⟩ := h
     refine tK 6 rfl hE (fun _ hw => (fun r => ex_load rfl r) (ht164 _ hw)) <| tP 7 rfl (fun _ => hE) (fun _ => ex_move (v := (Sl.v t0)) rfl) <| tP 8 rfl (fun _ => hE) (fun _ => ex_move (v := (.int .i64 (IntKind.i64.wrap t156))) rfl) ?_
     obtain ⟨t167, ht167, h⟩ := h
     refine tP 9 rfl (fun _ => hE) (fun _ => (fun r => ex_indexAddr rfl rfl r) (ht167 _)) ?_
     obtain ⟨t168, ht168, h⟩ := h
     refine tK 10 rfl hE (fun _ hw => (fun r => ex_load rfl r) (ht168 _ hw)) <| dr_only (i := 11) (by kernel_rfl) rfl rfl ?_
     refine o_calv rfl rfl h ?_; clear h; intro t169 w h; refine ⟨noG (by kernel_rfl), ?_⟩
     refine tP 12 rfl (noG (by kernel_rfl)) (fun _ => ex_lss (a := t169) (b := 0) rfl rfl) <| tP 13 rfl (noG (by kernel_rfl)) (fun _ => ex_not (b := (decide (t169 < 0))) rfl) <| dr_end (by kernel_rfl) <| then_n ?_
     by_cases hc22 : (!(decide (t169 < 0))) = true
     ·rw [if_pos hc22] at h; refine cond_1 (b := (!(decide (t169 < 0)))) rfl hc22 ?_
      refine region_ <| mv (.int .i64 (IntKind.i64.wrap t156)) rfl <| st_val (ex_add (a := (IntKind.i64.wrap t156)) (b := 1) rfl rfl) <| asg (.int .i64 (IntKind.i64.wrap ((IntKind.i64.wrap t156) + 1))) rfl <| wl_nil <| inb_n ?_
      exact then_n ⟨((IntKind.i64.wrap ((IntKind.i64.wrap t156) + 1)), s19.2), mk_upds (ae rfl (ae rfl (ae rfl (ae rfl (ae rfl (ae rfl (ae rfl (ae rfl (ae rfl (ae rfl ae0)))))))))), h⟩
     ·rw [if_neg hc22] at h; refine cond_0 (b := (!(decide (t169 < 0)))) rfl (Bool.eq_false_iff.2 hc22) ?_
      refine region_ <| mv (.int .i64 (IntKind.i64.wrap t156)) rfl <| asg (.int .i64 (IntKind.i64.wrap t156)) rfl <| wl_nil <| inb_n ?_
      exact then_n ⟨(s19.1, (IntKind.i64.wrap t156)), mk_upds (ae rfl (ae rfl (ae rfl (ae rfl (ae rfl (ae rfl (ae rfl (ae rfl (ae rfl (ae rfl ae0)))))))))), h⟩
    ·rw [if_neg hc20] at h; refine cond_0 (b := (decide (s19.1 < s19.2))) rfl (decide_eq_false hc20) ?_
     refine wp_exit <| then_e <| then_e <| inb_e <| then_n <| seq_ <| region_ <| mv (.int .i64 (IntKind.i64.wrap ((IntKind.i64.wrap t133) + t2))) rfl <| mv (.int .i64 s19.1) rfl <| st_val (ex_sub (a := (IntKind.i64.wrap ((IntKind.i64.wrap t133) + t2))) (b := s19.1) rfl rfl) ?_
     refine asg (.int .i64 (IntKind.i64.wrap ((IntKind.i64.wrap ((IntKind.i64.wrap t133) + t2)) - s19.1))) rfl <| wl_nil <| then_n ?_
     refine wp_jn (σ := Unit) (fun s23 l => ∃ j, l = upds j [(0, (Sl.v t0)), (1, (.int .i64 t1)), (3, (.int .i64 t3)), (4, t4), (18, (.int .i64 (IntKind.i64.wrap t133))), (20, (.int .i64 s19.1)), (24, (.int .i64 (IntKind.i64.wrap ((IntKind.i64.wrap ((IntKind.i64.wrap t133) + t2)) - s19.1))))]) h ?_ ?_
     ·clear h; rintro s23 _ w ⟨j, rfl⟩ h
      refine wp_jn (σ := Unit) (fun s27 l => ∃ j, l = upds j [(0, (Sl.v t0)), (3, (.int .i64 t3)), (4, t4), (18, (.int .i64 (IntKind.i64.wrap t133))), (24, (.int .i64 (IntKind.i64.wrap ((IntKind.i64.wrap ((IntKind.i64.wrap t133) + t2)) - s19.1))))]) h ?_ ?_
      ·clear h; rintro s27 _ w ⟨j, rfl⟩ h
       refine wp_jn (σ := Bool) (fun s31 l => ∃ j, l = upds j [(0, (Sl.v t0)), (3, (.int .i64 t3)), (4, t4), (18, (.int .i64 (IntKind.i64.wrap t133))), (24, (.int .i64 (IntKind.i64.wrap ((IntKind.i64.wrap ((IntKind.i64.wrap t133) + t2)) - s19.1)))), (213, (.bool s31))]) h ?_ ?_
       ·clear h; rintro s31 _ w ⟨j, rfl⟩ h
        by_cases hc33 : s31 = true
        ·rw [if_pos hc33] at h; refine cond_1 (b := s31) rfl hc33 ?_
         refine region_ <| mv (Sl.v t0) rfl <| mv (.int .i64 (IntKind.i64.wrap t133)) rfl <| mv (.int .i64 (IntKind.i64.wrap ((IntKind.i64.wrap ((IntKind.i64.wrap t133) + t2)) - s19.1))) rfl <| mv (.int .i64 t3) rfl <| mv t4 rfl ?_
         refine st_cal en136 rfl h ?_; clear h; intro t219 w h
         refine wl_nil ?_
         refine end_0 rfl ⟨(), rfl, h⟩
        ·rw [if_neg hc33] at h; refine cond_0 (b := s31) rfl (Bool.eq_false_iff.2 hc33) ?_
         refine wp_skip ?_
         refine end_0 rfl ⟨(), rfl, h⟩
       ·clear h; intro k31 h
        refine region_ <| mv (.int .i64 (IntKind.i64.wrap t133)) rfl <| mv (.int .i64 (IntKind.i64.wrap ((IntKind.i64.wrap ((IntKind.i64.wrap t133) + t2)) - s19.1))) rfl <| st_val (ex_lss (a := (IntKind.i64.wrap t133)) (b := (IntKind.i64.wrap ((IntKind.i64.wrap ((IntKind.i64.wrap t133) + t2)) - s19.1))) rfl rfl) <| mv (.bool (decide ((IntKind.i64.wrap t133) < (IntKind.i64.wrap ((IntKind.i64.wrap ((IntKind.i64.wrap t133) + t2)) - s19.1))))) rfl ?_
        by_cases hc32 : (IntKind.i64.wrap t133) < (IntKind.i64.wrap ((IntKind.i64.wrap ((IntKind.i64.wrap t133) + t2)) - s19.1))
        ·rw [if_pos hc32] at h
         refine sOn 209 (decide_eq_true hc32) rfl rfl <| mv (.int .i64 (IntKind.i64.wrap ((IntKind.i64.wrap ((IntKind.i64.wrap t133) + t2)) - s19.1))) rfl <| sOn 209 (decide_eq_true hc32) rfl rfl <| mv (.int .i64 t3) rfl <| sOn 209 (decide_eq_true hc32) rfl rfl <| st_val (ex_lss (a := (IntKind.i64.wrap ((IntKind.i64.wrap ((IntKind.i64.wrap t133) + t2)) - s19.1))) (b := t3) rfl rfl) <| st_val (ex_pick1 (b := (decide ((IntKind.i64.wrap t133) < (IntKind.i64.wrap ((IntKind.i64.wrap ((IntKind.i64.wrap t133) + t2)) - s19.1))))) rfl (decide_eq_true hc32) (v := (.bool (decide ((IntKind.i64.wrap ((IntKind.i64.wrap ((IntKind.i64.wrap t133) + t2)) - s19.1)) < t3)))) rfl) <| wl_nil ?_
         exact then_n ⟨(decide ((IntKind.i64.wrap ((IntKind.i64.wrap ((IntKind.i64.wrap t133) + t2)) - s19.1)) < t3)), _, rfl, mk_upds' (ae rfl (ae rfl (ae rfl (ae rfl (ae rfl (ae rfl ae0)))))), h⟩
        ·rw [if_neg hc32] at h
         refine sOff 209 (decide_eq_false hc32) rfl rfl <| sOff 209 (decide_eq_false hc32) rfl rfl <| sOff 209 (decide_eq_false hc32) rfl rfl <| st_val (ex_pick0 (b := (decide ((IntKind.i64.wrap t133) < (IntKind.i64.wrap ((IntKind.i64.wrap ((IntKind.i64.wrap t133) + t2)) - s19.1))))) rfl (decide_eq_false hc32) (v := (.bool false)) rfl) <| wl_nil ?_
         exact then_n ⟨false, _, rfl, mk_upds' (ae rfl (ae rfl (ae rfl (ae rfl (ae rfl (ae rfl ae0)))))), h⟩
      ·clear h; intro k27 h
       refine wp_jn (σ := Bool) (fun s28 l => ∃ j, l = upds j [(0, (Sl.v t0)), (1, (.int .i64 t1)), (3, (.int .i64 t3)), (4, t4), (18, (.int .i64 (IntKind.i64.wrap t133))), (20, (.int .i64 s19.1)), (24, (.int .i64 (IntKind.i64.wrap ((IntKind.i64.wrap ((IntKind.i64.wrap t133) + t2)) - s19.1)))), (199, (.bool s28))]) h ?_ ?_
       ·clear h; rintro s28 _ w ⟨j, rfl⟩ h
        by_cases hc30 : s28 = true
        ·rw [if_pos hc30] at h; refine cond_1 (b := s28) rfl hc30 ?_
         refine region_ <| mv (Sl.v t0) rfl <| mv (.int .i64 t1) rfl <| mv (.int .i64 s19.1) rfl <| mv (.int .i64 (IntKind.i64.wrap t133)) rfl <| mv t4 rfl ?_
         refine st_cal en136 rfl h ?_; clear h; intro t205 w h
         refine wl_nil ?_
         exact then_n ⟨(), _, rfl, mk_upds' (ae rfl (ae rfl (ae rfl (ae rfl (ae rfl ae0))))), h⟩
        ·rw [if_neg hc30] at h; refine cond_0 (b := s28) rfl (Bool.eq_false_iff.2 hc30) ?_
         refine wp_skip ?_
         exact then_n ⟨(), _, rfl, mk_upds' (ae rfl (ae rfl (ae rfl (ae rfl (ae rfl ae0))))), h⟩
       ·clear h; intro k28 h
        refine region_ <| mv (.int .i64 t1) rfl <| mv (.int .i64 s19.1) rfl <| st_val (ex_lss (a := t1) (b := s19.1) rfl rfl) <| mv (.bool (decide (t1 < s19.1))) rfl ?_
        by_cases hc29 : t1 < s19.1
        ·rw [if_pos hc29] at h
         refine sOn 195 (decide_eq_true hc29) rfl rfl <| mv (.int .i64 s19.1) rfl <| sOn 195 (decide_eq_true hc29) rfl rfl <| mv (.int .i64 (IntKind.i64.wrap t133)) rfl <| sOn 195 (decide_eq_true hc29) rfl rfl <| st_val (ex_lss (a := s19.1) (b := (IntKind.i64.wrap t133)) rfl rfl) <| st_val (ex_pick1 (b := (decide (t1 < s19.1))) rfl (decide_eq_true hc29) (v := (.bool (decide (s19.1 < (IntKind.i64.wrap t133))))) rfl) <| wl_nil ?_
         exact then_n ⟨(decide (s19.1 < (IntKind.i64.wrap t133))), _, rfl, mk_upds' (ae rfl (ae rfl (ae rfl (ae rfl (ae rfl (ae rfl (ae rfl (ae rfl ae0)))))))), h⟩
        ·rw [if_neg hc29] at h
         refine sOff 195 (decide_eq_false hc29) rfl rfl <| sOff 195 (decide_eq_false hc29) rfl rfl <| sOff 195 (decide_eq_false hc29) rfl rfl <| st_val (ex_pick0 (b := (decide (t1 < s19.1))) rfl (decide_eq_false hc29) (v := (.bool false)) rfl) <| wl_nil ?_
         exact then_n ⟨false, _, rfl, mk_upds' (ae rfl (ae rfl (ae rfl (ae rfl (ae rfl (ae rfl (ae rfl (ae rfl ae0)))))))), h⟩
     ·clear h; intro k23 h
      refine wp_jn (σ := Bool) (fun s24 l => ∃ j, l = upds j [(0, (Sl.v t0)), (1, (.int .i64 t1)), (2, (.int .i64 t2)), (3, (.int .i64 t3)), (4, t4), (18, (.int .i64 (IntKind.i64.wrap t133))), (20, (.int .i64 s19.1)), (24, (.int .i64 (IntKind.i64.wrap ((IntKind.i64.wrap ((IntKind.i64.wrap t133) + t2)) - s19.1)))), (185, (.bool s24))]) h ?_ ?_
      ·clear h; rintro s24 _ w ⟨j, rfl⟩ h
       by_cases hc26 : s24 = true
       ·rw [if_pos hc26] at h; refine cond_1 (b := s24) rfl hc26 ?_
        refine region_ <| mv (Sl.v t0) rfl <| mv (.int .i64 s19.1) rfl <| mv (.int .i64 t2) rfl <| mv (.int .i64 (IntKind.i64.wrap ((IntKind.i64.wrap ((IntKind.i64.wrap t133) + t2)) - s19.1))) rfl <| mv t4 rfl ?_
        refine st_cal en155 rfl h ?_; clear h; intro t191 w h
        refine wl_nil ?_
        exact then_n ⟨(), _, rfl, mk_upds' (ae rfl (ae rfl (ae rfl (ae rfl (ae rfl (ae rfl (ae rfl ae0))))))), h⟩
       ·rw [if_neg hc26] at h; refine cond_0 (b := s24) rfl (Bool.eq_false_iff.2 hc26) ?_
        refine wp_skip ?_
        exact then_n ⟨(), _, rfl, mk_upds' (ae rfl (ae rfl (ae rfl (ae rfl (ae rfl (ae rfl (ae rfl ae0))))))), h⟩
      ·clear h; intro k24 h
       refine region_ <| mv (.int .i64 s19.1) rfl <| mv (.int .i64 t2) rfl <| st_val (ex_lss (a := s19.1) (b := t2) rfl rfl) <| mv (.bool (decide (s19.1 < t2))) rfl ?_
       by_cases hc25 : s19.1 < t2
       ·rw [if_pos hc25] at h
        refine sOn 181 (decide_eq_true hc25) rfl rfl <| mv (.int .i64 t2) rfl <| sOn 181 (decide_eq_true hc25) rfl rfl <| mv (.int .i64 (IntKind.i64.wrap ((IntKind.i64.wrap ((IntKind.i64.wrap t133) + t2)) - s19.1))) rfl <| sOn 181 (decide_eq_true hc25) rfl rfl <| st_val (ex_lss (a := t2) (b := (IntKind.i64.wrap ((IntKind.i64.wrap ((IntKind.i64.wrap t133) + t2)) - s19.1))) rfl rfl) <| st_val (ex_pick1 (b := (decide (s19.1 < t2))) rfl (decide_eq_true hc25) (v := (.bool (decide (t2 < (IntKind.i64.wrap ((IntKind.i64.wrap ((IntKind.i64.wrap t133) + t2)) - s19.1)))))) rfl) <| wl_nil ?_
        exact then_n ⟨(decide (t2 < (IntKind.i64.wrap ((IntKind.i64.wrap ((IntKind.i64.wrap t133) + t2)) - s19.1)))), _, rfl, mk_upds' (ae rfl (ae rfl (ae rfl (ae rfl (ae rfl (ae rfl (ae rfl (ae rfl (ae rfl ae0))))))))), h⟩
       ·rw [if_neg hc25] at h
        refine sOff 181 (decide_eq_false hc25) rfl rfl <| sOff 181 (decide_eq_false hc25) rfl rfl <| sOff 181 (decide_eq_false hc25) rfl rfl <| st_val (ex_pick0 (b := (decide (s19.1 < t2))) rfl (decide_eq_false hc25) (v := (.bool false)) rfl) <| wl_nil ?_
        exact then_n ⟨false, _, rfl, mk_upds' (ae rfl (ae rfl (ae rfl (ae rfl (ae rfl (ae rfl (ae rfl (ae rfl (ae rfl ae0))))))))), h⟩
   ·clear h; intro k17 h
    refine seq_ <| region_ <| mv (.int .i64 t2) rfl <| mv (.int .i64 (IntKind.i64.wrap t133)) rfl <| st_val (ex_gtr (a := t2) (b := (IntKind.i64.wrap t133)) rfl rfl) <| wl_nil <| then_n ?_
    by_cases hc18 : (IntKind.i64.wrap t133) < t2
    ·rw [if_pos hc18] at h; refine cond_1 (b := (decide ((IntKind.i64.wrap t133) < t2))) rfl (decide_eq_true hc18) ?_
     refine seq_ <| region_ <| mv (.int .i64 (IntKind.i64.wrap ((IntKind.i64.wrap t133) + t2))) rfl <| mv (.int .i64 t3) rfl <| st_val (ex_sub (a := (IntKind.i64.wrap ((IntKind.i64.wrap t133) + t2))) (b := t3) rfl rfl) <| asg (.int .i64 (IntKind.i64.wrap ((IntKind.i64.wrap ((IntKind.i64.wrap t133) + t2)) - t3))) rfl <| wl_nil <| then_n <| region_ <| mv (.int .i64 (IntKind.i64.wrap t133)) rfl ?_
     refine asg (.int .i64 (IntKind.i64.wrap t133)) rfl <| wl_nil ?_
     exact then_n ⟨((IntKind.i64.wrap ((IntKind.i64.wrap ((IntKind.i64.wrap t133) + t2)) - t3)), (IntKind.i64.wrap t133)), _, rfl, mk_upds' (ae rfl (ae rfl (ae rfl (ae rfl (ae rfl (ae rfl (ae rfl (ae rfl (ae rfl ae0))))))))), h⟩
    ·rw [if_neg hc18] at h; refine cond_0 (b := (decide ((IntKind.i64.wrap t133) < t2))) rfl (decide_eq_false hc18) ?_
     refine seq_ <| region_ <| mv (.int .i64 t1) rfl <| asg (.int .i64 t1) rfl <| wl_nil <| then_n <| region_ <| mv (.int .i64 t2) rfl <| asg (.int .i64 t2) rfl <| wl_nil ?_
     exact then_n ⟨(t1, t2), _, rfl, mk_upds' (ae rfl (ae rfl (ae rfl (ae rfl (ae rfl (ae rfl (ae rfl (ae rfl (ae rfl ae0))))))))), h⟩

def f137 (t0 : ByteArray) (R : (ByteArray × Bool) → World → Prop) (w : World) : Prop :=
 Jn (σ := Bool) (fun k1 =>
  if t0 = (⟨#[]⟩ : ByteArray) then
   k1 true w
  else
   k1 (decide (64 < (t0.size : Int))) w
 ) fun s1 w =>
  if s1 = true then
   R ((⟨#[]⟩ : ByteArray), false) w
  else
   Lp (σ := Sl × Int) (fun s4 w n4 =>
    if s4.2 < (t0.size : Int) then
     RnP Try.prog (Value.int .u8) (Instr.index 9 (.string t0) (.int .i64 s4.2)) fun t22 =>
     Jn (σ := Int) (fun k6 =>
      Jn (σ := Bool) (fun k7 =>
       if 65 ≤ t22 then
        k7 (decide (t22 ≤ 90)) w
       else
        k7 false w
      ) fun s7 w =>
       if s7 = true then
        k6 (IntKind.u8.wrap ((IntKind.u8.wrap (t22 - 65)) + 97)) w
       else
        k6 t22 w
     ) fun s6 w =>
      Jn (σ := Bool) (fun k10 =>
       if 97 ≤ s6 then
        if s6 ≤ 122 then
         k10 (!true) w
        else
         if 48 ≤ s6 then
          if s6 ≤ 57 then
           k10 (!true) w
          else
           if s6 = 45 then
            k10 (!true) w
           else
            k10 (!(decide (s6 = 46))) w
         else
          if s6 = 45 then
           k10 (!true) w
          else
           k10 (!(decide (s6 = 46))) w
       else
        if 48 ≤ s6 then
         if s6 ≤ 57 then
          k10 (!true) w
         else
          if s6 = 45 then
           k10 (!true) w
          else
           k10 (!(decide (s6 = 46))) w
        else
         if s6 = 45 then
          k10 (!true) w
         else
          k10 (!(decide (s6 = 46))) w
      ) fun s10 w =>
       if s10 = true then
        R ((⟨#[]⟩ : ByteArray), false) w
       else
        New 5 ([(.int .u8 s6)]) w fun b57 w =>
        Rn Try.prog Sl.v (Builtin.append_ #[187, 187] 187 #[(Sl.v s4.1), (Sl.v (⟨some ⟨b57, 0, none⟩, 1, 1⟩ : Sl))]) w fun t58 w =>
        n4 (t58, (IntKind.i64.wrap (s4.2 + 1))) w
    else
     Rn Try.prog Value.string (convert 187 9 (Sl.v s4.1)) w fun t60 w =>
     R (t60, true) w
   ) (Sl.nil, 0) w
def f138 (t0 : ByteArray) (t1 : ByteArray) (R : (Bool) → World → Prop) (w : World) : Prop :=
 Jn (σ := Bool) (fun k1 =>
  if (t1.size : Int) ≤ (t0.size : Int) then
   RnP Try.prog Value.string (Instr.sliceAt 9 (.string t0) none (some (.int .i64 (t1.size : Int))) none) fun t14 =>
   k1 (decide (t14 = t1)) w
  else
   k1 false w
 ) fun s1 w =>
  R s1 w
theorem c138 {t0 : ByteArray} {t1 : ByteArray} {R : (Bool) → World → Prop} {w : World} (h : f138 t0 t1 R w) :
  Cal Try.prog Value.bool 138 #[(.string t0), (.string t1)] w R := by
 unfold f138 at h
 refine calls_ Try.func138 Try.ntmps138 rfl rfl <| seq_ <| region_ <| asg (.bool false) rfl <| wl_nil <| then_n ?_
 refine wp_jn (σ := Bool) (fun s1 l => ∃ j, l = upds j [(4, (.bool s1))]) h ?_ ?_
 ·clear h; rintro s1 _ w ⟨j, rfl⟩ h
  refine wp_ret ?_
  refine ret_1 rfl rfl ⟨s1, rfl, h⟩
 ·clear h; intro k1 h
  refine region_ <| mv (.string t0) rfl <| st_val (ex_lenS (s := t0) Try.underlying9 rfl) <| mv (.string t1) rfl <| st_val (ex_lenS (s := t1) Try.underlying9 rfl) <| st_val (ex_geq (a := (t0.size : Int)) (b := (t1.size : Int)) rfl rfl) <| mv (.bool (decide ((t1.size : Int) ≤ (t0.size : Int)))) rfl ?_
  by_cases hc2 : (t1.size : Int) ≤ (t0.size : Int)
  ·rw [if_pos hc2] at h
   refine sOn 10 (decide_eq_true hc2) rfl rfl <| mv (.string t0) rfl <| sOn 10 (decide_eq_true hc2) rfl rfl <| mv (.string t1) rfl <| sOn 10 (decide_eq_true hc2) rfl rfl <| st_val (ex_lenS (s := t1) Try.underlying9 rfl) <| sOn 10 (decide_eq_true hc2) rfl rfl ?_
   refine st_rnp (fun r => ex_slice rfl rfl rfl rfl r) h ?_; clear h; intro t14 h
   refine sOn 10 (decide_eq_true hc2) rfl rfl <| mv (.string t1) rfl <| sOn 10 (decide_eq_true hc2) rfl rfl <| st_val (ex_eqlS (a := t14) (b := t1) rfl rfl) <| st_val (ex_pick1 (b := (decide ((t1.size : Int) ≤ (t0.size : Int)))) rfl (decide_eq_true hc2) (v := (.bool (decide (t14 = t1)))) rfl) <| asg (.bool (decide (t14 = t1))) rfl <| wl_nil ?_
   exact then_n ⟨(decide (t14 = t1)), _, rfl, mk_upds' (ae rfl ae0), h⟩
  ·rw [if_neg hc2] at h
   refine sOff 10 (decide_eq_false hc2) rfl rfl <| sOff 10 (decide_eq_false hc2) rfl rfl <| sOff 10 (decide_eq_false hc2) rfl rfl <| sOff 10 (decide_eq_false hc2) rfl rfl <| sOff 10 (decide_eq_false hc2) rfl rfl <| sOff 10 (decide_eq_false hc2) rfl rfl <| st_val (ex_pick0 (b := (decide ((t1.size : Int) ≤ (t0.size : Int)))) rfl (decide_eq_false hc2) (v := (.bool false)) rfl) <| asg (.bool false) rfl <| wl_nil ?_
   exact then_n ⟨false, _, rfl, mk_upds' (ae rfl ae0), h⟩

def f139 (t0 : ByteArray) (t1 : ByteArray) (R : (Bool) → World → Prop) (w : World) : Prop :=
 Jn (σ := Bool) (fun k1 =>
  if (t1.size : Int) ≤ (t0.size : Int) then
   RnP Try.prog Value.string (Instr.sliceAt 9 (.string t0) (some (.int .i64 (IntKind.i64.wrap ((t0.size : Int) - (t1.size : Int))))) none none) fun t17 =>
   k1 (decide (t17 = t1)) w
  else
   k1 false w
 ) fun s1 w =>
  R s1 w
theorem c139 {t0 : ByteArray} {t1 : ByteArray} {R : (Bool) → World → Prop} {w : World} (h : f139 t0 t1 R w) :
  Cal Try.prog Value.bool 139 #[(.string t0), (.string t1)] w R := by
 unfold f139 at h
 refine calls_ Try.func139 Try.ntmps139 rfl rfl <| seq_ <| region_ <| asg (.bool false) rfl <| wl_nil <| then_n ?_
 refine wp_jn (σ := Bool) (fun s1 l => ∃ j, l = upds j [(4, (.bool s1))]) h ?_ ?_
 ·clear h; rintro s1 _ w ⟨j, rfl⟩ h
  refine wp_ret ?_
  refine ret_1 rfl rfl ⟨s1, rfl, h⟩
 ·clear h; intro k1 h
  refine region_ <| mv (.string t0) rfl <| st_val (ex_lenS (s := t0) Try.underlying9 rfl) <| mv (.string t1) rfl <| st_val (ex_lenS (s := t1) Try.underlying9 rfl) <| st_val (ex_geq (a := (t0.size : Int)) (b := (t1.size : Int)) rfl rfl) <| mv (.bool (decide ((t1.size : Int) ≤ (t0.size : Int)))) rfl ?_
  by_cases hc2 : (t1.size : Int) ≤ (t0.size : Int)
  ·rw [if_pos hc2] at h
   refine sOn 10 (decide_eq_true hc2) rfl rfl <| mv (.string t0) rfl <| sOn 10 (decide_eq_true hc2) rfl rfl <| mv (.string t0) rfl <| sOn 10 (decide_eq_true hc2) rfl rfl <| st_val (ex_lenS (s := t0) Try.underlying9 rfl) <| sOn 10 (decide_eq_true hc2) rfl rfl <| mv (.string t1) rfl <| sOn 10 (decide_eq_true hc2) rfl rfl <| st_val (ex_lenS (s := t1) Try.underlying9 rfl) ?_
   refine sOn 10 (decide_eq_true hc2) rfl rfl <| st_val (ex_sub (a := (t0.size : Int)) (b := (t1.size : Int)) rfl rfl) <| sOn 10 (decide_eq_true hc2) rfl rfl ?_
   refine st_rnp (fun r => ex_slice rfl rfl rfl rfl r) h ?_; clear h; intro t17 h
   refine sOn 10 (decide_eq_true hc2) rfl rfl <| mv (.string t1) rfl <| sOn 10 (decide_eq_true hc2) rfl rfl <| st_val (ex_eqlS (a := t17) (b := t1) rfl rfl) <| st_val (ex_pick1 (b := (decide ((t1.size : Int) ≤ (t0.size : Int)))) rfl (decide_eq_true hc2) (v := (.bool (decide (t17 = t1)))) rfl) <| asg (.bool (decide (t17 = t1))) rfl <| wl_nil ?_
   exact then_n ⟨(decide (t17 = t1)), _, rfl, mk_upds' (ae rfl ae0), h⟩
  ·rw [if_neg hc2] at h
   refine sOff 10 (decide_eq_false hc2) rfl rfl <| sOff 10 (decide_eq_false hc2) rfl rfl <| sOff 10 (decide_eq_false hc2) rfl rfl <| sOff 10 (decide_eq_false hc2) rfl rfl <| sOff 10 (decide_eq_false hc2) rfl rfl <| sOff 10 (decide_eq_false hc2) rfl rfl <| sOff 10 (decide_eq_false hc2) rfl rfl <| sOff 10 (decide_eq_false hc2) rfl rfl <| sOff 10 (decide_eq_false hc2) rfl rfl <| st_val (ex_pick0 (b := (decide ((t1.size : Int) ≤ (t0.size : Int)))) rfl (decide_eq_false hc2) (v := (.bool false)) rfl) ?_
   refine asg (.bool false) rfl <| wl_nil ?_
   exact then_n ⟨false, _, rfl, mk_upds' (ae rfl ae0), h⟩

def f140 (t0 : ByteArray) (R : (ByteArray × Bool) → World → Prop) (w : World) : Prop :=
 Cal Try.prog (fun x : ByteArray × Bool => Value.tuple #[(.string x.1), (.bool x.2)]) 156 #[(.string t0), (.string (⟨#[42]⟩ : ByteArray))] w fun t5 w =>
 R (t5.1, t5.2) w
theorem c140 {t0 : ByteArray} {R : (ByteArray × Bool) → World → Prop} {w : World} (h : f140 t0 R w) :
  Cal Try.prog (fun x : ByteArray × Bool => Value.tuple #[(.string x.1), (.bool x.2)]) 140 #[(.string t0)] w R := by
 unfold f140 at h
 refine calls_ Try.func140 Try.ntmps140 rfl rfl <| seq_ <| region_ <| asg (.string (⟨#[]⟩ : ByteArray)) rfl <| asg (.bool false) rfl <| wl_nil <| then_n <| seq_ <| region_ <| mv (.string t0) rfl ?_
 refine st_cal en156 rfl h ?_; clear h; intro t5 w h
 refine st_val (ex_extract (u := (.tuple #[(.string t5.1), (.bool t5.2)])) rfl (v := (.string t5.1)) rfl) <| st_val (ex_extract (u := (.tuple #[(.string t5.1), (.bool t5.2)])) rfl (v := (.bool t5.2)) rfl) <| asg (.string t5.1) rfl <| asg (.bool t5.2) rfl <| wl_nil <| then_n <| wp_ret ?_
 refine ret_2 rfl rfl rfl ⟨(t5.1, t5.2), rfl, h⟩

def f141 (t0 : ByteArray) (R : (Bool) → World → Prop) (w : World) : Prop :=
 Cal Try.prog (fun x : ByteArray × Bool => Value.tuple #[(.string x.1), (.bool x.2)]) 140 #[(.string t0)] w fun t7 w =>
 Jn (σ := Bool) (fun k1 =>
  if t7.2 = true then
   if t7.1 = (⟨#[]⟩ : ByteArray) then
    k1 true w
   else
    Cal Try.prog Value.bool 157 #[(.string t7.1)] w fun t17 w =>
    k1 t17 w
  else
   Cal Try.prog Value.bool 157 #[(.string t7.1)] w fun t17_1 w =>
   k1 t17_1 w
 ) fun s1 w =>
  R s1 w
theorem c141 {t0 : ByteArray} {R : (Bool) → World → Prop} {w : World} (h : f141 t0 R w) :
  Cal Try.prog Value.bool 141 #[(.string t0)] w R := by
 unfold f141 at h
 refine calls_ Try.func141 Try.ntmps141 rfl rfl <| seq_ <| region_ <| asg (.bool false) rfl <| wl_nil <| then_n <| seq_ <| region_ <| mv (.string t0) rfl ?_
 refine st_cal en140 rfl h ?_; clear h; intro t7 w h
 refine mv (.tuple #[(.string t7.1), (.bool t7.2)]) rfl <| st_val (ex_extract (u := (.tuple #[(.string t7.1), (.bool t7.2)])) rfl (v := (.string t7.1)) rfl) <| st_val (ex_extract (u := (.tuple #[(.string t7.1), (.bool t7.2)])) rfl (v := (.bool t7.2)) rfl) <| asg (.string t7.1) rfl <| asg (.bool t7.2) rfl <| wl_nil <| then_n ?_
 refine wp_jn (σ := Bool) (fun s1 l => ∃ j, l = upds j [(2, (.bool s1))]) h ?_ ?_
 ·clear h; rintro s1 _ w ⟨j, rfl⟩ h
  refine wp_ret ?_
  refine ret_1 rfl rfl ⟨s1, rfl, h⟩
 ·clear h; intro k1 h
  refine region_ <| mv (.bool t7.2) rfl <| mv (.bool t7.2) rfl ?_
  by_cases hc2 : t7.2 = true
  ·rw [if_pos hc2] at h
   refine sOn 11 hc2 rfl rfl <| mv (.string t7.1) rfl <| sOn 11 hc2 rfl rfl <| st_val (ex_eqlS (a := t7.1) (b := (⟨#[]⟩ : ByteArray)) rfl rfl) <| st_val (ex_pick1 (b := t7.2) rfl hc2 (v := (.bool (decide (t7.1 = (⟨#[]⟩ : ByteArray))))) rfl) <| mv (.bool (decide (t7.1 = (⟨#[]⟩ : ByteArray)))) rfl ?_
   by_cases hc3 : t7.1 = (⟨#[]⟩ : ByteArray)
   ·rw [if_pos hc3] at h
    refine sOff 15 (decide_eq_true hc3) rfl rfl <| sOff 15 (decide_eq_true hc3) rfl rfl <| st_val (ex_pick1 (b := (decide (t7.1 = (⟨#[]⟩ : ByteArray)))) rfl (decide_eq_true hc3) (v := (.bool true)) rfl) <| asg (.bool true) rfl <| wl_nil ?_
    exact then_n ⟨true, _, rfl, mk_upds' (ae rfl ae0), h⟩
   ·rw [if_neg hc3] at h
    refine sOn 15 (decide_eq_false hc3) rfl rfl <| mv (.string t7.1) rfl <| sOn 15 (decide_eq_false hc3) rfl rfl ?_
    refine st_cal en157 rfl h ?_; clear h; intro t17 w h
    refine st_val (ex_pick0 (b := (decide (t7.1 = (⟨#[]⟩ : ByteArray)))) rfl (decide_eq_false hc3) (v := (.bool t17)) rfl) <| asg (.bool t17) rfl <| wl_nil ?_
    exact then_n ⟨t17, _, rfl, mk_upds' (ae rfl ae0), h⟩
  ·rw [if_neg hc2] at h
   refine sOff 11 (Bool.eq_false_iff.2 hc2) rfl rfl <| sOff 11 (Bool.eq_false_iff.2 hc2) rfl rfl <| st_val (ex_pick0 (b := t7.2) rfl (Bool.eq_false_iff.2 hc2) (v := (.bool false)) rfl) <| mv (.bool false) rfl <| sOn 15 (rfl : false = false) rfl rfl <| mv (.string t7.1) rfl <| sOn 15 (rfl : false = false) rfl rfl ?_
   refine st_cal en157 rfl h ?_; clear h; intro t17_1 w h
   refine st_val (ex_pick0 (b := false) rfl (rfl : false = false) (v := (.bool t17_1)) rfl) <| asg (.bool t17_1) rfl <| wl_nil ?_
   exact then_n ⟨t17_1, _, rfl, mk_upds' (ae rfl ae0), h⟩

def f142 (t0 : ByteArray) (R : (Bool) → World → Prop) (w : World) : Prop :=
 Lp (σ := Int) (fun s1 w n1 =>
  if s1 < (t0.size : Int) then
   Jn (σ := Bool) (fun k3 =>
    RnP Try.prog (Value.int .u8) (Instr.index 9 (.string t0) (.int .i64 s1)) fun t12 =>
    if t12 < 33 then
     k3 true w
    else
     RnP Try.prog (Value.int .u8) (Instr.index 9 (.string t0) (.int .i64 s1)) fun t17 =>
     k3 (decide (126 < t17)) w
   ) fun s3 w =>
    if s3 = true then
     R false w
    else
     n1 (IntKind.i64.wrap (s1 + 1)) w
  else
   Jn (σ := Bool) (fun k6 =>
    if 1 ≤ (t0.size : Int) then
     if (t0.size : Int) ≤ 256 then
      RnP Try.prog (Value.int .u8) (Instr.index 9 (.string t0) (.int .i64 0)) fun t30 =>
      k6 (decide (t30 = 47)) w
     else
      k6 false w
    else
     k6 false w
   ) fun s6 w =>
    R s6 w
 ) 0 w
def f143 (t0 : ByteArray) (t1 : ByteArray) (R : (Bool) → World → Prop) (w : World) : Prop :=
 Jn (σ := Bool) (fun k1 =>
  if (t1.size : Int) ≤ (t0.size : Int) then
   RnP Try.prog Value.string (Instr.sliceAt 9 (.string t0) (some (.int .i64 (IntKind.i64.wrap ((t0.size : Int) - (t1.size : Int))))) none none) fun t17 =>
   k1 (decide (t17 = t1)) w
  else
   k1 false w
 ) fun s1 w =>
  R s1 w
end Go.Proofs.Ytdoeegfcmbcbkaa.Tr


namespace Go.Proofs.Ytdoeegfcmbcbkaa.Tr
open Go Go.Eng
set_option linter.unusedVariables false
set_option maxRecDepth 100000
set_option maxHeartbeats 4000000
def f154 (t0 : ByteArray) (t1 : ByteArray) (R : (Int) → World → Prop) (w : World) : Prop :=
 Rx Try.prog (Value.int .i64) 163 #[(.string t0), (.string t1)] w fun t7 w =>
 R t7 w
theorem c154 {t0 : ByteArray} {t1 : ByteArray} {R : (Int) → World → Prop} {w : World} (h : f154 t0 t1 R w) :
  Cal Try.prog (Value.int .i64) 154 #[(.string t0), (.string t1)] w R := by
 unfold f154 at h
 refine calls_ Try.func154 Try.ntmps154 rfl rfl <| seq_ <| region_ <| asg (.int .i64 0) rfl <| wl_nil <| then_n <| seq_ <| region_ <| mv (.string t0) rfl <| mv (.string t1) rfl ?_
 refine st_rx rfl h ?_; clear h; intro t7 w h
 refine asg (.int .i64 t7) rfl <| wl_nil <| then_n <| wp_ret ?_
 refine ret_1 rfl rfl ⟨t7, rfl, h⟩

def f155 (t0 : Sl) (t1 : Int) (t2 : Int) (t3 : Int) (t4 : Value) (R : (Unit) → World → Prop) (w : World) : Prop :=
 Lp (σ := Int × Int) (fun s1 w n1 =>
  if s1.1 ≠ s1.2 then
   if s1.2 < s1.1 then
    Cal Try.prog (fun _ : Unit => Value.tuple #[]) 164 #[(Sl.v t0), (.int .i64 (IntKind.i64.wrap (t2 - s1.1))), (.int .i64 t2), (.int .i64 s1.2), t4] w fun t31 w =>
    n1 ((IntKind.i64.wrap (s1.1 - s1.2)), s1.2) w
   else
    Cal Try.prog (fun _ : Unit => Value.tuple #[]) 164 #[(Sl.v t0), (.int .i64 (IntKind.i64.wrap (t2 - s1.1))), (.int .i64 (IntKind.i64.wrap ((IntKind.i64.wrap (t2 + s1.2)) - s1.1))), (.int .i64 s1.1), t4] w fun t46 w =>
    n1 (s1.1, (IntKind.i64.wrap (s1.2 - s1.1))) w
  else
   Cal Try.prog (fun _ : Unit => Value.tuple #[]) 164 #[(Sl.v t0), (.int .i64 (IntKind.i64.wrap (t2 - s1.1))), (.int .i64 t2), (.int .i64 s1.1), t4] w fun t57 w =>
   R () w
 ) ((IntKind.i64.wrap (t2 - t1)), (IntKind.i64.wrap (t3 - t2))) w
theorem c155 {t0 : Sl} {t1 : Int} {t2 : Int} {t3 : Int} {t4 : Value} {R : (Unit) → World → Prop} {w : World} (h : f155 t0 t1 t2 t3 t4 R w) :
  Cal Try.prog (fun _ : Unit => Value.tuple #[]) 155 #[(Sl.v t0), (.int .i64 t1), (.int .i64 t2), (.int .i64 t3), t4] w R := by
 unfold f155 at h
 refine calls_ Try.func155 Try.ntmps155 rfl rfl <| seq_ <| region_ <| mv (.int .i64 t2) rfl <| mv (.int .i64 t1) rfl <| st_val (ex_sub (a := t2) (b := t1) rfl rfl) <| asg (.int .i64 (IntKind.i64.wrap (t2 - t1))) rfl <| wl_nil <| then_n <| seq_ ?_
 refine region_ <| mv (.int .i64 t3) rfl <| mv (.int .i64 t2) rfl <| st_val (ex_sub (a := t3) (b := t2) rfl rfl) <| asg (.int .i64 (IntKind.i64.wrap (t3 - t2))) rfl <| wl_nil <| then_n <| seq_ <| wp_block <| wp_lp (σ := Int × Int) (fun s1 a => ∃ j, a = F 58 (upds j [(0, (Sl.v t0)), (2, (.int .i64 t2)), (4, t4), (10, (.int .i64 s1.1)), (11, (.int .i64 s1.2))])) h (mk_upds (ae rfl (ae rfl (ae rfl (ae rfl (ae rfl ae0)))))) ?_
 clear h; rintro s1 _ w n1 ⟨j, rfl⟩ h
 refine seq_ <| seq_ <| region_ <| mv (.int .i64 s1.1) rfl <| mv (.int .i64 s1.2) rfl <| st_val (ex_neq (a := s1.1) (b := s1.2) rfl rfl) <| wl_nil <| then_n ?_
 by_cases hc2 : s1.1 ≠ s1.2
 ·rw [if_pos hc2] at h; refine cond_1 (b := (decide (s1.1 ≠ s1.2))) rfl (decide_eq_true hc2) ?_
  refine wp_skip <| then_n <| wp_block <| seq_ <| region_ <| mv (.int .i64 s1.1) rfl <| mv (.int .i64 s1.2) rfl <| st_val (ex_gtr (a := s1.1) (b := s1.2) rfl rfl) <| wl_nil <| then_n ?_
  by_cases hc3 : s1.2 < s1.1
  ·rw [if_pos hc3] at h; refine cond_1 (b := (decide (s1.2 < s1.1))) rfl (decide_eq_true hc3) ?_
   refine seq_ <| region_ <| mv (Sl.v t0) rfl <| mv (.int .i64 t2) rfl <| mv (.int .i64 s1.1) rfl <| st_val (ex_sub (a := t2) (b := s1.1) rfl rfl) <| mv (.int .i64 t2) rfl <| mv (.int .i64 s1.2) rfl <| mv t4 rfl ?_
   refine st_cal en164 rfl h ?_; clear h; intro t31 w h
   refine wl_nil <| then_n <| region_ <| mv (.int .i64 s1.1) rfl <| mv (.int .i64 s1.2) rfl <| st_val (ex_sub (a := s1.1) (b := s1.2) rfl rfl) <| asg (.int .i64 (IntKind.i64.wrap (s1.1 - s1.2))) rfl <| wl_nil <| inb_n ?_
   exact then_n ⟨((IntKind.i64.wrap (s1.1 - s1.2)), s1.2), mk_upds (ae rfl (ae rfl (ae rfl (ae rfl (ae rfl ae0))))), h⟩
  ·rw [if_neg hc3] at h; refine cond_0 (b := (decide (s1.2 < s1.1))) rfl (decide_eq_false hc3) ?_
   refine seq_ <| region_ <| mv (Sl.v t0) rfl <| mv (.int .i64 t2) rfl <| mv (.int .i64 s1.1) rfl <| st_val (ex_sub (a := t2) (b := s1.1) rfl rfl) <| mv (.int .i64 t2) rfl <| mv (.int .i64 s1.2) rfl <| st_val (ex_add (a := t2) (b := s1.2) rfl rfl) <| mv (.int .i64 s1.1) rfl ?_
   refine st_val (ex_sub (a := (IntKind.i64.wrap (t2 + s1.2))) (b := s1.1) rfl rfl) <| mv (.int .i64 s1.1) rfl <| mv t4 rfl ?_
   refine st_cal en164 rfl h ?_; clear h; intro t46 w h
   refine wl_nil <| then_n <| region_ <| mv (.int .i64 s1.2) rfl <| mv (.int .i64 s1.1) rfl <| st_val (ex_sub (a := s1.2) (b := s1.1) rfl rfl) <| asg (.int .i64 (IntKind.i64.wrap (s1.2 - s1.1))) rfl <| wl_nil <| inb_n ?_
   exact then_n ⟨(s1.1, (IntKind.i64.wrap (s1.2 - s1.1))), mk_upds (ae rfl (ae rfl (ae rfl (ae rfl (ae rfl ae0))))), h⟩
 ·rw [if_neg hc2] at h; refine cond_0 (b := (decide (s1.1 ≠ s1.2))) rfl (decide_eq_false hc2) ?_
  refine wp_exit <| then_e <| then_e <| inb_e <| then_n <| region_ <| mv (Sl.v t0) rfl <| mv (.int .i64 t2) rfl <| mv (.int .i64 s1.1) rfl <| st_val (ex_sub (a := t2) (b := s1.1) rfl rfl) ?_
  refine mv (.int .i64 t2) rfl <| mv (.int .i64 s1.1) rfl <| mv t4 rfl ?_
  refine st_cal en164 rfl h ?_; clear h; intro t57 w h
  refine wl_nil ?_
  refine end_0 rfl ⟨(), rfl, h⟩

def f156 (t0 : ByteArray) (t1 : ByteArray) (R : (ByteArray × Bool) → World → Prop) (w : World) : Prop :=
 Cal Try.prog (fun x : ByteArray × Bool => Value.tuple #[(.string x.1), (.bool x.2)]) 165 #[(.string t0), (.string t1)] w fun t8 w =>
 R (t8.1, t8.2) w
theorem c156 {t0 : ByteArray} {t1 : ByteArray} {R : (ByteArray × Bool) → World → Prop} {w : World} (h : f156 t0 t1 R w) :
  Cal Try.prog (fun x : ByteArray × Bool => Value.tuple #[(.string x.1), (.bool x.2)]) 156 #[(.string t0), (.string t1)] w R := by
 unfold f156 at h
 refine calls_ Try.func156 Try.ntmps156 rfl rfl <| seq_ <| region_ <| asg (.string (⟨#[]⟩ : ByteArray)) rfl <| asg (.bool false) rfl <| wl_nil <| then_n <| seq_ <| region_ <| mv (.string t0) rfl ?_
 refine mv (.string t1) rfl ?_
 refine st_cal en165 rfl h ?_; clear h; intro t8 w h
 refine st_val (ex_extract (u := (.tuple #[(.string t8.1), (.bool t8.2)])) rfl (v := (.string t8.1)) rfl) <| st_val (ex_extract (u := (.tuple #[(.string t8.1), (.bool t8.2)])) rfl (v := (.bool t8.2)) rfl) <| asg (.string t8.1) rfl <| asg (.bool t8.2) rfl <| wl_nil <| then_n <| wp_ret ?_
 refine ret_2 rfl rfl rfl ⟨(t8.1, t8.2), rfl, h⟩

def f157 (t0 : ByteArray) (R : (Bool) → World → Prop) (w : World) : Prop :=
 Jn (σ := Bool) (fun k1 =>
  if (t0.size : Int) < 1 then
   k1 true w
  else
   if 256 < (t0.size : Int) then
    k1 true w
   else
    RnP Try.prog (Value.int .u8) (Instr.index 9 (.string t0) (.int .i64 0)) fun t14 =>
    k1 (decide (t14 ≠ 47)) w
 ) fun s1 w =>
  if s1 = true then
   R false w
  else
   Lp (σ := Int) (fun s5 w n5 =>
    if s5 < (t0.size : Int) then
     Jn (σ := Bool) (fun k7 =>
      RnP Try.prog (Value.int .u8) (Instr.index 9 (.string t0) (.int .i64 s5)) fun t24 =>
      if t24 < 33 then
       k7 true w
      else
       RnP Try.prog (Value.int .u8) (Instr.index 9 (.string t0) (.int .i64 s5)) fun t29 =>
       k7 (decide (126 < t29)) w
     ) fun s7 w =>
      if s7 = true then
       R false w
      else
       n5 (IntKind.i64.wrap (s5 + 1)) w
    else
     R true w
   ) 0 w
theorem c157 {t0 : ByteArray} {R : (Bool) → World → Prop} {w : World} (h : f157 t0 R w) :
  Cal Try.prog Value.bool 157 #[(.string t0)] w R := by
 unfold f157 at h
 refine calls_ Try.func157 Try.ntmps157 rfl rfl <| seq_ <| region_ <| asg (.bool false) rfl <| wl_nil <| then_n <| seq_ ?_
 refine wp_jn (σ := Bool) (fun s1 l => ∃ j, l = upds j [(0, (.string t0)), (16, (.bool s1))]) h ?_ ?_
 ·clear h; rintro s1 _ w ⟨j, rfl⟩ h
  by_cases hc4 : s1 = true
  ·rw [if_pos hc4] at h; refine cond_1 (b := s1) rfl hc4 ?_
   refine seq_ <| region_ <| asg (.bool false) rfl <| wl_nil <| then_n <| wp_ret <| then_r ?_
   refine ret_1 rfl rfl ⟨false, rfl, h⟩
  ·rw [if_neg hc4] at h; refine cond_0 (b := s1) rfl (Bool.eq_false_iff.2 hc4) ?_
   refine wp_skip <| then_n <| seq_ <| seq_ <| region_ <| mv (.string t0) rfl <| st_val (ex_lenS (s := t0) Try.underlying9 rfl) <| mv (.int .i64 0) rfl <| wl_nil <| then_n ?_
   refine wp_block <| wp_lp (σ := Int) (fun s5 a => ∃ j, a = F 33 (upds j [(0, (.string t0)), (18, (.int .i64 (t0.size : Int))), (19, (.int .i64 s5))])) h (mk_upds (ae rfl (ae rfl (ae rfl ae0)))) ?_
   clear h; rintro s5 _ w n5 ⟨j, rfl⟩ h
   refine seq_ <| region_ <| st_val (ex_lss (a := s5) (b := (t0.size : Int)) rfl rfl) <| wl_nil <| then_n <| seq_ ?_
   by_cases hc6 : s5 < (t0.size : Int)
   ·rw [if_pos hc6] at h; refine cond_1 (b := (decide (s5 < (t0.size : Int)))) rfl (decide_eq_true hc6) ?_
    refine wp_skip <| then_n <| seq_ <| wp_block <| seq_ <| region_ <| mv (.int .i64 s5) rfl <| asg (.int .i64 s5) rfl <| wl_nil <| then_n ?_
    refine wp_jn (σ := Bool) (fun s7 l => ∃ j, l = upds j [(0, (.string t0)), (18, (.int .i64 (t0.size : Int))), (19, (.int .i64 s5)), (31, (.bool s7))]) h ?_ ?_
    ·clear h; rintro s7 _ w ⟨j, rfl⟩ h
     by_cases hc9 : s7 = true
     ·rw [if_pos hc9] at h; refine cond_1 (b := s7) rfl hc9 ?_
      refine seq_ <| region_ <| asg (.bool false) rfl <| wl_nil <| then_n <| wp_ret <| inb_r <| then_r <| then_r <| inb_r ?_
      refine then_r ?_
      refine ret_1 rfl rfl ⟨false, rfl, h⟩
     ·rw [if_neg hc9] at h; refine cond_0 (b := s7) rfl (Bool.eq_false_iff.2 hc9) ?_
      refine wp_skip <| inb_n <| then_n <| region_ <| st_val (ex_add (a := s5) (b := 1) rfl rfl) <| mv (.int .i64 (IntKind.i64.wrap (s5 + 1))) rfl <| wl_nil ?_
      exact then_n ⟨(IntKind.i64.wrap (s5 + 1)), mk_upds (ae rfl (ae rfl (ae rfl ae0))), h⟩
    ·clear h; intro k7 h
     refine region_ <| mv (.string t0) rfl <| mv (.int .i64 s5) rfl ?_
     refine st_rnp (fun r => ex_index rfl rfl r) h ?_; clear h; intro t24 h
     refine st_val (ex_lss (a := t24) (b := 33) rfl rfl) <| mv (.bool (decide (t24 < 33))) rfl ?_
     by_cases hc8 : t24 < 33
     ·rw [if_pos hc8] at h
      refine sOff 26 (decide_eq_true hc8) rfl rfl <| sOff 26 (decide_eq_true hc8) rfl rfl <| sOff 26 (decide_eq_true hc8) rfl rfl <| sOff 26 (decide_eq_true hc8) rfl rfl <| st_val (ex_pick1 (b := (decide (t24 < 33))) rfl (decide_eq_true hc8) (v := (.bool true)) rfl) <| wl_nil ?_
      exact then_n ⟨true, _, rfl, mk_upds' (ae rfl (ae rfl (ae rfl (ae rfl ae0)))), h⟩
     ·rw [if_neg hc8] at h
      refine sOn 26 (decide_eq_false hc8) rfl rfl <| mv (.string t0) rfl <| sOn 26 (decide_eq_false hc8) rfl rfl <| mv (.int .i64 s5) rfl <| sOn 26 (decide_eq_false hc8) rfl rfl ?_
      refine st_rnp (fun r => ex_index rfl rfl r) h ?_; clear h; intro t29 h
      refine sOn 26 (decide_eq_false hc8) rfl rfl <| st_val (ex_gtr (a := t29) (b := 126) rfl rfl) <| st_val (ex_pick0 (b := (decide (t24 < 33))) rfl (decide_eq_false hc8) (v := (.bool (decide (126 < t29)))) rfl) <| wl_nil ?_
      exact then_n ⟨(decide (126 < t29)), _, rfl, mk_upds' (ae rfl (ae rfl (ae rfl (ae rfl ae0)))), h⟩
   ·rw [if_neg hc6] at h; refine cond_0 (b := (decide (s5 < (t0.size : Int)))) rfl (decide_eq_false hc6) ?_
    refine wp_exit <| then_e <| then_e <| inb_e <| then_n <| seq_ <| region_ <| asg (.bool true) rfl <| wl_nil <| then_n ?_
    refine wp_ret ?_
    refine ret_1 rfl rfl ⟨true, rfl, h⟩
 ·clear h; intro k1 h
  refine region_ <| mv (.string t0) rfl <| st_val (ex_lenS (s := t0) Try.underlying9 rfl) <| st_val (ex_lss (a := (t0.size : Int)) (b := 1) rfl rfl) <| mv (.bool (decide ((t0.size : Int) < 1))) rfl ?_
  by_cases hc2 : (t0.size : Int) < 1
  ·rw [if_pos hc2] at h
   refine sOff 7 (decide_eq_true hc2) rfl rfl <| sOff 7 (decide_eq_true hc2) rfl rfl <| sOff 7 (decide_eq_true hc2) rfl rfl <| st_val (ex_pick1 (b := (decide ((t0.size : Int) < 1))) rfl (decide_eq_true hc2) (v := (.bool true)) rfl) <| mv (.bool true) rfl <| sOff 12 (rfl : true = !false) rfl rfl <| sOff 12 (rfl : true = !false) rfl rfl <| sOff 12 (rfl : true = !false) rfl rfl <| st_val (ex_pick1 (b := true) rfl (rfl : true = true) (v := (.bool true)) rfl) <| wl_nil ?_
   exact then_n ⟨true, _, rfl, mk_upds' (ae rfl (ae rfl ae0)), h⟩
  ·rw [if_neg hc2] at h
   refine sOn 7 (decide_eq_false hc2) rfl rfl <| mv (.string t0) rfl <| sOn 7 (decide_eq_false hc2) rfl rfl <| st_val (ex_lenS (s := t0) Try.underlying9 rfl) <| sOn 7 (decide_eq_false hc2) rfl rfl <| st_val (ex_gtr (a := (t0.size : Int)) (b := 256) rfl rfl) <| st_val (ex_pick0 (b := (decide ((t0.size : Int) < 1))) rfl (decide_eq_false hc2) (v := (.bool (decide (256 < (t0.size : Int))))) rfl) <| mv (.bool (decide (256 < (t0.size : Int)))) rfl ?_
   by_cases hc3 : 256 < (t0.size : Int)
   ·rw [if_pos hc3] at h
    refine sOff 12 (decide_eq_true hc3) rfl rfl <| sOff 12 (decide_eq_true hc3) rfl rfl <| sOff 12 (decide_eq_true hc3) rfl rfl <| st_val (ex_pick1 (b := (decide (256 < (t0.size : Int)))) rfl (decide_eq_true hc3) (v := (.bool true)) rfl) <| wl_nil ?_
    exact then_n ⟨true, _, rfl, mk_upds' (ae rfl (ae rfl ae0)), h⟩
   ·rw [if_neg hc3] at h
    refine sOn 12 (decide_eq_false hc3) rfl rfl <| mv (.string t0) rfl <| sOn 12 (decide_eq_false hc3) rfl rfl ?_
    refine st_rnp (fun r => ex_index rfl rfl r) h ?_; clear h; intro t14 h
    refine sOn 12 (decide_eq_false hc3) rfl rfl <| st_val (ex_neq (a := t14) (b := 47) rfl rfl) <| st_val (ex_pick0 (b := (decide (256 < (t0.size : Int)))) rfl (decide_eq_false hc3) (v := (.bool (decide (t14 ≠ 47)))) rfl) <| wl_nil ?_
    exact then_n ⟨(decide (t14 ≠ 47)), _, rfl, mk_upds' (ae rfl (ae rfl ae0)), h⟩

def f164 (t0 : Sl) (t1 : Int) (t2 : Int) (t3 : Int) (t4 : Value) (R : (Unit) → World → Prop) (w : World) : Prop :=
 Lp (σ := Int) (fun s1 w n1 =>
  if s1 < t3 then
   Dr w fun w3 w =>
    RnP Try.prog Ptr (Instr.indexAt 51 (Sl.v t0) (.int .i64 (IntKind.i64.wrap (t2 + s1)))) fun t28 =>
    RnL Try.prog THost.v (Instr.loadAt 59 (Ptr t28)) w3 fun t29 =>
    RnP Try.prog Ptr (Instr.indexAt 51 (Sl.v t0) (.int .i64 (IntKind.i64.wrap (t1 + s1)))) fun t34 =>
    RnL Try.prog THost.v (Instr.loadAt 59 (Ptr t34)) w3 fun t35 =>
    RnP Try.prog Ptr (Instr.indexAt 51 (Sl.v t0) (.int .i64 (IntKind.i64.wrap (t1 + s1)))) fun t36 =>
    RnU Try.prog (Instr.storeAt 59 (Ptr t36) (THost.v t29)) w fun w =>
    RnP Try.prog Ptr (Instr.indexAt 51 (Sl.v t0) (.int .i64 (IntKind.i64.wrap (t2 + s1)))) fun t37 =>
    RnU Try.prog (Instr.storeAt 59 (Ptr t37) (THost.v t35)) w fun w =>
    n1 (IntKind.i64.wrap (s1 + 1)) w
  else
   R () w
 ) 0 w
theorem c164 {t0 : Sl} {t1 : Int} {t2 : Int} {t3 : Int} {t4 : Value} {R : (Unit) → World → Prop} {w : World} (h : f164 t0 t1 t2 t3 t4 R w) :
  Cal Try.prog (fun _ : Unit => Value.tuple #[]) 164 #[(Sl.v t0), (.int .i64 t1), (.int .i64 t2), (.int .i64 t3), t4] w R := by
 unfold f164 at h
 refine calls_ Try.func164 Try.ntmps164 rfl rfl <| seq_ <| region_ <| asg (.int .i64 0) rfl <| wl_nil <| then_n <| wp_block <| wp_lp (σ := Int) (fun s1 a => ∃ j, a = F 38 (upds j [(0, (Sl.v t0)), (1, (.int .i64 t1)), (2, (.int .i64 t2)), (3, (.int .i64 t3)), (10, (.int .i64 s1))])) h (mk_upds (ae rfl (ae rfl (ae rfl (ae rfl (ae rfl ae0)))))) ?_
 clear h; rintro s1 _ w n1 ⟨j, rfl⟩ h
 refine seq_ <| seq_ <| region_ <| mv (.int .i64 s1) rfl <| mv (.int .i64 t3) rfl <| st_val (ex_lss (a := s1) (b := t3) rfl rfl) <| wl_nil <| then_n ?_
 by_cases hc2 : s1 < t3
 ·rw [if_pos hc2] at h; refine cond_1 (b := (decide (s1 < t3))) rfl (decide_eq_true hc2) ?_
  refine wp_skip <| then_n <| seq_ <| wp_block ?_
  refine dr_begin mixed [21, 23] (listed := #[false, false, false, false, false, false, false, false, false, false, false, false, false, false, false, false, false, false, false, false, false, false, false, false]) rfl (n := 24) rfl h ?_; clear h; intro w3 h
  have hE : Ext w3 w3 := Ext.refl _
  refine tP 0 rfl (fun _ => hE) (fun _ => ex_move (v := (Sl.v t0)) rfl) <| tP 1 rfl (fun _ => hE) (fun _ => ex_move (v := (.int .i64 t1)) rfl) <| tP 2 rfl (fun _ => hE) (fun _ => ex_move (v := (.int .i64 s1)) rfl) <| tP 3 rfl (fun _ => hE) (fun _ => ex_add (a := t1) (b := s1) rfl rfl) <| tP 4 rfl (fun _ => hE) (fun _ => ex_move (v := (Sl.v t0)) rfl) <| tP 5 rfl (fun _ => hE) (fun _ => ex_move (v := (.int .i64 t2)) rfl) <| tP 6 rfl (fun _ => hE) (fun _ => ex_move (v := (.int .i64 s1)) rfl) <| tP 7 rfl (fun _ => hE) (fun _ => ex_add (a := t2) (b := s1) rfl rfl) <| tP 8 rfl (fun _ => hE) (fun _ => ex_move (v := (Sl.v t0)) rfl) <| tP 9 rfl (fun _ => hE) (fun _ => ex_move (v := (.int .i64 t2)) rfl) ?_
  refine tP 10 rfl (fun _ => hE) (fun _ => ex_move (v := (.int .i64 s1)) rfl) <| tP 11 rfl (fun _ => hE) (fun _ => ex_add (a := t2) (b := s1) rfl rfl) ?_
  obtain ⟨t28, ht28, h⟩ := h
  refine tP 12 rfl (fun _ => hE) (fun _ => (fun r => ex_indexAddr rfl rfl r) (ht28 _)) ?_
  obtain ⟨t29, ht29, h⟩ := h
  refine tK 13 rfl hE (fun _ hw => (fun r => ex_load rfl r) (ht29 _ hw)) <| tP 14 rfl (fun _ => hE) (fun _ => ex_move (v := (Sl.v t0)) rfl) <| tP 15 rfl (fun _ => hE) (fun _ => ex_move (v := (.int .i64 t1)) rfl) <| tP 16 rfl (fun _ => hE) (fun _ => ex_move (v := (.int .i64 s1)) rfl) <| tP 17 rfl (fun _ => hE) (fun _ => ex_add (a := t1) (b := s1) rfl rfl) ?_
  obtain ⟨t34, ht34, h⟩ := h
  refine tP 18 rfl (fun _ => hE) (fun _ => (fun r => ex_indexAddr rfl rfl r) (ht34 _)) ?_
  obtain ⟨t35, ht35, h⟩ := h
  refine tK 19 rfl hE (fun _ hw => (fun r => ex_load rfl r) (ht35 _ hw)) ?_
  obtain ⟨t36, ht36, h⟩ := h
  refine tP 20 rfl (fun _ => hE) (fun _ => (fun r => ex_indexAddr rfl rfl r) (ht36 _)) <| dr_only (i := 21) (by kernel_rfl) rfl rfl ?_
  refine o_rnu (fun r => ex_store rfl rfl r) h ?_; clear h; intro w h; refine ⟨noG (by kernel_rfl), ?_⟩
  obtain ⟨t37, ht37, h⟩ := h
  refine tP 22 rfl (noG (by kernel_rfl)) (fun _ => (fun r => ex_indexAddr rfl rfl r) (ht37 _)) <| dr_only (i := 23) (by kernel_rfl) rfl rfl ?_
  refine o_rnu (fun r => ex_store rfl rfl r) h ?_; clear h; intro w h; refine ⟨noG (by kernel_rfl), ?_⟩
  refine dr_end (by kernel_rfl) <| inb_n <| then_n <| region_ <| mv (.int .i64 s1) rfl <| st_val (ex_add (a := s1) (b := 1) rfl rfl) <| asg (.int .i64 (IntKind.i64.wrap (s1 + 1))) rfl <| wl_nil ?_
  exact then_n ⟨(IntKind.i64.wrap (s1 + 1)), mk_upds (ae rfl (ae rfl (ae rfl (ae rfl (ae rfl ae0))))), h⟩
 ·rw [if_neg hc2] at h; refine cond_0 (b := (decide (s1 < t3))) rfl (decide_eq_false hc2) ?_
  refine wp_exit <| then_e <| then_e <| inb_e ?_
  refine end_0 rfl ⟨(), rfl, h⟩

def f165 (t0 : ByteArray) (t1 : ByteArray) (R : (ByteArray × Bool) → World → Prop) (w : World) : Prop :=
 Cal Try.prog Value.bool 139 #[(.string t0), (.string t1)] w fun t8 w =>
 if (!t8) = true then
  R (t0, false) w
 else
  RnP Try.prog Value.string (Instr.sliceAt 9 (.string t0) none (some (.int .i64 (IntKind.i64.wrap ((t0.size : Int) - (t1.size : Int))))) none) fun t17 =>
  R (t17, true) w
theorem c165 {t0 : ByteArray} {t1 : ByteArray} {R : (ByteArray × Bool) → World → Prop} {w : World} (h : f165 t0 t1 R w) :
  Cal Try.prog (fun x : ByteArray × Bool => Value.tuple #[(.string x.1), (.bool x.2)]) 165 #[(.string t0), (.string t1)] w R := by
 unfold f165 at h
 refine calls_ Try.func165 Try.ntmps165 rfl rfl <| seq_ <| region_ <| asg (.string (⟨#[]⟩ : ByteArray)) rfl <| asg (.bool false) rfl <| wl_nil <| then_n <| seq_ <| seq_ <| region_ ?_
 refine mv (.string t0) rfl <| mv (.string t1) rfl ?_
 refine st_cal en139 rfl h ?_; clear h; intro t8 w h
 refine st_val (ex_not (b := t8) rfl) <| wl_nil <| then_n ?_
 by_cases hc1 : (!t8) = true
 ·rw [if_pos hc1] at h; refine cond_1 (b := (!t8)) rfl hc1 ?_
  refine seq_ <| region_ <| mv (.string t0) rfl <| asg (.string t0) rfl <| asg (.bool false) rfl <| wl_nil <| then_n <| wp_ret <| then_r ?_
  refine ret_2 rfl rfl rfl ⟨(t0, false), rfl, h⟩
 ·rw [if_neg hc1] at h; refine cond_0 (b := (!t8)) rfl (Bool.eq_false_iff.2 hc1) ?_
  refine wp_skip <| then_n <| seq_ <| region_ <| mv (.string t0) rfl <| mv (.string t0) rfl <| st_val (ex_lenS (s := t0) Try.underlying9 rfl) <| mv (.string t1) rfl <| st_val (ex_lenS (s := t1) Try.underlying9 rfl) <| st_val (ex_sub (a := (t0.size : Int)) (b := (t1.size : Int)) rfl rfl) ?_
  refine st_rnp (fun r => ex_slice rfl rfl rfl rfl r) h ?_; clear h; intro t17 h
  refine asg (.string t17) rfl <| asg (.bool true) rfl <| wl_nil <| then_n <| wp_ret ?_
  refine ret_2 rfl rfl rfl ⟨(t17, true), rfl, h⟩


end Go.Proofs.Ytdoeegfcmbcbkaa.Tr


namespace Go.Eng
open Go
set_option linter.unusedVariables false

def At (w : World) (p : Addr) (cs : List Value) : Prop := ∀ i (h : i < cs.length), w.cell? (p.add i) = some cs[i]
theorem add_block (a : Addr) (n : Nat) : (a.add n).block = a.block := by unfold Addr.add; split <;> rfl
theorem add_add (a : Addr) (i j : Nat) : (a.add i).add j = a.add (i + j) := by
  unfold Addr.add
  by_cases hi : i = 0 <;> by_cases hj : j = 0 <;> simp [hi, hj, Nat.add_assoc]
theorem add_zero (a : Addr) : a.add 0 = a := rfl
section
variable {S : Nat → Prop} {w w' : World} {p : Addr} {cs : List Value} {b T : Nat}
theorem At.chg (h : At w p cs) (k : Chg S w w') (hs : p.block < w.heap.size → ¬ S p.block) : At w' p cs := fun i hi =>
  k.cell (h i hi) (by
    have := World.block_lt_of_cell? w _ (h i hi)
    rw [add_block] at this ⊢; exact hs this)
theorem At.ext (h : At w p cs) (k : Ext w w') : At w' p cs := fun i hi => k.cell' (h i hi)
theorem At.one {v : Value} (h : At w p [v]) : w.cell? p = some v := h 0 (by simp)
theorem At.get (h : At w p cs) {i : Nat} (hi : i < cs.length) : w.cell? (p.add i) = some cs[i] := h i hi
def Blk (w : World) (b : Nat) (T : TypeId) (cs : List Value) : Prop := w.heap[b]? = some (.cells cs.toArray T (0, 0))
theorem Blk.lt (h : Blk w b T cs) : b < w.heap.size := (Array.getElem?_eq_some_iff.1 h).1
theorem Blk.chg (h : Blk w b T cs) (k : Chg S w w') (hs : ¬ S b) : Blk w' b T cs := (k.block b h.lt hs).trans h
theorem Blk.ext (h : Blk w b T cs) (k : Ext w w') : Blk w' b T cs := (k.block b h.lt).trans h
theorem Blk.cell (h : Blk w b T cs) {i : Nat} (hi : i < cs.length) : w.cell? ⟨b, i, none⟩ = some cs[i] := by
  unfold Blk at h; simp [World.cell?, h, hi]
theorem blk_add (i j : Nat) : (⟨b, i, none⟩ : Addr).add j = ⟨b, i + j, none⟩ := by
  unfold Addr.add; split <;> simp_all
theorem Blk.at_ (h : Blk w b T cs) {o : Nat} {ds : List Value} (hd : (cs.drop o).take ds.length = ds) : At w ⟨b, o, none⟩ ds := by
  intro i hi
  rw [blk_add]
  have hl : o + i < cs.length := by
    have := congrArg List.length hd
    simp only [List.length_take, List.length_drop] at this; omega
  rw [h.cell hl]
  have : ds[i] = ((cs.drop o).take ds.length)[i]'(by rw [hd]; exact hi) := by congr 1; exact hd.symm
  rw [this]; simp
theorem Blk.whole (h : Blk w b T cs) : At w ⟨b, 0, none⟩ cs := h.at_ (by simp)
theorem Blk.frozen (h : Blk w b T cs) (i : Nat) : w.frozen? ⟨b, i, none⟩ = false := by
  unfold Blk at h; simp [World.frozen?, h]
end

section
variable {w : World} {T : TypeId} {cs : List Value}
theorem New.mk {K : Nat → World → Prop} (h : ∀ b w', Ext w w' → Blk w' b T cs → b = w.heap.size → w'.heap.size = w.heap.size + 1 → K b w') : New T cs w K := by
  intro b w' hb hw
  subst hb hw
  exact h _ _ (Ext.alloc _ _) (heap_alloc_new w _) rfl (Array.size_push _)
theorem NewM.mk {K : Nat → World → Prop} (h : ∀ b w', Ext w w' → w'.heap[b]? = some (.map #[] 0) → b = w.heap.size → w'.heap.size = w.heap.size + 1 → K b w') : NewM w K := by
  intro b w' hb hw
  subst hb hw
  exact h _ _ (Ext.alloc _ _) (heap_alloc_new w _) rfl (Array.size_push _)
theorem Dr.mk {K : World → World → Prop} (h : ∀ w', Ext w w' → w'.heap = w.heap → K w' w') : Dr w K := h _ (Ext.drew w) rfl
end

section
variable {P : Program} {t : TypeId} {w w0 : World} {p : Addr} {α : Type} {enc : α → Value} {x : α}
theorem prog_run (w : World) : (program.run P w : Result Program) = .ok P w := rfl
theorem load1_run (h : One P t) {v : Value} (hc : w.cell? p = some v) : (loadVar t p).run P w = .ok v w := by
  obtain ⟨d, hu, hd⟩ := h
  have h1 : (isAgg t).run P w = .ok false w := by
    unfold isAgg
    simp only [Sem.run_bind, run_underlying hu, Result.andThen_ok]
    cases d <;> first | rfl | cases hd
  simp only [loadVar, Sem.run_bind, h1, Result.andThen_ok, Bool.false_eq_true, if_false]
  simp [load, Sem.run, hc]
theorem loadN_run {n : Nat} (h : Many P t n) {cs : List Value} (hc : At w p cs) (hn : cs.length = n) : (loadVar t p).run P w = .ok (.agg cs.toArray) w := by
  obtain ⟨⟨d, hu, hd⟩, hs⟩ := h
  have h1 : (isAgg t).run P w = .ok true w := by
    unfold isAgg
    simp only [Sem.run_bind, run_underlying hu, Result.andThen_ok]
    cases d <;> first | rfl | cases hd
  have h2 : (sizeOf t).run P w = .ok n w := by
    cases hi : P.info? t with
    | none => rw [hi] at hs; cases hs
    | some i =>
      rw [hi] at hs
      have : i.size = n := by simpa using hs
      simp [sizeOf, typeInfo, prog_run, hi, this]
  have h3 := run_loadCells_list (P := P) (w := w) p cs (fun j v hj => by
    obtain ⟨hj', rfl⟩ := List.getElem?_eq_some_iff.1 hj
    exact hc j hj')
  rw [hn] at h3
  simp only [loadVar, Sem.run_bind, h1, Result.andThen_ok, if_true, h2, h3, Sem.run_pure]
theorem rn_ld1 {K : α → World → Prop} (h : One P t) (hc : w.cell? p = some (enc x)) (hk : K x w) : Rn P enc (Instr.loadAt t (Ptr p)) w K :=
  ⟨x, w, by simp [Instr.loadAt, Instr.sureAddr, Ptr, load1_run h hc], hk⟩
theorem rnl_ld1 {K : α → Prop} (h : One P t) (hc : w0.cell? p = some (enc x)) (hk : K x) : RnL P enc (Instr.loadAt t (Ptr p)) w0 K :=
  ⟨x, fun w hw => by simp [Instr.loadAt, Instr.sureAddr, Ptr, load1_run h (hw.cell' hc)], hk⟩
theorem rn_ldN {K : α → World → Prop} {n : Nat} {cs : List Value} (h : Many P t n) (hc : At w p cs) (hn : cs.length = n) (he : enc x = .agg cs.toArray) (hk : K x w) : Rn P enc (Instr.loadAt t (Ptr p)) w K :=
  ⟨x, w, by simp [Instr.loadAt, Instr.sureAddr, Ptr, loadN_run h hc hn, he], hk⟩
theorem rnl_ldN {K : α → Prop} {n : Nat} {cs : List Value} (h : Many P t n) (hc : At w0 p cs) (hn : cs.length = n) (he : enc x = .agg cs.toArray) (hk : K x) : RnL P enc (Instr.loadAt t (Ptr p)) w0 K :=
  ⟨x, fun w hw => by simp [Instr.loadAt, Instr.sureAddr, Ptr, loadN_run h (hc.ext hw) hn, he], hk⟩
theorem rnr_ldN {K : α → Prop} {n : Nat} {cs : List Value} (h : Many P t n) (hc : At w p cs) (hn : cs.length = n) (he : enc x = .agg cs.toArray) (hk : K x) : RnR P enc (loadVar t p) w K :=
  ⟨x, by rw [loadN_run h hc hn, he], hk⟩
end

def over (cs : List Value) (o : Nat) (vs : List Value) : List Value := cs.take o ++ vs ++ cs.drop (o + vs.length)
theorem over_length {cs : List Value} {o : Nat} {vs : List Value} (h : o + vs.length ≤ cs.length) : (over cs o vs).length = cs.length := by
  simp [over]; omega
section
variable {P : Program} {t : TypeId} {w : World} {b T : Nat} {cs vs : List Value} {o : Nat}
theorem store_run {v : Value} (hs : (P.info? t).map (·.size) = some vs.length) (hv : v.cells = vs.toArray) (h1 : ∀ u ∈ vs, u.oneCell' = true) (hb : Blk w b T cs) (ho : o + vs.length ≤ cs.length) :
    ∃ w', (storeVar t ⟨b, o, none⟩ v).run P w = .ok () w' ∧ Chg (fun k => k = b) w w' ∧ w'.heap.size = w.heap.size ∧ Blk w' b T (over cs o vs) := by
  have h2 : (sizeOf t).run P w = .ok vs.length w := by
    cases hi : P.info? t with
    | none => rw [hi] at hs; cases hs
    | some i =>
      rw [hi] at hs
      have : i.size = vs.length := by simpa using hs
      simp [sizeOf, typeInfo, prog_run, hi, this]
  have h3 := run_storeCells_at P b o T vs 0 cs.toArray w hb (by simpa using ho) h1
  refine ⟨w.setRow b (over cs o vs).toArray, ?_, ⟨rfl, rfl, rfl, ?_, ?_⟩, ?_, ?_⟩
  · simp only [storeVar, Sem.run_bind, h2, Result.andThen_ok, hv]
    rw [if_neg (by simp)]
    simpa [over] using h3
  · exact Nat.le_of_eq (by simp [World.setRow])
  · intro k _ hk
    exact setRow_other w b k _ (fun e => hk e)
  · simp [World.setRow]
  · exact setRow_heap w b cs.toArray _ T (0, 0) hb
theorem rnu_st {v : Value} {p : Addr} {K : World → Prop} (hp : p = ⟨b, o, none⟩) (hb : Blk w b T cs) (vs : List Value) (hs : (P.info? t).map (·.size) = some vs.length) (hv : v.cells = vs.toArray)
    (h1 : ∀ u ∈ vs, u.oneCell' = true) (ho : o + vs.length ≤ cs.length)
    (hk : ∀ w', Chg (fun k => k = b) w w' → w'.heap.size = w.heap.size → Blk w' b T (over cs o vs) → K w') : RnU P (Instr.storeAt t (Ptr p) v) w K := by
  subst hp
  obtain ⟨w', hr, h2, h3, h4⟩ := store_run (P := P) (t := t) hs hv h1 hb ho
  exact ⟨w', by simpa [Instr.storeAt, Instr.sureAddr, Ptr] using hr, hk w' h2 h3 h4⟩
end

section
variable {α β : Type} (cells : α → List Value) (sz : Nat)
structure Rd (F : Nat → Prop) (w : World) (s : Sl) (l : List α) : Prop where
  len : s.n = l.length
  cap : s.n ≤ s.c
  lim : s.c ≤ maxLen
  el : ∀ k (h : k < l.length), ∃ a, s.a = some a ∧ F a.block ∧ At w (a.add (k * sz)) (cells l[k])
end
section
variable {α : Type} {cells : α → List Value} {sz : Nat} {F G S : Nat → Prop} {w w' : World} {s : Sl} {l : List α}
theorem Rd.mono (h : Rd cells sz F w s l) (hF : ∀ b, F b → G b) : Rd cells sz G w s l := ⟨h.len, h.cap, h.lim, fun k hk => let ⟨a, h1, h2, h3⟩ := h.el k hk; ⟨a, h1, hF _ h2, h3⟩⟩
theorem Rd.ext (h : Rd cells sz F w s l) (k : Ext w w') : Rd cells sz F w' s l := ⟨h.len, h.cap, h.lim, fun i hi => let ⟨a, h1, h2, h3⟩ := h.el i hi; ⟨a, h1, h2, h3.ext k⟩⟩
theorem Rd.chg (h : Rd cells sz F w s l) (k : Chg S w w') (hs : ∀ b, F b → b < w.heap.size → ¬ S b) : Rd cells sz F w' s l :=
  ⟨h.len, h.cap, h.lim, fun i hi => let ⟨a, h1, h2, h3⟩ := h.el i hi; ⟨a, h1, h2, h3.chg k (by rw [add_block]; exact hs _ h2)⟩⟩
theorem Rd.nil_ (F : Nat → Prop) (w : World) : Rd cells sz F w Sl.nil [] := ⟨rfl, Nat.le_refl _, Nat.zero_le _, fun k hk => absurd hk (Nat.not_lt_zero _)⟩
theorem Rd.empty {a : Option Addr} {c : Nat} (hc : c ≤ maxLen) (F : Nat → Prop) (w : World) : Rd cells sz F w ⟨a, 0, c⟩ [] := ⟨rfl, Nat.zero_le _, hc, fun k hk => absurd hk (Nat.not_lt_zero _)⟩
theorem Blk.rd {b T : Nat} {cs : List Value} (hb : Blk w b T cs) {l : List α} (hcs : cs = l.flatMap cells) (hsz : ∀ x ∈ l, (cells x).length = sz) (hF : F b) {n : Nat} (hn : n = l.length) (hm : n ≤ maxLen) : Rd cells sz F w ⟨some ⟨b, 0, none⟩, n, n⟩ l := by
  subst hcs
  refine ⟨hn, Nat.le_refl _, hm, fun k hk => ⟨⟨b, 0, none⟩, rfl, hF, ?_⟩⟩
  rw [blk_add]
  refine hb.at_ ?_
  rw [Nat.zero_add, hsz _ (List.getElem_mem hk)]
  clear hb hn hF hm
  induction l generalizing k with
  | nil => exact absurd hk (Nat.not_lt_zero _)
  | cons x l ih =>
    have hx := hsz x (by simp)
    cases k with
    | zero => simp [List.flatMap_cons, ← hx]
    | succ k =>
      simp only [List.flatMap_cons, List.getElem_cons_succ]
      have := ih (fun y hy => hsz y (by simp [hy])) k (by simpa using hk)
      rw [← this]
      congr 1
      rw [List.drop_append, List.drop_eq_nil_of_le (by rw [hx, Nat.add_mul]; omega), List.nil_append]
      congr 1
      rw [hx, Nat.add_mul]; omega
end
section
variable {P : Program} {α : Type} {cells : α → List Value} {sz t e : Nat} {F : Nat → Prop} {w : World} {s : Sl} {l : List α}
theorem size_run {n : Nat} (hs : (P.info? t).map (·.size) = some n) (w : World) : (sizeOf t).run P w = .ok n w := by
  cases hi : P.info? t with
  | none => rw [hi] at hs; cases hs
  | some i =>
    rw [hi] at hs
    have : i.size = n := by simpa using hs
    simp [sizeOf, typeInfo, prog_run, hi, this]
theorem idx_run (ht : SlT P t e sz) {a : Addr} (ha : s.a = some a) {k : Nat} (hk : k < s.n) (w : World) : (Instr.indexAt t (Sl.v s) (.int .i64 (k : Int))).run P w = .ok (Ptr (a.add (k * sz))) w := by
  obtain ⟨sa, n, c⟩ := s
  simp only at ha hk
  subst ha
  have h1 : (k : Int) < (n : Int) := by omega
  have h2 := size_run ht.2 w
  simp only [Instr.indexAt, Sl.v, asIntOf, Sem.run_bind, Sem.run_pure, Result.andThen_ok, run_underlying ht.1]
  rw [if_pos ⟨by omega, h1⟩]
  simp only [Sem.run_bind, h2, Result.andThen_ok, Sem.run_pure, Ptr, Int.toNat_natCast]
theorem rnp_idx (ht : SlT P t e sz) (hs : Rd cells sz F w s l) {k : Nat} (hk : k < l.length) {i : Int} (hi : i = k) {K : Addr → Prop} (h : ∀ p, F p.block → At w p (cells l[k]) → K p) :
    RnP P Ptr (Instr.indexAt t (Sl.v s) (.int .i64 i)) K := by
  obtain ⟨a, ha, hF, hat⟩ := hs.el k hk
  subst hi
  exact ⟨_, fun w => idx_run ht ha (by rw [hs.len]; exact hk) w, h _ (by rw [add_block]; exact hF) hat⟩
end

structure Own {α : Type} (cells : α → List Value) (sz : Nat) (T : TypeId) (B : Nat) (w : World) (s : Sl) (l : List α) : Prop where
  row : w.ownsRow B T sz (Sl.v s) l.length (l.flatMap cells)
  sz_ : ∀ x ∈ l, (cells x).length = sz
def own? (s : Sl) (b : Nat) : Prop := ∃ a, s.a = some a ∧ a.block = b
section
variable {P : Program} {α : Type} {cells : α → List Value} {sz t T ty B : Nat} {F S : Nat → Prop} {w w' : World} {s : Sl} {l : List α}
theorem Own.nil_ (B : Nat) (w : World) : Own cells sz T B w Sl.nil ([] : List α) := ⟨World.ownsRow_nil w B T sz, fun x hx => by cases hx⟩
theorem Own.len (h : Own cells sz T B w s l) : s.n = l.length := by
  obtain ⟨a, n, c⟩ := s
  rcases h.row.2 with ⟨hv, hn⟩ | ⟨g, cap, cur, hv, _⟩
  · simp only [Sl.v, Value.slice.injEq] at hv
    show n = _
    omega
  · simp only [Sl.v, Value.slice.injEq] at hv
    exact hv.2.1
theorem Own.ge (h : Own cells sz T B w s l) {b : Nat} (hb : own? s b) : B ≤ b ∧ b < w.heap.size := by
  obtain ⟨a, ha, rfl⟩ := hb
  exact h.row.lt a.block (by obtain ⟨sa, n, c⟩ := s; simp only at ha; subst ha; rfl)
theorem Own.chg (h : Own cells sz T B w s l) (k : Chg S w w') (hs : ∀ b, own? s b → ¬ S b) : Own cells sz T B w' s l := by
  refine ⟨⟨h.row.1, ?_⟩, h.sz_⟩
  rcases h.row.2 with hn | ⟨g, cap, cur, hv, hbg, hg, rest⟩
  · exact .inl hn
  · refine .inr ⟨g, cap, cur, hv, hbg, ?_, rest⟩
    have ho : own? s g := by
      obtain ⟨a, n, c⟩ := s
      simp only [Sl.v, Value.slice.injEq] at hv
      exact ⟨_, hv.1, rfl⟩
    rw [k.block g (Array.getElem?_eq_some_iff.1 hg).1 (hs g ho)]; exact hg
theorem Own.ext (h : Own cells sz T B w s l) (k : Ext w w') : Own cells sz T B w' s l := h.chg (k.chg (fun _ => False)) (fun _ _ h => h)
theorem Own.weaken {B' : Nat} (h : Own cells sz T B w s l) (hB : B' ≤ B) : Own cells sz T B' w s l := by
  refine ⟨⟨h.row.1, ?_⟩, h.sz_⟩
  rcases h.row.2 with hn | ⟨g, cap, cur, hv, hbg, rest⟩
  · exact .inl hn
  · exact .inr ⟨g, cap, cur, hv, Nat.le_trans hB hbg, rest⟩
theorem Own.rd (h : Own cells sz T B w s l) (hF : ∀ b, own? s b → F b) : Rd cells sz F w s l := by
  have hl := h.len
  obtain ⟨a, n, c⟩ := s
  rcases h.row.2 with ⟨hv, hn⟩ | ⟨g, cap, cur, hv, hbg, hg, hnc, hcm, hcs, htake⟩
  · simp only [Sl.v, Value.slice.injEq] at hv
    have : l = [] := List.eq_nil_of_length_eq_zero hn
    subst this
    exact ⟨hl, by show n ≤ c; simp only at hl; simp at hl; omega, by show c ≤ maxLen; unfold maxLen; omega, fun k hk => absurd hk (Nat.not_lt_zero _)⟩
  · simp only [Sl.v, Value.slice.injEq] at hv
    obtain ⟨rfl, rfl, rfl⟩ := hv
    refine ⟨hl, hnc, hcm, fun k hk => ⟨⟨g, 0, none⟩, rfl, hF g ⟨_, rfl, rfl⟩, ?_⟩⟩
    intro i hi
    rw [blk_add, blk_add]
    have hszk := h.sz_ _ (List.getElem_mem hk)
    have hfl : (l.flatMap cells)[k * sz + i]? = some ((cells l[k])[i]) := by
      clear htake hcs hg hnc hcm hF hl
      have key : ∀ (l : List α) (k : Nat) (hk : k < l.length), (∀ x ∈ l, (cells x).length = sz) → ∀ hi : i < (cells l[k]).length, (l.flatMap cells)[k * sz + i]? = some ((cells l[k])[i]) := by
        intro l
        induction l with
        | nil => intro k hk; exact absurd hk (Nat.not_lt_zero _)
        | cons x l ih =>
          intro k hk hsz hi
          have hx := hsz x (by simp)
          cases k with
          | zero =>
            simp only [List.flatMap_cons, Nat.zero_mul, Nat.zero_add, List.getElem_cons_zero] at hi ⊢
            rw [List.getElem?_append_left hi, List.getElem?_eq_getElem hi]
          | succ k =>
            simp only [List.flatMap_cons, List.getElem_cons_succ] at hi ⊢
            rw [List.getElem?_append_right (by rw [hx, Nat.add_mul]; omega)]
            have e : (k + 1) * sz + i - (cells x).length = k * sz + i := by rw [hx, Nat.add_mul]; omega
            rw [e]
            exact ih k (by simpa using hk) (fun y hy => hsz y (by simp [hy])) hi
      exact key l k hk h.sz_ hi
    have hcell := cell_of_row w g (0 + k * sz + i) cur T (0, 0) hg
    rw [hcell]
    have hlt : k * sz + i < l.length * sz := by
      have h1 : i < sz := by omega
      have h2 : (k + 1) * sz ≤ l.length * sz := Nat.mul_le_mul_right _ hk
      rw [Nat.add_mul] at h2; omega
    rw [← htake, List.getElem?_take, if_pos hlt] at hfl
    rw [Nat.zero_add]
    simpa using hfl
theorem app_run {bytes : Nat} {z : Value} (ht : ElT P t T sz bytes z) (h : Own cells sz T B w s l) {a : Addr} {m c : Nat} {l' : List α} (hm : m = l'.length) (hl' : ∀ x ∈ l', (cells x).length = sz)
    (hc : ∀ j u, (l'.flatMap cells)[j]? = some u → w.cell? (a.add j) = some u) (h1 : ∀ x ∈ l', ∀ u ∈ cells x, u.oneCell' = true) (hbytes : (l.length + l'.length) * bytes ≤ 140737488355328) (hpos : 0 < bytes) (hB : B ≤ w.heap.size) :
    ∃ s' w', (Builtin.append_ #[t, t] ty #[Sl.v s, .slice (some a) m c]).run P w = .ok (Sl.v s') w' ∧ Own cells sz T B w' s' (l ++ l') ∧ Chg (own? s) w w' ∧ (∀ b, own? s' b → own? s b ∨ b = w.heap.size) := by
  subst hm
  obtain ⟨i, hi, h2⟩ : ∃ i, P.info? T = some i ∧ (i.zero, i.size, i.bytes) = (some z, sz, bytes) := by
    have := ht.inf
    cases hi : P.info? T with
    | none => rw [hi] at this; cases this
    | some i => rw [hi] at this; exact ⟨i, rfl, by simpa using this⟩
  simp only [Prod.mk.injEq] at h2
  have hlen : ∀ (l : List α), (∀ x ∈ l, (cells x).length = sz) → (l.flatMap cells).length = l.length * sz := by
    intro l
    induction l with
    | nil => intro _; simp
    | cons x l ih => intro hh; simp [List.flatMap_cons, hh x (by simp), ih (fun y hy => hh y (by simp [hy])), Nat.add_mul]; omega
  have hmax : l.length + l'.length ≤ maxLen := by
    have : (l.length + l'.length) * 1 ≤ (l.length + l'.length) * bytes := Nat.mul_le_mul_left _ hpos
    unfold maxLen; omega
  have h1' : ∀ u ∈ l'.flatMap cells, u.oneCell' = true := fun u hu => by obtain ⟨x, hx, hu⟩ := List.mem_flatMap.1 hu; exact h1 x hx u hu
  obtain ⟨v', w', hr, ho, hg, h5⟩ := run_append_own (P := P) w B t ty T i z sz bytes ht.und hi h2.1 h2.2.1 h2.2.2 ht.zc ht.pos (Sl.v s) l.length (l.flatMap cells) h.row a l'.length c (l'.flatMap cells)
    (hlen l' hl') hc h1' hmax hbytes hB
  have hv : ∃ s' : Sl, v' = Sl.v s' := by
    rcases ho.2 with ⟨rfl, _⟩ | ⟨g, cap, cur, rfl, _⟩
    · exact ⟨Sl.nil, rfl⟩
    · exact ⟨⟨_, _, _⟩, rfl⟩
  obtain ⟨s', rfl⟩ := hv
  refine ⟨s', w', hr, ⟨by rw [List.length_append, List.flatMap_append]; exact ho, fun x hx => (List.mem_append.1 hx).elim (h.sz_ x) (hl' x)⟩, ⟨hg.os, hg.tape, hg.output, hg.size, fun k hk hn => hg.block k hk fun e => hn ?_⟩, ?_⟩
  · obtain ⟨sa, n, c'⟩ := s
    cases sa with
    | none => simp [Sl.v, Value.ownBlock] at e
    | some a => simp only [Sl.v, Value.ownBlock, Option.some.injEq] at e; exact ⟨a, rfl, e.symm⟩
  · intro b hb
    obtain ⟨a', ha', rfl⟩ := hb
    obtain ⟨sa', n', c''⟩ := s'
    simp only at ha'
    subst ha'
    have hbound : ((l.length + l'.length : Nat) : Int) ≤ 9223372036854775807 := by unfold maxLen at hmax; omega
    rcases h.row.2 with ⟨hv, hn0⟩ | ⟨g, cap, cur, hv, hbg, hgg, hnc, hcm, hcs, htake⟩
    · by_cases hm0 : l'.length = 0
      · have := h5.2 ⟨hv, hm0⟩
        simp [Sl.v] at this
      · rw [hv] at hr
        have hr2 := run_append_nil (P := P) w t ty T i z ht.und hi h2.1 a l'.length c (l'.flatMap cells) (by rw [h2.2.1]; exact hlen l' hl') hc (by omega) (by omega) (by rw [h2.2.2]; rw [hn0, Nat.zero_add] at hbytes; omega)
        rw [hr2] at hr
        injection hr with e1 e2
        simp only [Sl.v, Value.slice.injEq, Option.some.injEq] at e1
        exact .inr (by rw [← e1.1])
    · rw [hv] at hr
      have hsa : s.a = some ⟨g, 0, none⟩ := by
        obtain ⟨sa, n, c'⟩ := s
        simp only [Sl.v, Value.slice.injEq] at hv; exact hv.1
      by_cases hroom : l.length + l'.length ≤ cap
      · have hr2 := run_append_room (P := P) w t ty T i ht.und hi g l.length cap cur hgg a l'.length c (l'.flatMap cells) (by rw [h2.2.1]; exact hlen l' hl') hc h1' hroom
          (by rw [h2.2.1, hlen l' hl', hcs, ← Nat.add_mul]; exact Nat.mul_le_mul_right _ hroom)
        rw [hr2] at hr
        injection hr with e1 e2
        simp only [Sl.v, Value.slice.injEq, Option.some.injEq] at e1
        exact .inl ⟨_, hsa, by rw [← e1.1]⟩
      · have holds : ∀ j u, (l.flatMap cells)[j]? = some u → w.cell? ((⟨g, 0, none⟩ : Addr).add j) = some u := h.row.cells (g := g) (by rw [hv]; rfl)
        have hr2 := run_append_grow (P := P) w t ty T i z ht.und hi h2.1 ⟨g, 0, none⟩ l.length cap (l.flatMap cells) (by rw [h2.2.1]; exact h.row.1) holds a l'.length c (l'.flatMap cells) (by rw [h2.2.1]; exact hlen l' hl') hc
          (by omega) hbound (by rw [h2.2.2]; exact growslice_fits (by omega) hbytes)
        rw [hr2] at hr
        injection hr with e1 e2
        simp only [Sl.v, Value.slice.injEq, Option.some.injEq] at e1
        exact .inr (by rw [← e1.1])
theorem rn_app1 {bytes : Nat} {z : Value} {b : Nat} {x : α} {cs : List Value} {K : Sl → World → Prop} (ht : ElT P t T sz bytes z) (h : Own cells sz T B w s l) (hb : Blk w b T cs) (hcs : cs = cells x) (hx : (cells x).length = sz)
    (h1 : ∀ u ∈ cells x, u.oneCell' = true) (hbytes : (l.length + 1) * bytes ≤ 140737488355328) (hpos : 0 < bytes) (hB : B ≤ w.heap.size)
    (hk : ∀ s' w', Own cells sz T B w' s' (l ++ [x]) → Chg (own? s) w w' → (∀ b, own? s' b → own? s b ∨ b = w.heap.size) → K s' w') : Rn P Sl.v (Builtin.append_ #[t, t] ty #[Sl.v s, Sl.v ⟨some ⟨b, 0, none⟩, 1, 1⟩]) w K := by
  subst hcs
  obtain ⟨s', w', hr, ho, hg, hn⟩ := app_run (ty := ty) (c := 1) (a := ⟨b, 0, none⟩) (l' := [x]) (m := 1) ht h rfl (by simpa using hx) (fun j u hu => by
    have hu' : (cells x)[j]? = some u := by simpa using hu
    obtain ⟨hj, rfl⟩ := List.getElem?_eq_some_iff.1 hu'
    rw [blk_add, Nat.zero_add]; exact hb.cell hj) (by simpa using h1) (by simpa using hbytes) hpos hB
  exact ⟨s', w', hr, hk s' w' ho hg hn⟩
end
section
variable {P : Program} {t : TypeId} {w w0 : World} {p : Addr} {α β : Type} {enc : α → Value} {x : α} {cs : List Value} {b T : Nat} {cells : β → List Value} {sz : Nat} {F : Nat → Prop} {s : Sl} {l : List β}
theorem At.get? (h : At w p cs) {i : Nat} {v : Value} (hi : cs[i]? = some v) : w.cell? (p.add i) = some v := by
  obtain ⟨hj, rfl⟩ := List.getElem?_eq_some_iff.1 hi
  exact h i hj
theorem rn_at {K : α → World → Prop} {i : Nat} (h : One P t) (hp : At w p cs) (hi : cs[i]? = some (enc x)) (hk : K x w) : Rn P enc (Instr.loadAt t (Ptr (p.add i))) w K := rn_ld1 h (hp.get? hi) hk
theorem rnl_at {K : α → Prop} {i : Nat} (h : One P t) (hp : At w0 p cs) (hi : cs[i]? = some (enc x)) (hk : K x) : RnL P enc (Instr.loadAt t (Ptr (p.add i))) w0 K := rnl_ld1 h (hp.get? hi) hk
theorem rn_at0 {K : α → World → Prop} (h : One P t) (hp : At w p [enc x]) (hk : K x w) : Rn P enc (Instr.loadAt t (Ptr p)) w K := rn_ld1 h hp.one hk
theorem rn_blk {K : α → World → Prop} {i : Nat} (h : One P t) (hb : Blk w b T cs) (hp : p = ⟨b, i, none⟩) (hi : cs[i]? = some (enc x)) (hk : K x w) : Rn P enc (Instr.loadAt t (Ptr p)) w K := by
  obtain ⟨hj, e⟩ := List.getElem?_eq_some_iff.1 hi
  subst hp; exact rn_ld1 h ((hb.cell hj).trans (by rw [e])) hk
theorem rnl_blk {K : α → Prop} {i : Nat} (h : One P t) (hb : Blk w0 b T cs) (hp : p = ⟨b, i, none⟩) (hi : cs[i]? = some (enc x)) (hk : K x) : RnL P enc (Instr.loadAt t (Ptr p)) w0 K := by
  obtain ⟨hj, e⟩ := List.getElem?_eq_some_iff.1 hi
  subst hp; exact rnl_ld1 h ((hb.cell hj).trans (by rw [e])) hk
theorem rn_blkN {K : α → World → Prop} {n : Nat} (h : Many P t n) (hb : Blk w b T cs) (hn : cs.length = n) (he : enc x = .agg cs.toArray) (hk : K x w) : Rn P enc (Instr.loadAt t (Ptr ⟨b, 0, none⟩)) w K := rn_ldN h hb.whole hn he hk
theorem Cal.mono {f : FuncId} {args : Array Value} {K K' : α → World → Prop} (h : Cal P enc f args w K) (hk : ∀ x w', K x w' → K' x w') : Cal P enc f args w K' :=
  Calls.mono h fun e w' ⟨x, he, hK⟩ => ⟨x, he, hk x w' hK⟩
theorem Lp.mk {σ : Type} {body : σ → World → (σ → World → Prop) → Prop} {s : σ} (I : σ → World → Prop) (m : σ → Nat) (h0 : I s w)
    (h : ∀ s w K, I s w → (∀ s' w', I s' w' → m s' < m s → K s' w') → body s w K) : Lp body s w :=
  ⟨I, fun s _ => m s, h0, fun s w hI => h s w _ hI fun _ _ h1 h2 => ⟨h1, h2⟩⟩
theorem wrap_in {n : Int} (h : -9223372036854775808 ≤ n ∧ n ≤ 9223372036854775807) : IntKind.i64.wrap n = n := IntWalk.i64_in n h
theorem Rd.wr (h : Rd cells sz F w s l) {k : Nat} (hk : k < l.length) : IntKind.i64.wrap ((k : Int) + 1) = ((k + 1 : Nat) : Int) := by
  have h1 := h.lim; have h2 := h.len; have h3 := h.cap
  unfold maxLen at h1
  rw [wrap_in ⟨by omega, by omega⟩]; rfl
end
end Go.Eng


namespace Go.Eng
open Go
set_option linter.unusedVariables false

section
variable {P : Program} {t e sz : Nat} {w : World} {s : Sl}
def Sl.cut (s : Sl) (lo hi sz : Nat) : Sl := ⟨if s.c = lo then s.a else s.a.map (·.add (lo * sz)), hi - lo, s.c - lo⟩
def optI : Option Nat → Option Value
  | none => none
  | some k => some (.int .i64 (k : Int))
theorem slice_run (ht : SlT P t e sz) {lo hi : Option Nat} (h1 : lo.getD 0 ≤ hi.getD s.n) (h2 : hi.getD s.n ≤ s.c) (w : World) :
    (Instr.sliceAt t (Sl.v s) (optI lo) (optI hi) none).run P w = .ok (Sl.v (s.cut (lo.getD 0) (hi.getD s.n) sz)) w := by
  obtain ⟨a, n, c⟩ := s
  have hsz := size_run ht.2 w
  have hb : ∀ (k y : Nat) (code : BoundsCode), k ≤ y → (Instr.sliceBound (.int .i64 (k : Int)) y code).run P w = .ok k w := by
    intro k y code hk
    simp only [Instr.sliceBound, asIntOf, Sem.run_bind, Sem.run_pure, Result.andThen_ok]
    rw [if_pos ⟨by omega, by omega⟩]
    simp
  simp only [Instr.sliceAt, Sl.v, Sem.run_bind, run_underlying ht.1, Result.andThen_ok, Instr.slice]
  have hbd : (Instr.sliceBounds true n c (optI lo) (optI hi) none).run P w = .ok (lo.getD 0, hi.getD n, c) w := by
    cases lo <;> cases hi <;> simp only [optI, Option.getD_none, Option.getD_some] at h1 h2 ⊢ <;>
      simp only [Instr.sliceBounds, Sem.run_bind, Sem.run_pure, Result.andThen_ok, hb _ _ _ h2, hb _ _ _ h1, if_true, Option.isSome_none, Bool.false_eq_true, if_false]
  simp only [hbd, Result.andThen_ok, hsz, Sem.run_pure, Sl.cut]
theorem rnp_slice (ht : SlT P t e sz) (lo hi : Option Nat) {vlo vhi : Option Value} (hlo : vlo = optI lo) (hhi : vhi = optI hi) (h1 : lo.getD 0 ≤ hi.getD s.n) (h2 : hi.getD s.n ≤ s.c) {K : Sl → Prop}
    (h : K (s.cut (lo.getD 0) (hi.getD s.n) sz)) : RnP P Sl.v (Instr.sliceAt t (Sl.v s) vlo vhi none) K := by
  subst hlo hhi; exact ⟨_, fun w => slice_run ht h1 h2 w, h⟩
theorem Sl.cut_zero {s : Sl} {n sz : Nat} : s.cut 0 n sz = ⟨s.a, n, s.c⟩ := by
  obtain ⟨a, m, c⟩ := s
  simp only [Sl.cut, Nat.sub_zero, Nat.zero_mul]
  congr 1
  split
  · rfl
  · cases a <;> rfl
variable {α : Type} {cells : α → List Value} {F : Nat → Prop} {l : List α}
theorem Rd.cut (h : Rd cells sz F w s l) {lo hi : Nat} (h1 : lo ≤ hi) (h2 : hi ≤ l.length) : Rd cells sz F w (s.cut lo hi sz) ((l.take hi).drop lo) := by
  have hl := h.len; have hc := h.cap; have hm := h.lim
  refine ⟨by simp [Sl.cut]; omega, by simp [Sl.cut]; omega, by simp [Sl.cut]; omega, fun k hk => ?_⟩
  have hk' : k + lo < hi := by simp at hk; omega
  obtain ⟨a, ha, hF, hat⟩ := h.el (lo + k) (by omega)
  have hne : ¬ s.c = lo := by omega
  refine ⟨a.add (lo * sz), by simp [Sl.cut, hne, ha], by rw [add_block]; exact hF, ?_⟩
  rw [add_add, ← Nat.add_mul]
  have : ((l.take hi).drop lo)[k] = l[lo + k] := by simp
  rw [this]; exact hat
theorem Rd.take (h : Rd cells sz F w s l) {n : Nat} (hn : n ≤ l.length) : Rd cells sz F w ⟨s.a, n, s.c⟩ (l.take n) := by
  have := h.cut (Nat.zero_le n) hn
  rw [Sl.cut_zero] at this
  simpa using this
theorem Rd.flat (h : Rd cells sz F w s l) (hsz : ∀ x ∈ l, (cells x).length = sz) (hne : l ≠ []) : ∃ a, s.a = some a ∧ ∀ j u, (l.flatMap cells)[j]? = some u → w.cell? (a.add j) = some u := by
  have h0 : 0 < l.length := List.length_pos_iff.2 hne
  obtain ⟨a, ha, hF, _⟩ := h.el 0 h0
  refine ⟨a, ha, ?_⟩
  have hat : ∀ k (hk : k < l.length), At w (a.add (k * sz)) (cells l[k]) := fun k hk => by
    obtain ⟨a', ha', _, h2⟩ := h.el k hk
    rw [ha] at ha'; cases ha'; exact h2
  clear hF ha hne
  have key : ∀ (l : List α) (b : Addr), (∀ x ∈ l, (cells x).length = sz) → (∀ k (hk : k < l.length), At w (b.add (k * sz)) (cells l[k])) → ∀ j u, (l.flatMap cells)[j]? = some u → w.cell? (b.add j) = some u := by
    intro l
    induction l with
    | nil => intro b _ _ j u hu; simp at hu
    | cons x l ih =>
      intro b hsz hat j u hu
      have hx := hsz x (by simp)
      rw [List.flatMap_cons] at hu
      by_cases hj : j < (cells x).length
      · rw [List.getElem?_append_left hj] at hu
        have := hat 0 (by simp)
        simp only [Nat.zero_mul, List.getElem_cons_zero] at this
        have h2 := this.get? hu
        rw [add_add, Nat.zero_add] at h2; exact h2
      · rw [List.getElem?_append_right (by omega)] at hu
        have := ih (b.add sz) (fun y hy => hsz y (by simp [hy])) (fun k hk => by
          have := hat (k + 1) (by simpa using hk)
          simp only [List.getElem_cons_succ] at this
          rw [add_add, show sz + k * sz = (k + 1) * sz by rw [Nat.add_mul]; omega]; exact this) _ u hu
        rw [add_add, show sz + (j - (cells x).length) = j by omega] at this
        exact this
  exact key l a hsz hat
variable {T B bytes ty : Nat} {z : Value}
theorem rn_app {s' : Sl} {l' : List α} {K : Sl → World → Prop} (ht : ElT P t T sz bytes z) (h : Own cells sz T B w s l) (h' : Rd cells sz F w s' l') (hsz : ∀ x, (cells x).length = sz)
    (h1 : ∀ x, ∀ u ∈ cells x, u.oneCell' = true) (hbytes : (l.length + l'.length) * bytes ≤ 140737488355328) (hpos : 0 < bytes) (hB : B ≤ w.heap.size)
    (hk : ∀ s'' w', Own cells sz T B w' s'' (l ++ l') → Chg (own? s) w w' → (∀ b, own? s'' b → own? s b ∨ b = w.heap.size) → K s'' w') : Rn P Sl.v (Builtin.append_ #[t, t] ty #[Sl.v s, Sl.v s']) w K := by
  by_cases hne : l' = []
  · subst hne
    have hn : s'.n = 0 := h'.len
    obtain ⟨a', n', c'⟩ := s'
    simp only at hn
    subst hn
    refine ⟨s, w, ?_, hk s w (by simpa using h) (Chg.refl _ _) (fun b hb => .inl hb)⟩
    obtain ⟨i, hi, h2⟩ : ∃ i, P.info? T = some i ∧ (i.zero, i.size, i.bytes) = (some z, sz, bytes) := by
      have := ht.inf
      cases hi : P.info? T with
      | none => rw [hi] at this; cases this
      | some i => rw [hi] at this; exact ⟨i, rfl, by simpa using this⟩
    have hcells : (Builtin.firstCells i.size 0 (Sl.v ⟨a', 0, c'⟩)).run P w = .ok #[] w := by
      cases a' with
      | none => simp [Builtin.firstCells, Sl.v]
      | some a' => simp [Builtin.firstCells, Sl.v, loadCells, loadCellsFrom]
    have hcap : s.n ≤ s.c := (h.rd (F := fun _ => True) (fun _ _ => trivial)).cap
    obtain ⟨a, n, c⟩ := s
    simp only at hcap
    simp only [Sl.v] at hcells
    cases a with
    | none => simp [Builtin.append_, run_underlying ht.und, sizeOf, typeInfo, hi, prog_run, Builtin.lenOf, Sl.v, hcap, hcells]
    | some a => simp [Builtin.append_, run_underlying ht.und, sizeOf, typeInfo, hi, prog_run, Builtin.lenOf, Sl.v, hcap, hcells, storeCells]
  · obtain ⟨a, ha, hc⟩ := h'.flat (fun x _ => hsz x) hne
    obtain ⟨s'', w', hr, ho, hg, hn⟩ := app_run (ty := ty) (c := s'.c) (a := a) (l' := l') (m := s'.n) ht h h'.len (fun x _ => hsz x) hc (fun x _ => h1 x) hbytes hpos hB
    obtain ⟨a', n', c'⟩ := s'
    simp only at ha
    subst ha
    exact ⟨s'', w', hr, hk s'' w' ho hg hn⟩
theorem Own.empty {b : Nat} (hb : Blk w b T []) (hB : B ≤ b) : Own cells sz T B w ⟨some ⟨b, 0, none⟩, 0, 0⟩ ([] : List α) :=
  ⟨⟨by simp, .inr ⟨b, 0, #[], rfl, hB, hb, Nat.le_refl _, Nat.zero_le _, by simp, by simp⟩⟩, fun x hx => by cases hx⟩
end

section
variable {P : Program} {t : TypeId} {w : World} {cs : Array Value} {o : Nat} {v : Value}
theorem part_one (h : One P t) (hv : cs[o]? = some v) : (part t cs o).run P w = .ok v w := by
  obtain ⟨d, hu, hd⟩ := h
  have h1 : (isAgg t).run P w = .ok false w := by
    unfold isAgg
    simp only [Sem.run_bind, run_underlying hu, Result.andThen_ok]
    cases d <;> first | rfl | cases hd
  simp only [part, Sem.run_bind, h1, Result.andThen_ok, Bool.false_eq_true, if_false, hv, Sem.run_pure]
end
theorem beq_bytes (a b : ByteArray) : (a == b) = decide (a = b) := by rw [beq_toListBytes, toList_beq]
section
variable {P : Program} {w : World} {α : Type} {enc : α → Value} {x : α}
theorem RnP.of {s : Sem Value} {K : α → Prop} (h : ∀ w, s.run P w = .ok (enc x) w) (hk : K x) : RnP P enc s K := ⟨x, h, hk⟩
end
end Go.Eng


namespace Go.Proofs.Ytdoeegfcmbcbkaa.Ct
open Go Go.Eng Tr
set_option linter.unusedVariables false
set_option maxRecDepth 100000

noncomputable abbrev PP := Try.prog
def bs (x : ByteArray) : List Value := [.string x]
def fl (x : Nat) : List Value := [.float .f64 x]
def Ans {α : Type} (enc : α → Value) (f : FuncId) (args : Array Value) (w : World) (r : α) : Prop := Cal PP enc f args w fun x w' => Ext w w' ∧ x = r

section
variable {w : World} {F G : Nat → Prop} {s s' : Sl}
end
end Go.Proofs.Ytdoeegfcmbcbkaa.Ct


namespace Go.Eng
open Go
set_option linter.unusedVariables false
set_option linter.unusedSectionVars false

section
variable {κ ν : Type} [DecidableEq κ]
def mget : List (κ × ν) → κ → Option ν
  | [], _ => none
  | x :: l, k => if x.1 = k then some x.2 else mget l k
def mput : List (κ × ν) → κ → ν → List (κ × ν)
  | [], k, v => [(k, v)]
  | x :: l, k, v => if x.1 = k then (k, v) :: l else x :: mput l k v
def mdel : List (κ × ν) → κ → List (κ × ν)
  | [], _ => []
  | x :: l, k => if x.1 = k then l else x :: mdel l k
def mkeys (l : List (κ × ν)) : List κ := l.map (·.1)
theorem mget_put (l : List (κ × ν)) (k k' : κ) (v : ν) : mget (mput l k v) k' = if k = k' then some v else mget l k' := by
  induction l with
  | nil => simp [mput, mget]
  | cons x l ih =>
    unfold mput
    by_cases h : x.1 = k
    · rw [if_pos h]; simp only [mget]; subst h
      by_cases h' : x.1 = k' <;> simp [h']
    · rw [if_neg h]; simp only [mget, ih]
      by_cases h' : x.1 = k'
      · subst h'; rw [if_pos rfl, if_pos rfl, if_neg (fun e => h e.symm)]
      · rw [if_neg h', if_neg h']
theorem mget_none {l : List (κ × ν)} {k : κ} : mget l k = none ↔ k ∉ mkeys l := by
  induction l with
  | nil => simp [mget, mkeys]
  | cons x l ih =>
    simp only [mget, mkeys, List.map_cons, List.mem_cons, not_or] at ih ⊢
    by_cases h : x.1 = k
    · simp [h]
    · rw [if_neg h, ih]; constructor
      · exact fun h' => ⟨fun e => h e.symm, h'⟩
      · exact fun h' => h'.2
theorem mget_of_mem {l : List (κ × ν)} (hn : (mkeys l).Nodup) {k : κ} {v : ν} (h : (k, v) ∈ l) : mget l k = some v := by
  induction l with
  | nil => cases h
  | cons x l ih =>
    simp only [mkeys, List.map_cons, List.nodup_cons] at hn
    unfold mget
    rcases List.mem_cons.1 h with rfl | h
    · simp
    · rw [if_neg (fun e => hn.1 (by rw [e]; exact List.mem_map.2 ⟨_, h, rfl⟩))]; exact ih hn.2 h
theorem mem_mkeys_put {l : List (κ × ν)} {k k' : κ} {v : ν} : k' ∈ mkeys (mput l k v) ↔ k' = k ∨ k' ∈ mkeys l := by
  have h1 := mget_none (l := mput l k v) (k := k')
  have h2 := mget_none (l := l) (k := k')
  rw [mget_put] at h1
  by_cases h : k = k'
  · subst h; simp at h1; simp [h1]
  · rw [if_neg h, h2] at h1
    constructor
    · intro h3; exact .inr (by by_cases h4 : k' ∈ mkeys l; exact h4; exact absurd h3 (h1.1 h4))
    · rintro (rfl | h3)
      · exact absurd rfl h
      · by_cases h4 : k' ∈ mkeys (mput l k v); exact h4; exact absurd h3 (h1.2 h4)
theorem mput_nodup {l : List (κ × ν)} (hn : (mkeys l).Nodup) (k : κ) (v : ν) : (mkeys (mput l k v)).Nodup := by
  induction l with
  | nil => simp [mput, mkeys]
  | cons x l ih =>
    simp only [mkeys, List.map_cons, List.nodup_cons] at hn
    unfold mput
    by_cases h : x.1 = k
    · rw [if_pos h]; simp only [mkeys, List.map_cons, List.nodup_cons, ← h]; exact hn
    · rw [if_neg h]; simp only [mkeys, List.map_cons, List.nodup_cons]
      refine ⟨fun h' => ?_, ih hn.2⟩
      rcases mem_mkeys_put.1 h' with h' | h'
      · exact h h'
      · exact hn.1 h'
def look : κ → List κ → List MapEntry → Nat → Option (Nat × Value)
  | k, k' :: ks, e :: es, i => if k' = k then some (i, e.val) else look k ks es (i + 1)
  | _, _, _, _ => none
end

structure KeyT (P : Program) {κ : Type} [DecidableEq κ] (kt : TypeId) (ek : κ → Value) : Prop where
  chk : ∀ (e : Bool) (k : κ) (w : World), (Instr.checkKey e 10000 kt (ek k)).run P w = .ok () w
  find : ∀ (k : κ) (ks : List κ) (es : List MapEntry) (w : World), es.map (·.key) = ks.map ek → (Instr.findKey kt (ek k) es).run P w = .ok (look k ks es 0) w
  same : ∀ k : κ, Instr.sameBits 10000 (ek k) (ek k) = true
  inj : ∀ a b : κ, ek a = ek b → a = b
structure MapT (P : Program) {κ ν : Type} [DecidableEq κ] (mt kt et : TypeId) (ek : κ → Value) (ev : ν → Value) (z : ν) : Prop where
  und : P.underlying mt = some (.map kt et)
  key : KeyT P kt ek
  zero : (P.info? et).map (·.zero) = some (some (ev z))
section
variable {P : Program}
theorem findNow_string (k : ByteArray) : ∀ (ks : List ByteArray) (es : List MapEntry) (i : Nat), es.map (·.key) = ks.map Value.string → Instr.findNow .string (.string k) es i = some (look k ks es i)
  | [], [], i, _ => rfl
  | k' :: ks, e :: es, i, h => by
    simp only [List.map_cons, List.cons.injEq] at h
    unfold Instr.findNow look
    rw [h.1]
    simp only [Instr.sameNow]
    by_cases hk : k' = k
    · subst hk; simp [beq_bytes]
    · rw [if_neg hk, beq_bytes, decide_eq_false (fun e => hk e.symm)]
      exact findNow_string k ks es (i + 1) h.2
  | [], e :: es, i, h => by cases h
  | k' :: ks, [], i, h => by cases h
theorem sameBits_string (n : Nat) (k : ByteArray) : Instr.sameBits n (.string k) (.string k) = true := by cases n <;> simp [Instr.sameBits, beq_bytes]
theorem checkKey_string {kt : TypeId} (h : P.underlying kt = some .string) (e : Bool) (k : ByteArray) (n : Nat) (w : World) : (Instr.checkKey e (n + 1) kt (.string k)).run P w = .ok () w := by simp [Instr.checkKey, run_underlying h]
theorem keyT_string {kt : TypeId} (h : P.underlying kt = some .string) : KeyT P kt Value.string where
  chk e k w := checkKey_string h e k 9999 w
  find k ks es w he := by simp [Instr.findKey, run_underlying h, findNow_string k ks es 0 he]
  same k := sameBits_string _ k
  inj a b h := by cases h; rfl
theorem findAsking_run {κ : Type} [DecidableEq κ] {kt : TypeId} {ek : κ → Value} (heq : ∀ a b w, (Op.equal kt (ek a) (ek b)).run P w = .ok (decide (a = b)) w) (k : κ) (w : World) :
    ∀ (ks : List κ) (es : List MapEntry) (i : Nat), es.map (·.key) = ks.map ek → (Instr.findAsking kt (ek k) es i).run P w = .ok (look k ks es i) w
  | [], [], i, _ => rfl
  | k' :: ks, e :: es, i, h => by
    simp only [List.map_cons, List.cons.injEq] at h
    unfold Instr.findAsking look
    rw [h.1, Sem.run_bind, heq, Result.andThen_ok]
    by_cases hk : k' = k
    · subst hk; simp
    · rw [if_neg hk, decide_eq_false (fun e => hk e.symm), if_neg (by simp)]
      exact findAsking_run heq k w ks es (i + 1) h.2
  | [], e :: es, i, h => by cases h
  | k' :: ks, [], i, h => by cases h
end

section
variable {κ ν : Type} [DecidableEq κ] {ek : κ → Value} {ev : ν → Value} {P : Program} {S : Nat → Prop} {w w' : World} {b mt kt et : Nat} {l : List (κ × ν)} {z : ν}
structure Ents (ek : κ → Value) (ev : ν → Value) (es : List MapEntry) (clock : Nat) (l : List (κ × ν)) : Prop where
  eq : es.map (fun e => (e.key, e.val)) = l.map (fun x => (ek x.1, ev x.2))
  born : ∀ e ∈ es, e.born < clock
  nodup : (es.map (·.born)).Nodup
def Mp (ek : κ → Value) (ev : ν → Value) (w : World) (b : Nat) (l : List (κ × ν)) : Prop :=
  (mkeys l).Nodup ∧ ∃ es clock, w.heap[b]? = some (.map es clock) ∧ Ents ek ev es.toList clock l
theorem Mp.keys (h : Mp ek ev w b l) : (mkeys l).Nodup := h.1
theorem Mp.lt (h : Mp ek ev w b l) : b < w.heap.size := by obtain ⟨_, es, c, hb, _⟩ := h; exact (Array.getElem?_eq_some_iff.1 hb).1
theorem Mp.chg (h : Mp ek ev w b l) (k : Chg S w w') (hs : ¬ S b) : Mp ek ev w' b l := by
  have hl := h.lt
  obtain ⟨hn, es, c, hb, he⟩ := h
  exact ⟨hn, es, c, (k.block b hl hs).trans hb, he⟩
theorem Mp.ext (h : Mp ek ev w b l) (k : Ext w w') : Mp ek ev w' b l := h.chg (k.chg (fun _ => False)) (fun h => h)
theorem Mp.new (hb : w.heap[b]? = some (.map #[] 0)) : Mp ek ev w b ([] : List (κ × ν)) := ⟨List.nodup_nil, #[], 0, hb, rfl, by simp, by simp⟩
theorem Ents.keys {es : List MapEntry} {c : Nat} (h : Ents ek ev es c l) : es.map (·.key) = (mkeys l).map ek := by
  have := congrArg (List.map Prod.fst) h.eq
  simpa [mkeys, List.map_map, Function.comp_def] using this
theorem look_spec (k : κ) : ∀ (es : List MapEntry) (l : List (κ × ν)) (i : Nat), es.map (fun e => (e.key, e.val)) = l.map (fun x => (ek x.1, ev x.2)) →
    (mget l k = none ∧ look k (mkeys l) es i = none ∧ mdel l k = l ∧ ∀ v, mput l k v = l ++ [(k, v)]) ∨
    ∃ j v e, mget l k = some v ∧ look k (mkeys l) es i = some (i + j, ev v) ∧ es[j]? = some e ∧ e.key = ek k ∧ (∀ v', mput l k v' = l.set j (k, v')) ∧ mdel l k = l.eraseIdx j
  | [], [], i, _ => .inl ⟨rfl, rfl, rfl, fun _ => rfl⟩
  | e :: es, x :: l, i, h => by
    simp only [List.map_cons, List.cons.injEq, Prod.mk.injEq] at h
    by_cases hk : x.1 = k
    · right
      refine ⟨0, x.2, e, by simp [mget, hk], by simp [look, mkeys, hk, h.1.2], rfl, by rw [h.1.1, hk], fun v' => by simp [mput, hk], by simp [mdel, hk]⟩
    · rcases look_spec k es l (i + 1) h.2 with ⟨h1, h2, h3, h4⟩ | ⟨j, v, e', h1, h2, h3, h4, h5, h6⟩
      · left
        exact ⟨by simp [mget, hk, h1], by simpa [look, mkeys, hk] using h2, by simp [mdel, hk, h3], fun v => by simp [mput, hk, h4]⟩
      · right
        refine ⟨j + 1, v, e', by simp [mget, hk, h1], ?_, by simpa using h3, h4, fun v' => by simp [mput, hk, h5], by simp [mdel, hk, h6]⟩
        have : look k (mkeys (x :: l)) (e :: es) i = look k (mkeys l) es (i + 1) := by simp [look, mkeys, hk]
        rw [this, h2]; congr 2; omega
  | [], x :: l, i, h => by cases h
  | e :: es, [], i, h => by cases h
theorem getMap_run {es : Array MapEntry} {c : Nat} (hb : w.heap[b]? = some (.map es c)) : (getObj b).run P w = .ok (.map es c) w := by simp [getObj, Sem.run, hb]
theorem zero_run {z : Value} (hz : (P.info? et).map (·.zero) = some (some z)) (w : World) : (zeroValue et).run P w = .ok z w := by
  cases hi : P.info? et with
  | none => rw [hi] at hz; cases hz
  | some i =>
    rw [hi] at hz
    have : i.zero = some z := by simpa using hz
    simp [zeroValue, typeInfo, prog_run, hi, this]
theorem lookup_run (ht : MapT P mt kt et ek ev z) (h : Mp ek ev w b l) (k : κ) : (Instr.lookup mt (.map (some b)) (ek k) false).run P w = .ok (ev ((mget l k).getD z)) w := by
  obtain ⟨_, es, c, hb, he⟩ := h
  have hf := ht.key.find k (mkeys l) es.toList w he.keys
  simp only [Instr.lookup, Sem.run_bind, run_underlying ht.und, Result.andThen_ok, getMap_run hb, Sem.run_pure, ht.key.chk, hf]
  rcases look_spec k es.toList l 0 he.eq with ⟨h1, h2, _⟩ | ⟨j, v, e, h1, h2, _⟩
  · rw [h2]; simp [h1, zero_run ht.zero]
  · rw [h2]; simp [h1]
theorem lookup_run2 (ht : MapT P mt kt et ek ev z) (h : Mp ek ev w b l) (k : κ) : (Instr.lookup mt (.map (some b)) (ek k) true).run P w = .ok (.tuple #[ev ((mget l k).getD z), .bool (mget l k).isSome]) w := by
  obtain ⟨_, es, c, hb, he⟩ := h
  have hf := ht.key.find k (mkeys l) es.toList w he.keys
  simp only [Instr.lookup, Sem.run_bind, run_underlying ht.und, Result.andThen_ok, getMap_run hb, Sem.run_pure, ht.key.chk, hf]
  rcases look_spec k es.toList l 0 he.eq with ⟨h1, h2, _⟩ | ⟨j, v, e, h1, h2, _⟩
  · rw [h2]; simp [h1, zero_run ht.zero]
  · rw [h2]; simp [h1]
theorem setMap_run {es : Array MapEntry} {c : Nat} (hb : w.heap[b]? = some (.map es c)) (es' : Array MapEntry) (c' : Nat) (hs : c ≤ c') :
    ∃ w', (setObj b (.map es' c')).run P w = .ok () w' ∧ Chg (fun x => x = b) w w' ∧ w'.heap[b]? = some (.map es' c') ∧ w'.heap.size = w.heap.size := by
  have hl := (Array.getElem?_eq_some_iff.1 hb).1
  refine ⟨ChangeMaps.setBlock w b (.map es' c'), by simp [setObj, Sem.run, hb, ChangeMaps.setBlock], ⟨rfl, rfl, rfl, by simp [ChangeMaps.setBlock], fun k hk hn => ?_⟩, ?_, by simp [ChangeMaps.setBlock]⟩
  · simp [ChangeMaps.setBlock, Array.getElem?_setIfInBounds, Ne.symm hn]
  · simp [ChangeMaps.setBlock, Array.getElem?_setIfInBounds, hl]
theorem Ents.size {es : List MapEntry} {c : Nat} (h : Ents ek ev es c l) : es.length = l.length := by have := congrArg List.length h.eq; simpa using this
theorem Ents.set {es : List MapEntry} {c j : Nat} (h : Ents ek ev es c l) {e : MapEntry} (he : es[j]? = some e) {k : κ} (hk : e.key = ek k) (v : ν) :
    Ents ek ev (es.set j { e with key := ek k, val := ev v }) c (l.set j (k, v)) := by
  refine ⟨?_, fun x hx => ?_, ?_⟩
  · rw [List.map_set, List.map_set, h.eq]
  · rcases List.mem_or_eq_of_mem_set hx with hx | rfl
    · exact h.born x hx
    · exact h.born e (List.mem_of_getElem? he)
  · rw [List.map_set]
    have : (es.map (·.born)).set j e.born = es.map (·.born) := by
      apply List.ext_getElem? ; intro i
      by_cases hi : j = i
      · subst hi
        have hl : j < es.length := (List.getElem?_eq_some_iff.1 he).1
        rw [List.getElem?_set_self (by simpa using hl)]; simp [he]
      · rw [List.getElem?_set_ne hi]
    rw [this]; exact h.nodup
theorem mapUpdate_run (ht : MapT P mt kt et ek ev z) (h : Mp ek ev w b l) (k : κ) (v : ν) :
    ∃ w', (Instr.mapUpdate mt (.map (some b)) (ek k) (ev v)).run P w = .ok () w' ∧ Chg (fun x => x = b) w w' ∧ Mp ek ev w' b (mput l k v) ∧ w'.heap.size = w.heap.size := by
  obtain ⟨hn, es, c, hb, he⟩ := h
  have hf := ht.key.find k (mkeys l) es.toList w he.keys
  simp only [Instr.mapUpdate, Sem.run_bind, run_underlying ht.und, Result.andThen_ok, getMap_run hb, ht.key.chk, hf]
  rcases look_spec k es.toList l 0 he.eq with ⟨h1, h2, h3, h4⟩ | ⟨j, v0, e, h1, h2, h3, h4, h5, h6⟩
  · obtain ⟨w', hr, hc, hb', hs⟩ := setMap_run (P := P) hb (es.push { key := ek k, val := ev v, born := c }) (c + 1) (by omega)
    refine ⟨w', by rw [h2]; simpa using hr, hc, ⟨mput_nodup hn k v, _, _, hb', ?_⟩, hs⟩
    rw [h4, Array.toList_push]
    refine ⟨by simp [he.eq], fun x hx => ?_, ?_⟩
    · rcases List.mem_append.1 hx with hx | hx
      · have := he.born x hx; omega
      · simp only [List.mem_singleton] at hx; subst hx; exact Nat.lt_succ_self c
    · rw [List.map_append, List.nodup_append]
      refine ⟨he.nodup, by simp, fun x hx y hy => ?_⟩
      simp only [List.map_cons, List.map_nil, List.mem_singleton] at hy
      obtain ⟨e, he', rfl⟩ := List.mem_map.1 hx
      have := he.born e he'; omega
  · obtain ⟨w', hr, hc, hb', hs⟩ := setMap_run (P := P) hb (es.modify j fun e => { e with key := ek k, val := ev v }) c (Nat.le_refl _)
    have hkey : (((es[j]?).map (·.key)).getD (ek k)) = ek k := by
      rw [← Array.getElem?_toList, h3]; exact h4
    refine ⟨w', ?_, hc, ⟨mput_nodup hn k v, _, _, hb', ?_⟩, hs⟩
    · rw [h2]
      simp only [Nat.zero_add, hkey, Instr.keyThatStays, ht.key.same, if_true, Sem.run_bind, Sem.run_pure, Result.andThen_ok]
      exact hr
    · rw [h5]
      have : (es.modify j fun e => { e with key := ek k, val := ev v }).toList = es.toList.set j { e with key := ek k, val := ev v } := by
        rw [Array.toList_modify]
        apply List.ext_getElem?; intro i
        have hl : j < es.toList.length := (List.getElem?_eq_some_iff.1 h3).1
        rw [List.getElem?_modify]
        by_cases hi : j = i
        · subst hi; rw [h3, List.getElem?_set_self hl]; simp
        · rw [List.getElem?_set_ne hi]; simp [hi]
      rw [this]
      exact he.set h3 h4 v
theorem map_erase {α β : Type} (f : α → β) : ∀ (l : List α) (j : Nat), (l.eraseIdx j).map f = (l.map f).eraseIdx j
  | [], _ => rfl
  | x :: l, 0 => rfl
  | x :: l, j + 1 => by simp [map_erase f l j]
def Rg (ek : κ → Value) (ev : ν → Value) (w : World) (r b : Nat) (left : List (κ × ν)) : Prop :=
  ∃ es clock since seen c0, w.heap[r]? = some (.mapIter (some b) since seen c0) ∧ w.heap[b]? = some (.map es clock) ∧ (∀ x ∈ es.toList, x.born < since) ∧ since ≤ c0 ∧ since ≤ clock ∧ (es.toList.map (·.born)).Nodup ∧
    (leftOf es seen).toList.map (fun e => (e.key, e.val)) = left.map (fun x => (ek x.1, ev x.2))
theorem Rg.lt {r : Nat} (h : Rg ek ev w r b l) : r < w.heap.size ∧ b < w.heap.size := by
  obtain ⟨es, c, s, seen, c0, hr, hb, _⟩ := h; exact ⟨(Array.getElem?_eq_some_iff.1 hr).1, (Array.getElem?_eq_some_iff.1 hb).1⟩
theorem Rg.chg {r : Nat} (h : Rg ek ev w r b l) (k : Chg S w w') (h1 : ¬ S r) (h2 : ¬ S b) : Rg ek ev w' r b l := by
  have hl := h.lt
  obtain ⟨es, c, s, seen, c0, hr, hb, h'⟩ := h
  exact ⟨es, c, s, seen, c0, (k.block r hl.1 h1).trans hr, (k.block b hl.2 h2).trans hb, h'⟩
theorem Rg.ext {r : Nat} (h : Rg ek ev w r b l) (k : Ext w w') : Rg ek ev w' r b l := h.chg (k.chg (fun _ => False)) (fun h => h) (fun h => h)
theorem range_run (ht : MapT P mt kt et ek ev z) (h : Mp ek ev w b l) :
    ∃ r w', (Instr.range mt (.map (some b))).run P w = .ok (.pointer (some ⟨r, 0, none⟩)) w' ∧ Ext w w' ∧ r = w.heap.size ∧ Rg ek ev w' r b l := by
  have hlt := h.lt
  obtain ⟨hn, es, c, hb, he⟩ := h
  refine ⟨w.heap.size, w.alloc (.mapIter (some b) c #[] c), ?_, Ext.alloc _ _, rfl, es, c, c, #[], c, heap_alloc_new w _, ?_, he.born, Nat.le_refl _, Nat.le_refl _, he.nodup, ?_⟩
  · simp only [Instr.range, Sem.run_bind, run_underlying ht.und, Result.andThen_ok, getMap_run hb, Sem.run_pure]; rfl
  · exact ((Ext.alloc w _).block b hlt).trans hb
  · rw [← he.eq]; congr 1
    simp [leftOf]
section
variable {K : ν → World → Prop} {k : κ} {v : ν}
theorem rn_get (ht : MapT P mt kt et ek ev z) (h : Mp ek ev w b l) (hk : K ((mget l k).getD z) w) : Rn P ev (Instr.lookup mt (.map (some b)) (ek k) false) w K := ⟨_, _, lookup_run ht h k, hk⟩

theorem rn_get2 {enc : ν × Bool → Value} {K : ν × Bool → World → Prop} (he : ∀ x, enc x = .tuple #[ev x.1, .bool x.2]) (ht : MapT P mt kt et ek ev z) (h : Mp ek ev w b l) (hk : K ((mget l k).getD z, (mget l k).isSome) w) :
    Rn P enc (Instr.lookup mt (.map (some b)) (ek k) true) w K := ⟨_, _, (lookup_run2 ht h k).trans (by rw [he]), hk⟩
theorem rnu_put {K : World → Prop} (ht : MapT P mt kt et ek ev z) (h : Mp ek ev w b l) (hk : ∀ w', Chg (fun x => x = b) w w' → Mp ek ev w' b (mput l k v) → w'.heap.size = w.heap.size → K w') :
    RnU P (Instr.mapUpdate mt (.map (some b)) (ek k) (ev v)) w K := let ⟨w', h1, h2, h3, h4⟩ := mapUpdate_run ht h k v; ⟨w', h1, hk w' h2 h3 h4⟩
end
theorem left_push (es : Array MapEntry) (seen : Array Nat) (hn : (es.toList.map (·.born)).Nodup) {e : MapEntry} {j : Nat} (hj : (leftOf es seen).toList[j]? = some e) :
    (leftOf es (seen.push e.born)).toList = (leftOf es seen).toList.eraseIdx j := by
  have e1 : (leftOf es seen).toList = es.toList.filter fun e => !seen.contains e.born := by simp [leftOf]
  have e2 : (leftOf es (seen.push e.born)).toList = (leftOf es seen).toList.filter fun x => !(x.born == e.born) := by
    rw [e1]; simp only [leftOf, Array.toList_filter, List.filter_filter]
    congr 1; funext x; by_cases h : x.born = e.born <;> simp [h]
  rw [e2]
  have hnd : ((leftOf es seen).toList.map (·.born)).Nodup := by rw [e1]; exact (List.Sublist.map _ List.filter_sublist).nodup hn
  generalize (leftOf es seen).toList = L at hj hnd
  clear e1 e2
  induction L generalizing j with
  | nil => simp at hj
  | cons x L ih =>
    simp only [List.map_cons, List.nodup_cons] at hnd
    cases j with
    | zero =>
      simp only [List.getElem?_cons_zero, Option.some.injEq] at hj
      subst hj
      rw [List.filter_cons_of_neg (by simp), List.eraseIdx_cons_zero]
      exact List.filter_eq_self.2 fun y hy => by
        have : y.born ≠ x.born := fun h => hnd.1 (by rw [← h]; exact List.mem_map.2 ⟨y, hy, rfl⟩)
        simp [this]
    | succ j =>
      simp only [List.getElem?_cons_succ] at hj
      have hne : x.born ≠ e.born := fun h => hnd.1 (by rw [h]; exact List.mem_map.2 ⟨e, List.mem_of_getElem? hj, rfl⟩)
      rw [List.filter_cons_of_pos (by simp [hne]), List.eraseIdx_cons_succ, ih hj hnd.2]
theorem next_run {r ty : Nat} (h : Rg ek ev w r b l) :
    (l = [] ∧ (Instr.next (.pointer (some ⟨r, 0, none⟩)) false ty).run P w = .ok (.tuple #[.bool false]) w) ∨
    ∃ j k v w', l[j]? = some (k, v) ∧ (Instr.next (.pointer (some ⟨r, 0, none⟩)) false ty).run P w = .ok (.tuple #[.bool true, ek k, ev v]) w' ∧ Chg (fun x => x = r) w w' ∧ w'.heap.size = w.heap.size ∧
      Rg ek ev w' r b (l.eraseIdx j) ∧ (Instr.entry (.pointer (some ⟨r, 0, none⟩))).run P w' = .ok (.tuple #[ek k, ev v]) w' := by
  have hlt := h.lt
  obtain ⟨es, c, since, seen, c0, hr, hb, hold, hsc, hcc, hn, heq⟩ := h
  rcases run_next_at (P := P) w ty r b since c0 seen es c hr hb hold hsc with ⟨h0, hrun⟩ | ⟨e, he, w1, hw1, hrun⟩
  · left
    refine ⟨?_, hrun⟩
    have : (leftOf es seen).toList = [] := by rw [← Array.length_toList] at h0; exact List.eq_nil_of_length_eq_zero h0
    rw [this] at heq
    exact (List.map_eq_nil_iff.1 heq.symm)
  · right
    obtain ⟨j, hj, hje⟩ := List.mem_iff_getElem.1 he
    have hj? : (leftOf es seen).toList[j]? = some e := by rw [List.getElem?_eq_getElem hj, hje]
    have hll : (leftOf es seen).toList.length = l.length := by have := congrArg List.length heq; simpa using this
    have hjl : j < l.length := by omega
    have hpair : (e.key, e.val) = (ek l[j].1, ev l[j].2) := by
      have := congrArg (fun x => x[j]?) heq
      simp only [List.getElem?_map, hj?, List.getElem?_eq_getElem hjl, Option.map_some, Option.some.injEq] at this
      exact this
    have hk1 : e.key = ek l[j].1 := congrArg Prod.fst hpair
    have hk2 : e.val = ev l[j].2 := congrArg Prod.snd hpair
    have hne : r ≠ b := fun h => by subst h; rw [hr] at hb; cases hb
    have hE : Ext w w1 := by
      rcases hw1 with rfl | rfl
      · exact Ext.refl _
      · exact Ext.drew _
    have hhe : w1.heap = w.heap := by rcases hw1 with rfl | rfl <;> rfl
    have hr' : (ChangeMaps.setBlock w1 r (.mapIter (some b) since (seen.push e.born) c)).heap[r]? = some (.mapIter (some b) since (seen.push e.born) c) := by
      simp [ChangeMaps.setBlock, Array.getElem?_setIfInBounds, hhe, hlt.1]
    have hb' : (ChangeMaps.setBlock w1 r (.mapIter (some b) since (seen.push e.born) c)).heap[b]? = some (.map es c) := by
      simp [ChangeMaps.setBlock, Array.getElem?_setIfInBounds, hhe, hne, hb]
    have hmem := mem_left he
    refine ⟨j, l[j].1, l[j].2, ChangeMaps.setBlock w1 r (.mapIter (some b) since (seen.push e.born) c), by rw [List.getElem?_eq_getElem hjl], by rw [hrun, hk1, hk2], ⟨hE.os, hE.tape, hE.output, by simp [ChangeMaps.setBlock, hhe], fun k hk hn' => ?_⟩, by simp [ChangeMaps.setBlock, hhe], ?_, ?_⟩
    · simp [ChangeMaps.setBlock, Array.getElem?_setIfInBounds, Ne.symm hn', hhe]
    · refine ⟨es, c, since, _, c, hr', hb', hold, hcc, hcc, hn, ?_⟩
      rw [left_push es seen hn hj?, map_erase, map_erase, heq]
    · rw [run_entry_at _ r b since seen es c e hr' hb' hmem.1 hn, hk1, hk2]
end

theorem iteT {p a b : Prop} [Decidable p] (h : p) (ha : a) : if p then a else b := by rw [if_pos h]; exact ha
theorem iteF {p a b : Prop} [Decidable p] (h : ¬ p) (hb : b) : if p then a else b := by rw [if_neg h]; exact hb
theorem New.var {P : Program} {T : TypeId} {zs : List Value} {v : Value} {w : World} {K : Nat → World → Prop} (cs : List Value) (hs : (P.info? T).map (·.size) = some cs.length) (hv : v.cells = cs.toArray)
    (h1 : ∀ u ∈ cs, u.oneCell' = true) (hl : cs.length = zs.length) (h : ∀ b w', Ext w w' → Blk w' b T cs → w.heap.size ≤ b → K b w') :
    New T zs w fun b w => RnU P (Instr.storeAt T (Ptr ⟨b, 0, none⟩) v) w fun w => K b w :=
  New.mk fun b w1 e1 hb hn s1 => rnu_st (b := b) (o := 0) rfl hb cs hs hv h1 (by omega) fun w2 c2 s2 hb2 => by
    have : over zs 0 cs = cs := by unfold over; simp [hl]
    rw [this] at hb2
    exact h b w2 (e1.then c2 (fun x hx => by omega)) hb2 (by omega)
end Go.Eng


namespace Go.Eng
open Go
set_option linter.unusedVariables false

def nanB (x : Nat) : Bool := (FloatKind.f64.format.read x).isNaN
theorem nan_cut (x y t : Nat) : nanB (Question.cut (.nanBits .f64 x y) t) = true := by
  have h1 : FloatKind.f64.format.signWeight = 9223372036854775808 := rfl
  have h2 : FloatKind.f64.format.binade = 4503599627370496 := rfl
  have h3 : FloatKind.f64.format.infRung = 9218868437227405312 := rfl
  have e : Question.cut (.nanBits .f64 x y) t = (t % 2) * 2 ^ 63 + 0x7ff0000000000000 + 1 + (t / 2) % (2 ^ 52 - 1) := rfl
  rw [e]
  unfold nanB Ieee.Format.read
  simp only [h1, h2, h3]
  have hs : t % 2 < 2 := Nat.mod_lt _ (by decide)
  have hu : t / 2 % (2 ^ 52 - 1) < 4503599627370495 := Nat.mod_lt _ (by decide)
  generalize t % 2 = s at hs ⊢
  generalize t / 2 % (2 ^ 52 - 1) = u at hu ⊢
  have hm : (s * 2 ^ 63 + 9218868437227405312 + 1 + u) % 9223372036854775808 = 9218868437227405312 + 1 + u := by
    rw [show s * 2 ^ 63 + 9218868437227405312 + 1 + u = (9218868437227405312 + 1 + u) + 9223372036854775808 * s by omega, Nat.add_mul_mod_self_left, Nat.mod_eq_of_lt (by omega)]
  rw [hm, if_neg (by omega), if_neg (by omega), if_neg (by omega)]
  rfl
theorem order_nan {x : Nat} (h : nanB x = true) (y : Nat) : FloatKind.f64.format.order x y = none := by
  unfold nanB at h
  unfold Ieee.Format.order
  cases hx : FloatKind.f64.format.read x <;> rw [hx] at h <;> first | rfl | cases h
theorem add_nan {x : Nat} (h : nanB x = true) (y : Nat) : FloatKind.f64.format.add x y = none := by
  unfold nanB at h
  unfold Ieee.Format.add
  cases hx : FloatKind.f64.format.read x <;> rw [hx] at h <;> first | rfl | cases h
def Fl (o : Option Nat) (x : Nat) : Prop := match o with
  | some v => x = v
  | none => nanB x = true
def oadd (o : Option Nat) (y : Nat) : Option Nat := o.bind fun x => FloatKind.f64.format.add x y
def oGe (o : Option Nat) (y : Nat) : Bool := match o with
  | some x => fGe x y
  | none => false
def oLe (o : Option Nat) (y : Nat) : Bool := match o with
  | some x => fLe x y
  | none => false
theorem Fl.ge {o : Option Nat} {x : Nat} (h : Fl o x) (y : Nat) : fGe x y = oGe o y := by
  cases o with
  | some v => cases h; rfl
  | none => simp [oGe, fGe, order_nan h]
theorem Fl.le {o : Option Nat} {x : Nat} (h : Fl o x) (y : Nat) : fLe x y = oLe o y := by
  cases o with
  | some v => cases h; rfl
  | none => simp [oLe, fLe, order_nan h]
section
variable {P : Program} {w : World} {K : Nat → World → Prop} {x y : Nat}
theorem arith_run (op : BinOp) (r : Option Nat) (h : (match op with
    | .add => some (FloatKind.f64.format.add x y)
    | .sub => some (FloatKind.f64.format.sub x y)
    | .mul => some (FloatKind.f64.format.mul x y)
    | .quo => some (FloatKind.f64.format.div x y)
    | _ => none) = some r) (hk : ∀ v w', Fl r v → Ext w w' → w'.heap = w.heap → K v w') : Rn P (Value.float .f64) (Op.floatArith op .f64 x y) w K := by
  have key : ∀ r : Option Nat, (∀ v w', Fl r v → Ext w w' → w'.heap = w.heap → K v w') → Rn P (Value.float .f64) (match r with
      | some r => pure (.float .f64 r)
      | none => do pure (.float .f64 (← choose (.nanBits .f64 x y)))) w K := fun r hk => by
    cases r with
    | some v => exact ⟨v, w, rfl, hk v w rfl (Ext.refl _) rfl⟩
    | none => exact ⟨Question.cut (.nanBits .f64 x y) (w.tape w.drawn (.nanBits .f64 x y)), w.drew, rfl, hk _ _ (nan_cut _ _ _) (Ext.drew _) rfl⟩
  cases op <;> simp only [Option.some.injEq, reduceCtorEq] at h <;> subst h <;> exact key _ hk
theorem rn_add {o : Option Nat} (ho : Fl o x) (hk : ∀ v w', Fl (oadd o y) v → Ext w w' → w'.heap = w.heap → K v w') : Rn P (Value.float .f64) (Op.floatArith .add .f64 x y) w K := by
  refine arith_run .add _ rfl fun v w' hv => hk v w' ?_
  cases o with
  | some v' => cases ho; exact hv
  | none => rw [add_nan ho] at hv; exact hv
end
end Go.Eng


namespace Go.Eng
open Go
set_option linter.unusedVariables false

section
variable {P : Program} {t T e bytes : Nat} {z : Value} {w : World}
theorem rnp_own {n c b k : Nat} {i : Int} {K : Addr → Prop} (ht : SlT P t e 1) (hk : k < n) (hi : i = k) (h : K ⟨b, k, none⟩) : RnP P Ptr (Instr.indexAt t (Sl.v ⟨some ⟨b, 0, none⟩, n, c⟩) (.int .i64 i)) K := by
  subst hi
  refine ⟨⟨b, k, none⟩, fun w => ?_, h⟩
  have := idx_run (P := P) (s := ⟨some ⟨b, 0, none⟩, n, c⟩) ht rfl hk w
  rw [this, blk_add]; simp
end
end Go.Eng


namespace Go.Eng
open Go
set_option linter.unusedVariables false

section
variable {P : Program} {t : TypeId} {x : ByteArray} {i : Int}
theorem rnp_str_to {K : ByteArray → Prop} (ht : P.underlying t = some .string) {k : Nat} (hi : i = k) (hk : k ≤ x.size) (h : K (x.extract 0 k)) : RnP P Value.string (Instr.sliceAt t (.string x) none (some (.int .i64 i)) none) K := by
  subst hi
  refine RnP.of (x := x.extract 0 k) (fun w => ?_) h
  rw [run_sliceAt_string (h := ht), run_slice_string_h w t x ht .i64 k (by omega) (by omega)]; rfl
theorem rnp_str_from {K : ByteArray → Prop} (ht : P.underlying t = some .string) {k : Nat} (hi : i = k) (hk : k ≤ x.size) (h : K (x.extract k x.size)) : RnP P Value.string (Instr.sliceAt t (.string x) (some (.int .i64 i)) none none) K := by
  subst hi
  refine RnP.of (x := x.extract k x.size) (fun w => ?_) h
  rw [run_sliceAt_string (h := ht), run_slice_string_l w t x ht .i64 k (by omega) (by omega)]; rfl
theorem rnp_byte {K : Int → Prop} (ht : P.underlying t = some .string) {k : Nat} (hi : i = k) (hk : k < x.size) (h : K ((x[k].toNat : Nat) : Int)) : RnP P (Value.int .u8) (Instr.index t (.string x) (.int .i64 i)) K := by
  subst hi
  refine RnP.of (x := ((x[k].toNat : Nat) : Int)) (fun w => ?_) h
  rw [run_index_string (h := ht), dif_pos (by omega)]; rfl
theorem wrap_succ {n : Nat} (h : n < maxLen) : IntKind.i64.wrap ((n : Int) + 1) = ((n + 1 : Nat) : Int) := by
  unfold maxLen at h; rw [wrap_in ⟨by omega, by omega⟩]; rfl
theorem wrap_sub {n m : Nat} (h : n ≤ maxLen) (hm : m ≤ n) : IntKind.i64.wrap ((n : Int) - (m : Int)) = ((n - m : Nat) : Int) := by
  unfold maxLen at h; rw [wrap_in ⟨by omega, by omega⟩]; omega
end
end Go.Eng


namespace Go.Eng
open Go
set_option linter.unusedVariables false
set_option linter.unusedSectionVars false

theorem flatMap_over {α : Type} {cells : α → List Value} {sz f : Nat} {vs : List Value} {x' : α} : ∀ (l : List α) (k : Nat) (hk : k < l.length), (∀ x ∈ l, (cells x).length = sz) → f + vs.length ≤ sz →
    cells x' = over (cells l[k]) f vs → (l.set k x').flatMap cells = over (l.flatMap cells) (k * sz + f) vs
  | x :: l, 0, _, hsz, hf, hx => by
    have h1 := hsz x (by simp)
    simp only [List.set_cons_zero, List.flatMap_cons, List.getElem_cons_zero] at hx ⊢
    rw [hx, Nat.zero_mul, Nat.zero_add]
    unfold over
    rw [List.take_append_of_le_length (by omega), List.drop_append_of_le_length (by omega)]
    simp only [List.append_assoc]
  | x :: l, k + 1, hk, hsz, hf, hx => by
    simp only [List.set_cons_succ, List.flatMap_cons, List.getElem_cons_succ] at hx ⊢
    have h1 := hsz x (by simp)
    rw [flatMap_over l k (by simpa using hk) (fun y hy => hsz y (by simp [hy])) hf hx]
    unfold over
    have e1 : (k + 1) * sz + f = (cells x).length + (k * sz + f) := by rw [h1, Nat.add_mul]; omega
    rw [e1, List.take_length_add_append, Nat.add_assoc (cells x).length, List.drop_length_add_append]
    simp only [List.append_assoc, Nat.add_assoc]
theorem over_take {cs vs : List Value} {o n : Nat} (h : o + vs.length ≤ n) (hn : n ≤ cs.length) : (over cs o vs).take n = over (cs.take n) o vs := by
  unfold over
  have h1 : (cs.take o).length = o := by simp; omega
  rw [List.take_append, List.take_append, h1, List.take_of_length_le (by rw [h1]; omega), List.take_of_length_le (l := vs) (by omega)]
  rw [List.take_take, Nat.min_eq_left (by omega), List.length_append, h1, List.drop_take]
section
variable {α : Type} {cells : α → List Value} {sz T B : Nat} {P : Program} {w : World} {s : Sl} {l : List α}
theorem own_setN {t e tf k f : Nat} {i : Int} {v : Value} {vs : List Value} {x' : α} {K : World → Prop} (ht : SlT P t e sz) (h : Own cells sz T B w s l) (hk : k < l.length) (hi : i = k) (hf : f + vs.length ≤ sz)
    (hs : (P.info? tf).map (·.size) = some vs.length) (hv : v.cells = vs.toArray) (h1 : ∀ u ∈ vs, u.oneCell' = true) (hx : cells x' = over (cells l[k]) f vs)
    (hK : ∀ w', Chg (own? s) w w' → Own cells sz T B w' s (l.set k x') → w'.heap.size = w.heap.size → K w') :
    RnP P Ptr (Instr.indexAt t (Sl.v s) (.int .i64 i)) fun p => RnU P (Instr.storeAt tf (Ptr (p.add f)) v) w K := by
  subst hi
  have hsz := h.sz_
  obtain ⟨hrl, hn | ⟨g, cap, cur, hv', hbg, hg, hnc, hcm, hcs, htake⟩⟩ := h.row
  · omega
  have hn := h.len
  have ha : s.a = some ⟨g, 0, none⟩ := by obtain ⟨a, n, c⟩ := s; simp only [Sl.v, Value.slice.injEq] at hv'; exact hv'.1
  have hb : Blk w g T cur.toList := by unfold Blk; rw [hg]
  have hlim : k * sz + sz ≤ l.length * sz := by rw [← Nat.succ_mul]; exact Nat.mul_le_mul_right _ hk
  have hle : l.length * sz ≤ cap * sz := Nat.mul_le_mul_right _ hnc
  have hcl : cur.toList.length = cap * sz := by simpa using hcs
  refine ⟨_, fun w => idx_run ht ha (by rw [hn]; exact hk) w, ?_⟩
  rw [blk_add, Nat.zero_add]
  show RnU P (Instr.storeAt tf (Ptr ((⟨g, k * sz, none⟩ : Addr).add f)) v) w K
  rw [blk_add]
  refine rnu_st (b := g) (o := k * sz + f) rfl hb vs hs hv h1 (by omega) fun w' c s' hb' => ?_
  refine hK w' (c.mono fun b _ hb => ⟨_, ha, hb.symm⟩) ⟨⟨?_, .inr ⟨g, cap, (over cur.toList (k * sz + f) vs).toArray, ?_, hbg, hb', ?_, hcm, ?_, ?_⟩⟩, ?_⟩ s'
  · rw [flatMap_over l k hk hsz hf hx, List.length_set, over_length (by rw [hrl]; omega), hrl]
  · rw [List.length_set]; exact hv'
  · rw [List.length_set]; exact hnc
  · rw [List.size_toArray, over_length (by omega), hcl]
  · rw [List.length_set, List.toList_toArray, over_take (by omega) (by omega), htake, flatMap_over l k hk hsz hf hx]
  · intro x hx'
    rcases List.mem_or_eq_of_mem_set hx' with hx' | rfl
    · exact hsz x hx'
    · rw [hx, over_length (by rw [hsz _ (List.getElem_mem hk)]; omega)]; exact hsz _ (List.getElem_mem hk)
end

def oadd2 (o p : Option Nat) : Option Nat := o.bind fun x => p.bind fun y => FloatKind.f64.format.add x y
def omul2 (o p : Option Nat) : Option Nat := o.bind fun x => p.bind fun y => FloatKind.f64.format.mul x y
def oGt (o : Option Nat) (y : Nat) : Bool := match o with
  | some x => fGt x y
  | none => false
theorem Fl.gt {o : Option Nat} {x : Nat} (h : Fl o x) (y : Nat) : fGt x y = oGt o y := by
  cases o with
  | some v => cases h; rfl
  | none => simp [oGt, fGt, order_nan h]
theorem add_nan_r {x y : Nat} (h : nanB y = true) : FloatKind.f64.format.add x y = none := by
  unfold nanB at h
  unfold Ieee.Format.add
  cases hy : FloatKind.f64.format.read y <;> rw [hy] at h <;> first | (cases h; done) | skip
  cases FloatKind.f64.format.read x <;> rfl
theorem mul_nan_l {x y : Nat} (h : nanB x = true) : FloatKind.f64.format.mul x y = none := by
  unfold nanB at h
  unfold Ieee.Format.mul
  cases hy : FloatKind.f64.format.read x <;> rw [hy] at h <;> first | (cases h; done) | skip
  cases FloatKind.f64.format.read y <;> rfl
theorem mul_nan_r {x y : Nat} (h : nanB y = true) : FloatKind.f64.format.mul x y = none := by
  unfold nanB at h
  unfold Ieee.Format.mul
  cases hy : FloatKind.f64.format.read y <;> rw [hy] at h <;> first | (cases h; done) | skip
  cases FloatKind.f64.format.read x <;> rfl
section
variable {P : Program} {w : World} {K : Nat → World → Prop} {x y : Nat}
theorem rn_add2 {o p : Option Nat} (ho : Fl o x) (hp : Fl p y) (hk : ∀ v w', Fl (oadd2 o p) v → Ext w w' → w'.heap = w.heap → K v w') : Rn P (Value.float .f64) (Op.floatArith .add .f64 x y) w K := by
  refine arith_run .add _ rfl fun v w' hv => hk v w' ?_
  cases o with
  | some v' =>
    cases ho
    cases p with
    | some v'' => cases hp; exact hv
    | none => rw [add_nan_r hp] at hv; exact hv
  | none => rw [add_nan ho] at hv; exact hv
theorem rn_mul2 {o p : Option Nat} (ho : Fl o x) (hp : Fl p y) (hk : ∀ v w', Fl (omul2 o p) v → Ext w w' → w'.heap = w.heap → K v w') : Rn P (Value.float .f64) (Op.floatArith .mul .f64 x y) w K := by
  refine arith_run .mul _ rfl fun v w' hv => hk v w' ?_
  cases o with
  | some v' =>
    cases ho
    cases p with
    | some v'' => cases hp; exact hv
    | none => rw [mul_nan_r hp] at hv; exact hv
  | none => rw [mul_nan_l ho] at hv; exact hv
end

section
variable {κ ν : Type} [DecidableEq κ] {ek : κ → Value} {ev : ν → Value} {P : Program} {w : World} {b r : Nat} {l : List (κ × ν)}
def rgLeft (w : World) (r b : Nat) : Nat := match w.heap[r]?, w.heap[b]? with
  | some (.mapIter _ _ seen _), some (.map es _) => (leftOf es seen).toList.length
  | _, _ => 0
theorem Rg.left (h : Rg ek ev w r b l) : rgLeft w r b = l.length := by
  obtain ⟨es, clock, since, seen, c0, hr, hb, _, _, _, _, heq⟩ := h
  have := congrArg List.length heq
  unfold rgLeft; rw [hr, hb]
  simpa using this
theorem rn_range {mt kt et : Nat} {z : ν} {K : Value → World → Prop} (ht : MapT P mt kt et ek ev z) (h : Mp ek ev w b l) (hk : ∀ r w', Ext w w' → r = w.heap.size → Rg ek ev w' r b l → K (.pointer (some ⟨r, 0, none⟩)) w') :
    Rn P (fun x : Value => x) (Instr.range mt (.map (some b))) w K := by
  obtain ⟨r, w', hrun, he, hr, hR⟩ := range_run ht h
  exact ⟨_, w', hrun, hk r w' he hr hR⟩
theorem rn_next {ty : Nat} {K : Value → World → Prop} (h : Rg ek ev w r b l) (h0 : l = [] → K (.tuple #[.bool false]) w)
    (h1 : ∀ j k v w', l[j]? = some (k, v) → Chg (fun x => x = r) w w' → w'.heap.size = w.heap.size → Rg ek ev w' r b (l.eraseIdx j) → (Instr.entry (.pointer (some ⟨r, 0, none⟩))).run P w' = .ok (.tuple #[ek k, ev v]) w' → K (.tuple #[.bool true, ek k, ev v]) w') :
    Rn P (fun x : Value => x) (Instr.next (.pointer (some ⟨r, 0, none⟩)) false ty) w K := by
  rcases next_run (P := P) (ty := ty) h with ⟨hl, hrun⟩ | ⟨j, k, v, w', hj, hrun, hc, hs, hR, he⟩
  · exact ⟨_, w, hrun, h0 hl⟩
  · exact ⟨_, w', hrun, h1 j k v w' hj hc hs hR he⟩
theorem rnp_extract {α : Type} {enc : α → Value} {vs : Array Value} {i : Nat} {x : α} {K : α → Prop} (h : vs[i]? = some (enc x)) (hk : K x) : RnP P enc (Instr.extract (.tuple vs) i) K :=
  ⟨x, fun w => by simp [Instr.extract, h], hk⟩
end
end Go.Eng


namespace Go.Eng
open Go
set_option linter.unusedVariables false
set_option linter.unusedSectionVars false

def Wr (F : Nat → Prop) (w : World) (s : Sl) (sz : Nat) : Prop := s.n ≤ maxLen ∧ (s.n = 0 ∨ ∃ (b o : Nat) (T : TypeId) (cs : List Value), s.a = some ⟨b, o, none⟩ ∧ F b ∧ Blk w b T cs ∧ o + s.n * sz ≤ cs.length)
structure RdW {α : Type} (cells : α → List Value) (sz : Nat) (F : Nat → Prop) (w : World) (s : Sl) (l : List α) : Prop where
  rd : Rd cells sz F w s l
  wr : Wr F w s sz
section
variable {α : Type} {cells : α → List Value} {sz T B : Nat} {F G S : Nat → Prop} {w w' : World} {s : Sl} {l : List α} {P : Program}
theorem Wr.nil_ (F : Nat → Prop) (w : World) (sz : Nat) : Wr F w Sl.nil sz := ⟨Nat.zero_le _, .inl rfl⟩
theorem Wr.chg (h : Wr F w s sz) (k : Chg S w w') (hs : ∀ b, F b → b < w.heap.size → ¬ S b) : Wr F w' s sz :=
  ⟨h.1, h.2.imp id fun ⟨b, o, T, cs, h1, h2, h3, h4⟩ => ⟨b, o, T, cs, h1, h2, h3.chg k (hs b h2 h3.lt), h4⟩⟩
theorem Wr.ext (h : Wr F w s sz) (k : Ext w w') : Wr F w' s sz := h.chg (k.chg fun _ => False) (fun _ _ _ h => h)
theorem Wr.mono (h : Wr F w s sz) (hF : ∀ b, F b → G b) : Wr G w s sz := ⟨h.1, h.2.imp id fun ⟨b, o, T, cs, h1, h2, h3, h4⟩ => ⟨b, o, T, cs, h1, hF _ h2, h3, h4⟩⟩
theorem RdW.chg (h : RdW cells sz F w s l) (k : Chg S w w') (hs : ∀ b, F b → b < w.heap.size → ¬ S b) : RdW cells sz F w' s l := ⟨h.rd.chg k hs, h.wr.chg k hs⟩
theorem RdW.ext (h : RdW cells sz F w s l) (k : Ext w w') : RdW cells sz F w' s l := ⟨h.rd.ext k, h.wr.ext k⟩
theorem RdW.mono (h : RdW cells sz F w s l) (hF : ∀ b, F b → G b) : RdW cells sz G w s l := ⟨h.rd.mono hF, h.wr.mono hF⟩
theorem Own.wr (h : Own cells sz T B w s l) (hF : ∀ b, own? s b → F b) : Wr F w s sz := by
  have hn := h.len
  have hr := h.rd (F := fun _ => True) fun _ _ => trivial
  refine ⟨Nat.le_trans hr.cap hr.lim, ?_⟩
  rcases h.row.2 with ⟨hv, h0⟩ | ⟨g, cap, cur, hv, hbg, hg, hnc, hcm, hcs, htake⟩
  · exact .inl (by omega)
  · have ha : s.a = some ⟨g, 0, none⟩ := by obtain ⟨a, n, c⟩ := s; simp only [Sl.v, Value.slice.injEq] at hv; exact hv.1
    refine .inr ⟨g, 0, T, cur.toList, ha, hF _ ⟨_, ha, rfl⟩, by unfold Blk; rw [hg], ?_⟩
    have : cur.toList.length = cap * sz := by simpa using hcs
    have := Nat.mul_le_mul_right sz hnc
    rw [hn]; omega
theorem Own.rdw (h : Own cells sz T B w s l) (hF : ∀ b, own? s b → F b) : RdW cells sz F w s l := ⟨h.rd hF, h.wr hF⟩
theorem flat_take (hsz : ∀ x ∈ l, (cells x).length = sz) : ∀ n, (l.take n).flatMap cells = (l.flatMap cells).take (n * sz) := by
  induction l with
  | nil => intro n; simp
  | cons x l ih =>
    intro n
    cases n with
    | zero => simp
    | succ n =>
      have hx := hsz x (by simp)
      rw [List.take_succ_cons, List.flatMap_cons, List.flatMap_cons, ih (fun y hy => hsz y (by simp [hy])) n]
      rw [List.take_append, List.take_of_length_le (l := cells x) (by rw [hx, Nat.add_mul]; omega)]
      congr 2
      rw [hx, Nat.add_mul]; omega
theorem Own.take (h : Own cells sz T B w s l) {n : Nat} (hn : n ≤ l.length) : Own cells sz T B w ⟨s.a, n, s.c⟩ (l.take n) := by
  have hln := h.len
  obtain ⟨hr1, hr⟩ := h.row
  have hl : (l.take n).length = n := by rw [List.length_take]; omega
  have hsub : ∀ x ∈ l.take n, (cells x).length = sz := fun x hx => h.sz_ x (List.mem_of_mem_take hx)
  have hlen : n * sz ≤ l.length * sz := Nat.mul_le_mul_right _ hn
  refine ⟨⟨?_, ?_⟩, hsub⟩
  · rw [flat_take h.sz_, List.length_take, hr1, hl]; omega
  · rcases hr with ⟨hv, h0⟩ | ⟨g, cap, cur, hv, hbg, hg, hnc, hcm, hcs, htake⟩
    · left
      obtain ⟨a, m, c⟩ := s
      simp only [Sl.v, Value.slice.injEq] at hv ⊢
      exact ⟨⟨hv.1, by omega, hv.2.2⟩, by omega⟩
    · right
      refine ⟨g, cap, cur, ?_, hbg, hg, by omega, hcm, hcs, ?_⟩
      · obtain ⟨a, m, c⟩ := s
        simp only [Sl.v, Value.slice.injEq] at hv ⊢
        exact ⟨hv.1, by omega, hv.2.2⟩
      · rw [hl, flat_take h.sz_, ← htake, List.take_take, Nat.min_eq_left hlen]
theorem rn_copyW {t ty bytes : Nat} {z : Value} {b : Nat} {s' : Sl} {l' : List α} {K : Sl → World → Prop} (ht : ElT P t T sz bytes z) (hb : Blk w b T []) (h' : Rd cells sz F w s' l') (hsz : ∀ x, (cells x).length = sz)
    (h1 : ∀ x, ∀ u ∈ cells x, u.oneCell' = true) (hbytes : l'.length * bytes ≤ 140737488355328) (hpos : 0 < bytes)
    (hk : ∀ x w', Chg (fun c => c = b) w w' → RdW cells sz (fun c => (c = b ∨ c = w.heap.size) ∧ c < w'.heap.size) w' x l' → K x w') : Rn P Sl.v (Builtin.append_ #[t, t] ty #[Sl.v ⟨some ⟨b, 0, none⟩, 0, 0⟩, Sl.v s']) w K :=
  rn_app ht (Own.empty hb (Nat.le_refl _)) h' hsz h1 (by simpa using hbytes) hpos (Nat.le_of_lt hb.lt) fun x w' ho hc hn =>
    hk x w' (hc.mono fun c _ hc => by obtain ⟨a, ha, rfl⟩ := hc; cases ha; rfl) (ho.rdw fun c hc => ⟨by
      rcases hn c hc with ⟨a, ha, rfl⟩ | h
      · cases ha; exact .inl rfl
      · exact .inr h, (ho.ge hc).2⟩)
end
end Go.Eng


namespace Go.Proofs.Ytdoeegfcmbcbkaa.Ct
open Go Go.Eng Tr
set_option linter.unusedVariables false
set_option maxRecDepth 100000

structure DRes where
  kind : Int
  name : ByteArray
  ends : List ByteArray
  targets : List TTarget
  host : ByteArray
  rules : List TRule
  route : ByteArray
  del : Bool
structure ResD (F : Nat → Prop) (w : World) (r : TResource) (d : DRes) : Prop where
  kind : r.Kind = d.kind
  name : r.Name = d.name
  ends : Rd bs 1 F w r.Endpoints d.ends
  targets : Rd TTarget.cells 3 F w r.Targets d.targets
  host : r.Host = d.host
  rules : Rd TRule.cells 4 F w r.Rules d.rules
  route : r.Route = d.route
  del : r.Delete = d.del
structure ConfD (F : Nat → Prop) (w : World) (s : Sl) (rs : List TResource) (l : List DRes) : Prop where
  rd : Rd TResource.cells 8 F w s rs
  len : rs.length = l.length
  el : ∀ k (h : k < rs.length) (h' : k < l.length), ResD F w rs[k] l[k]
section
variable {F G S : Nat → Prop} {w w' : World} {r : TResource} {d : DRes} {s : Sl} {rs : List TResource} {l : List DRes}
theorem ResD.ext (h : ResD F w r d) (k : Ext w w') : ResD F w' r d := ⟨h.kind, h.name, h.ends.ext k, h.targets.ext k, h.host, h.rules.ext k, h.route, h.del⟩
theorem ResD.chg (h : ResD F w r d) (k : Chg S w w') (hs : ∀ b, F b → b < w.heap.size → ¬ S b) : ResD F w' r d := ⟨h.kind, h.name, h.ends.chg k hs, h.targets.chg k hs, h.host, h.rules.chg k hs, h.route, h.del⟩
theorem ResD.mono (h : ResD F w r d) (hF : ∀ b, F b → G b) : ResD G w r d := ⟨h.kind, h.name, h.ends.mono hF, h.targets.mono hF, h.host, h.rules.mono hF, h.route, h.del⟩
theorem ConfD.ext (h : ConfD F w s rs l) (k : Ext w w') : ConfD F w' s rs l := ⟨h.rd.ext k, h.len, fun i a b => (h.el i a b).ext k⟩
theorem ConfD.chg (h : ConfD F w s rs l) (k : Chg S w w') (hs : ∀ b, F b → b < w.heap.size → ¬ S b) : ConfD F w' s rs l := ⟨h.rd.chg k hs, h.len, fun i a b => (h.el i a b).chg k hs⟩
theorem ConfD.mono (h : ConfD F w s rs l) (hF : ∀ b, F b → G b) : ConfD G w s rs l := ⟨h.rd.mono hF, h.len, fun i a b => (h.el i a b).mono hF⟩
theorem ConfD.n (h : ConfD F w s rs l) : s.n = l.length := h.rd.len.trans h.len
theorem ConfD.wr (h : ConfD F w s rs l) {k : Nat} (hk : k < l.length) : IntKind.i64.wrap ((k : Int) + 1) = ((k + 1 : Nat) : Int) := h.rd.wr (by rw [h.len]; exact hk)
theorem ConfD.idx (h : ConfD F w s rs l) {k : Nat} (hk : k < l.length) {i : Int} (hi : i = k) {K : Addr → Prop} (hK : ∀ p r, F p.block → At w p (TResource.cells r) → ResD F w r l[k] → K p) :
    RnP PP Ptr (Instr.indexAt 22 (Sl.v s) (.int .i64 i)) K :=
  rnp_idx sl22 h.rd (by rw [h.len]; exact hk) hi fun p hF hp => hK p _ hF hp (h.el k (by rw [h.len]; exact hk) hk)
end

section
variable {w : World} {F G : Nat → Prop} {s s' : Sl}
end
def Marked (w : World) (s : Sl) (n : Nat) : Prop := n + 1 ≤ s.c ∧ ∃ a, s.a = some a ∧ w.cell? (a.add (n * 8)) = some (.int .i64 (-77))
structure Small (d : DRes) : Prop where
  ends : d.ends.length * 16 ≤ 140737488355328
  targets : d.targets.length * 40 ≤ 140737488355328
  rules : d.rules.length * 56 ≤ 140737488355328
theorem one_bs (x : ByteArray) : (bs x).length = 1 := rfl
theorem oc_bs (x : ByteArray) : ∀ u ∈ bs x, u.oneCell' = true := by simp [bs, Value.oneCell']
theorem oc_target (x : TTarget) : ∀ u ∈ TTarget.cells x, u.oneCell' = true := by simp [TTarget.cells, Value.oneCell']
theorem oc_rule (x : TRule) : ∀ u ∈ TRule.cells x, u.oneCell' = true := by simp [TRule.cells, Value.oneCell']
theorem oc_res (x : TResource) : ∀ u ∈ TResource.cells x, u.oneCell' = true := by simp [TResource.cells, Value.oneCell', Sl.v]
theorem oc_share (x : TShare) : ∀ u ∈ TShare.cells x, u.oneCell' = true := by simp [TShare.cells, Value.oneCell']
structure ResW (F : Nat → Prop) (w : World) (r : TResource) (d : DRes) : Prop where
  d : ResD F w r d
  e : Wr F w r.Endpoints 1
  t : Wr F w r.Targets 3
  u : Wr F w r.Rules 4
section
variable {F G S : Nat → Prop} {w w' : World} {r : TResource} {d : DRes}
theorem ResW.chg (h : ResW F w r d) (k : Chg S w w') (hs : ∀ b, F b → b < w.heap.size → ¬ S b) : ResW F w' r d := ⟨h.d.chg k hs, h.e.chg k hs, h.t.chg k hs, h.u.chg k hs⟩
theorem ResW.ext (h : ResW F w r d) (k : Ext w w') : ResW F w' r d := ⟨h.d.ext k, h.e.ext k, h.t.ext k, h.u.ext k⟩
theorem ResW.mono (h : ResW F w r d) (hF : ∀ b, F b → G b) : ResW G w r d := ⟨h.d.mono hF, h.e.mono hF, h.t.mono hF, h.u.mono hF⟩
end
structure Loose (B N : Nat) (w : World) (s : Sl) (rs : List TResource) : Prop where
  own : Own TResource.cells 8 48 B w s rs
  lim : ∀ b, own? s b → b < N
  e : ∀ r ∈ rs, Wr (fun b => (B ≤ b ∧ b < N) ∧ ¬ own? s b) w r.Endpoints 1
  t : ∀ r ∈ rs, Wr (fun b => (B ≤ b ∧ b < N) ∧ ¬ own? s b) w r.Targets 3
  u : ∀ r ∈ rs, Wr (fun b => (B ≤ b ∧ b < N) ∧ ¬ own? s b) w r.Rules 4
theorem Loose.ext {B N : Nat} {w w' : World} {s : Sl} {rs : List TResource} (h : Loose B N w s rs) (k : Ext w w') : Loose B N w' s rs :=
  ⟨h.own.ext k, h.lim, fun r hr => (h.e r hr).ext k, fun r hr => (h.t r hr).ext k, fun r hr => (h.u r hr).ext k⟩
theorem Marked.ext {w w' : World} {s : Sl} {n : Nat} (h : Marked w s n) (k : Ext w w') : Marked w' s n := let ⟨h1, a, h2, h3⟩ := h; ⟨h1, a, h2, k.cell' h3⟩
theorem twin_ok2 {w : World} {F : Nat → Prop} {s : Sl} {rs : List TResource} {l : List DRes} (h : ConfD F w s rs l) (hs : ∀ d ∈ l, Small d) (hb : (l.length + 1) * 136 ≤ 140737488355328) :
    Cal PP Sl.v 16 #[s.v] w fun x w' => Ext w w' ∧ ∃ rs', ConfD (fun b => w.heap.size ≤ b) w' x rs' l ∧ Marked w' x l.length ∧ Loose w.heap.size w'.heap.size w' x rs' := by
  refine c16 ?_
  unfold f16
  refine Lp.mk (fun (x : Sl × Int) w' => ∃ k rs', x.2 = (k : Nat) ∧ k ≤ l.length ∧ Ext w w' ∧ Own TResource.cells 8 48 w.heap.size w' x.1 rs' ∧ rs'.length = k ∧
    ∀ j (h1 : j < rs'.length) (h2 : j < l.length), ResW (fun b => w.heap.size ≤ b ∧ b < w'.heap.size ∧ ¬ own? x.1 b) w' rs'[j] l[j]) (fun x => l.length - x.2.toNat)
    ⟨0, [], rfl, Nat.zero_le _, Ext.refl _, Own.nil_ _ _, rfl, fun j h1 => absurd h1 (Nat.not_lt_zero _)⟩ ?_
  rintro ⟨out, i⟩ w1 K ⟨k, rs', rfl, hk, hE, hO, hl', hR⟩ hK
  dsimp only at hO hR ⊢
  by_cases hlt : k < l.length
  · rw [if_pos (by rw [h.n]; omega)]
    refine (h.ext hE).idx hlt rfl fun p r _ hp hr => ?_
    refine rn_ldN (x := r) many48 hp rfl rfl ?_
    refine New.mk fun b5 w2 e2 hb5 hn5 _ => ?_
    refine rnu_st (b := b5) (o := 0) rfl hb5 (TResource.cells r) sz48 rfl (oc_res r) (Nat.le_refl _) fun w3 e3 _ hb5 => ?_
    replace hb5 : Blk w3 b5 48 (TResource.cells r) := hb5
    have hB := hE.size
    -- what stood below b5 stands; b5 is our own
    have hw5 : w.heap.size ≤ b5 := by omega
    have C : Chg (fun b => b = b5) w1 w3 := (e2.chg _).trans e3
    have E : Ext w1 w3 := C.ext (fun b hb he => by omega)
    clear e2 e3 C
    have q5 : b5 < w3.heap.size := hb5.lt
    refine New.mk fun b16 w4 e4 hb16 hn16 s4 => ?_
    replace hb5 := hb5.ext e4; replace E := E.trans e4
    refine rn_blk one44 hb5 rfl rfl ?_
    refine rn_copyW el44 hb16 (hr.ends.ext E) one_bs oc_bs (hs _ (List.getElem_mem hlt)).ends (by decide) fun x1 w5 c1 r1 => ?_
    replace hb5 := hb5.chg c1 (by omega)
    have g4 := c1.size
    have E5 : Ext w1 w5 := E.then c1 (fun b hb => by omega)
    clear E c1
    refine rnu_st (b := b5) (o := 2) rfl hb5 [Sl.v x1] sz44 rfl (by simp [Sl.v, Value.oneCell']) (by simp [TResource.cells]) fun w6 c6 s6 hb5 => ?_
    replace hb5 : Blk w6 b5 48 (TResource.cells { r with Endpoints := x1 }) := hb5
    have E := E5.then c6 (fun b hb => by omega)
    replace r1 := r1.chg c6 (fun b hb _ => by have := hb.1; omega)
    have g6 : w5.heap.size ≤ w6.heap.size := c6.size
    have g5 := E5.size
    clear E5 c6
    refine New.mk fun b21 w7 e7 hb21 hn21 s7 => ?_
    replace hb5 := hb5.ext e7; replace E := E.trans e7; replace r1 := r1.ext e7
    refine rn_blk one45 hb5 rfl rfl ?_
    refine rn_copyW el45 hb21 (hr.targets.ext E) (fun _ => rfl) oc_target (hs _ (List.getElem_mem hlt)).targets (by decide) fun x2 w8 c2 r2 => ?_
    replace hb5 := hb5.chg c2 (by omega)
    have g8 := c2.size
    replace r1 := r1.chg c2 (fun b hb _ => by have := hb.2; omega)
    replace E := E.then c2 (fun b hb => by omega)
    clear c2
    refine rnu_st (b := b5) (o := 3) rfl hb5 [Sl.v x2] sz45 rfl (by simp [Sl.v, Value.oneCell']) (by simp [TResource.cells]) fun w9 c9 s9 hb5 => ?_
    replace hb5 : Blk w9 b5 48 (TResource.cells { r with Endpoints := x1, Targets := x2 }) := hb5
    replace E := E.then c9 (fun b hb => by omega)
    replace r1 := r1.chg c9 (fun b hb _ => by have := hb.1; omega)
    replace r2 := r2.chg c9 (fun b hb _ => by have := hb.1; omega)
    have g9 := c9.size
    clear c9
    refine New.mk fun b26 w10 e10 hb26 hn26 s10 => ?_
    replace hb5 := hb5.ext e10; replace E := E.trans e10; replace r1 := r1.ext e10; replace r2 := r2.ext e10
    refine rn_blk one46 hb5 rfl rfl ?_
    refine rn_copyW el46 hb26 (hr.rules.ext E) (fun _ => rfl) oc_rule (hs _ (List.getElem_mem hlt)).rules (by decide) fun x3 w11 c3 r3 => ?_
    replace hb5 := hb5.chg c3 (by omega)
    have g11 := c3.size
    replace r1 := r1.chg c3 (fun b hb _ => by have := hb.2; omega)
    replace r2 := r2.chg c3 (fun b hb _ => by have := hb.2; omega)
    replace E := E.then c3 (fun b hb => by omega)
    clear c3
    refine rnu_st (b := b5) (o := 5) rfl hb5 [Sl.v x3] sz46 rfl (by simp [Sl.v, Value.oneCell']) (by simp [TResource.cells]) fun w12 c12 s12 hb5 => ?_
    replace hb5 : Blk w12 b5 48 (TResource.cells { r with Endpoints := x1, Targets := x2, Rules := x3 }) := hb5
    replace E := E.then c12 (fun b hb => by omega)
    replace r1 := r1.chg c12 (fun b hb _ => by have := hb.1; omega)
    replace r2 := r2.chg c12 (fun b hb _ => by have := hb.1; omega)
    replace r3 := r3.chg c12 (fun b hb _ => by have := hb.1; omega)
    clear c12
    refine rn_blkN (x := { r with Endpoints := x1, Targets := x2, Rules := x3 }) many48 hb5 rfl rfl ?_
    refine New.mk fun b33 w13 e13 hb33 hn33 s13 => ?_
    replace E := E.trans e13; replace r1 := r1.ext e13; replace r2 := r2.ext e13; replace r3 := r3.ext e13
    have O13 := hO.ext E
    refine rn_app1 el22 O13 hb33 rfl rfl (oc_res _) (by rw [hl']; omega) (by decide) (by have := E.size; omega) fun out' w14 O14 c14 n14 => ?_
    have hown : ∀ b, own? out b → b < w1.heap.size := fun b hb => (hO.ge hb).2
    have E14 : Ext w w14 := (hE.trans E).then c14 (fun b hb => (hO.ge hb).1)
    have g1 := E.size
    have g14 := c14.size
    rw [h.wr hlt]
    refine hK _ _ ⟨k + 1, rs' ++ [{ r with Endpoints := x1, Targets := x2, Rules := x3 }], rfl, hlt, E14, O14, by simp [hl'], fun j h1 h2 => ?_⟩ (by dsimp only; omega)
    have fin : ∀ b, b < w13.heap.size → ¬ own? out b → b < w14.heap.size ∧ ¬ own? out' b := fun b hb hn => ⟨by omega, fun ho => by
      rcases n14 b ho with h' | h'
      · exact hn h'
      · omega⟩
    by_cases hj : j < rs'.length
    · rw [List.getElem_append_left hj]
      refine ((hR j hj h2).ext E).chg c14 (fun b hb _ => hb.2.2) |>.mono fun b hb => ?_
      exact ⟨hb.1, fin b (by have := hb.2.1; omega) hb.2.2⟩
    · obtain rfl : j = rs'.length := by simp at h1; omega
      rw [List.getElem_append_right (Nat.le_refl _)]
      simp only [Nat.sub_self, List.getElem_cons_zero]
      have hno : ∀ b, w1.heap.size ≤ b → ¬ own? out b := fun b hb ho => by have := hown b ho; omega
      have r1' := (r1.chg c14 (fun b hb _ => hno b (by have := hb.1; omega))).mono (G := fun b => w.heap.size ≤ b ∧ b < w14.heap.size ∧ ¬ own? out' b) (fun b hb => ⟨by have := hb.1; omega, fin b (by have := hb.2; omega) (hno b (by have := hb.1; omega))⟩)
      have r2' := (r2.chg c14 (fun b hb _ => hno b (by have := hb.1; omega))).mono (G := fun b => w.heap.size ≤ b ∧ b < w14.heap.size ∧ ¬ own? out' b) (fun b hb => ⟨by have := hb.1; omega, fin b (by have := hb.2; omega) (hno b (by have := hb.1; omega))⟩)
      have r3' := (r3.chg c14 (fun b hb _ => hno b (by have := hb.1; omega))).mono (G := fun b => w.heap.size ≤ b ∧ b < w14.heap.size ∧ ¬ own? out' b) (fun b hb => ⟨by have := hb.1; omega, fin b (by have := hb.2; omega) (hno b (by have := hb.1; omega))⟩)
      subst hl'
      exact ⟨⟨hr.kind, hr.name, r1'.rd, r2'.rd, hr.host, r3'.rd, hr.route, hr.del⟩, r1'.wr, r2'.wr, r3'.wr⟩
  · rw [if_neg (by rw [h.n]; omega)]
    obtain rfl : k = l.length := by omega
    refine New.mk fun b37 w2 e2 hb37 hn37 s2 => ?_
    have O2 := hO.ext e2
    refine rn_app1 el22 O2 hb37 rfl rfl (oc_res _) (by rw [hl']; omega) (by decide) (by have := hE.size; omega) fun out' w3 O3 c3 n3 => ?_
    have E3 : Ext w w3 := (hE.trans e2).then c3 (fun b hb => (hO.ge hb).1)
    have hrd := O3.rd (F := fun b => w.heap.size ≤ b) (fun b hb => (O3.ge hb).1)
    have hlen := hrd.len
    simp only [List.length_append, List.length_cons, List.length_nil, hl'] at hlen
    refine rnp_slice sl22 none (some s.n) rfl rfl (Nat.zero_le _) (by rw [h.n]; have := hrd.cap; simp; omega) ?_
    simp only [Option.getD_none, Option.getD_some, Sl.cut_zero]
    rw [h.n]
    have fin : ∀ b, b < w2.heap.size → ¬ own? out b → ¬ own? out' b := fun b hb hn ho => by
      rcases n3 b ho with h' | h'
      · exact hn h'
      · omega
    have g2 := e2.size
    have hall : ∀ j (h1 : j < rs'.length) (h2 : j < l.length), ResW (fun b => (w.heap.size ≤ b ∧ b < w3.heap.size) ∧ ¬ own? out' b) w3 rs'[j] l[j] := fun j h1 h2 =>
      (((hR j h1 h2).ext e2).chg c3 (fun b hb _ => hb.2.2)).mono fun b hb => ⟨⟨hb.1, by have := hb.2.1; have := c3.size; omega⟩, fin b (by have := hb.2.1; omega) hb.2.2⟩
    have hsame : ∀ b, own? (⟨out'.a, l.length, out'.c⟩ : Sl) b ↔ own? out' b := fun b => Iff.rfl
    have hO4 := O3.take (n := l.length) (by simp [hl'])
    rw [← hl', List.take_left', hl'] at hO4
    · refine ⟨E3, rs', ⟨?_, hl', fun j h1 h2 => ?_⟩, ?_, ⟨hO4, fun b hb => (O3.ge hb).2, fun r hr => ?_, fun r hr => ?_, fun r hr => ?_⟩⟩
      · have := hrd.take (n := l.length) (by simp [hl'])
        simpa [← hl'] using this
      · exact (hall j h1 h2).d.mono fun b hb => hb.1.1
      · refine ⟨by have := hrd.cap; show l.length + 1 ≤ out'.c; omega, ?_⟩
        obtain ⟨a, ha, _, hat⟩ := hrd.el l.length (by simp [hl'])
        refine ⟨a, ha, ?_⟩
        have := hat 0 (by simp [← hl', TResource.cells])
        rw [add_add, Nat.add_zero] at this
        simpa [← hl', TResource.cells] using this
      all_goals
        obtain ⟨j, hj, rfl⟩ := List.mem_iff_getElem.1 hr
      · exact (hall j hj (by omega)).e
      · exact (hall j hj (by omega)).t
      · exact (hall j hj (by omega)).u
    · rfl
theorem twin_ok {w : World} {F : Nat → Prop} {s : Sl} {rs : List TResource} {l : List DRes} (h : ConfD F w s rs l) (hs : ∀ d ∈ l, Small d) (hb : (l.length + 1) * 136 ≤ 140737488355328) :
    Cal PP Sl.v 16 #[s.v] w fun x w' => Ext w w' ∧ ∃ rs', ConfD (fun b => w.heap.size ≤ b) w' x rs' l ∧ Marked w' x l.length :=
  (twin_ok2 h hs hb).mono fun x w' ⟨e, rs', h1, h2, _⟩ => ⟨e, rs', h1, h2⟩
end Go.Proofs.Ytdoeegfcmbcbkaa.Ct


namespace Go.Proofs.Ytdoeegfcmbcbkaa.Ct
open Go Go.Eng Tr
set_option linter.unusedVariables false
set_option maxRecDepth 100000

theorem cmp_less : ∀ a b : List UInt8, (0 ≤ Lib.compareBytes a b) ↔ Op.bytesLess a b = false
  | [], [] => by simp [Lib.compareBytes, Op.bytesLess]
  | [], _ :: _ => by simp [Lib.compareBytes, Op.bytesLess]
  | _ :: _, [] => by simp [Lib.compareBytes, Op.bytesLess]
  | x :: a, y :: b => by
    have ih := cmp_less a b
    unfold Lib.compareBytes Op.bytesLess
    by_cases h : x < y
    · simp [h]
    · by_cases h' : y < x
      · have : x ≠ y := fun e => by subst e; exact h h'
        simp [h, h', this]
      · have : x = y := UInt8.le_antisymm (UInt8.not_lt.1 h') (UInt8.not_lt.1 h)
        subst this
        simp [h, ih]
theorem less_irrefl : ∀ a : List UInt8, Op.bytesLess a a = false
  | [] => rfl
  | x :: a => by simp [Op.bytesLess, less_irrefl a]
theorem less_trans : ∀ a b c : List UInt8, Op.bytesLess a b = true → Op.bytesLess b c = true → Op.bytesLess a c = true
  | _, [], _, h, _ => by simp [Op.bytesLess] at h
  | _, _ :: _, [], _, h => by simp [Op.bytesLess] at h
  | [], _ :: _, _ :: _, _, _ => rfl
  | x :: a, y :: b, z :: c, h, k => by
    simp only [Op.bytesLess, Bool.or_eq_true, decide_eq_true_eq, Bool.and_eq_true, beq_iff_eq] at h k ⊢
    rcases h with h | ⟨rfl, h⟩
    · rcases k with k | ⟨rfl, k⟩
      · exact .inl (UInt8.lt_trans h k)
      · exact .inl h
    · rcases k with k | ⟨rfl, k⟩
      · exact .inl k
      · exact .inr ⟨rfl, less_trans a b c h k⟩
theorem less_total : ∀ a b : List UInt8, Op.bytesLess a b = false → Op.bytesLess b a = false → a = b
  | [], [], _, _ => rfl
  | [], _ :: _, h, _ => by simp [Op.bytesLess] at h
  | _ :: _, [], _, h => by simp [Op.bytesLess] at h
  | x :: a, y :: b, h, k => by
    simp only [Op.bytesLess, Bool.or_eq_false_iff, decide_eq_false_iff_not, Bool.and_eq_false_iff, beq_eq_false_iff_ne] at h k
    have : x = y := UInt8.le_antisymm (UInt8.not_lt.1 k.1) (UInt8.not_lt.1 h.1)
    subst this
    rw [less_total a b (h.2.resolve_left (by simp)) (k.2.resolve_left (by simp))]
theorem sLt_irrefl (a : ByteArray) : sLt a a = false := less_irrefl _
theorem sLt_trans {a b c : ByteArray} (h : sLt a b = true) (k : sLt b c = true) : sLt a c = true := less_trans _ _ _ h k
theorem sLt_total {a b : ByteArray} (h : sLt a b = false) (k : sLt b a = false) : a = b := by
  have := less_total _ _ h k
  cases a; cases b; simp only [ByteArray.mk.injEq]; exact Array.ext' this

def kLt (k : Int) (n : ByteArray) (k' : Int) (n' : ByteArray) : Bool := decide (k < k') || (decide (k = k') && sLt n n')
section
variable {w : World} {F G : Nat → Prop}
theorem compare_ok (a b : ByteArray) : Ans (Value.int .i64) 134 #[.string a, .string b] w (Lib.compareBytes a.data.toList b.data.toList) := by
  refine c134 ?_
  unfold f134
  refine (c154 (R := fun x w' => Ext w w' ∧ x = Lib.compareBytes a.data.toList b.data.toList) ?_).mono ?_
  · unfold f154
    refine ⟨_, w, ?_, Ext.refl _, rfl⟩
    rw [run_callFunc_extern Try.func163 rfl rfl (e := Extern.BytealgCompare.compare) (by kernel_rfl) (by kernel_rfl), Lib.run_compareString]; rfl
  · exact fun x w' h => h
theorem nan_int (a : Int) : Ans Value.bool 118 #[.int .i64 a] w false := c118 (by unfold f118; exact ⟨Ext.refl _, by simp⟩)
theorem nan_string (a : ByteArray) : Ans Value.bool 119 #[.string a] w false := c119 (by unfold f119; exact ⟨Ext.refl _, by simp⟩)
theorem cmpInt_ok (a b : Int) : Ans (Value.int .i64) 87 #[.int .i64 a, .int .i64 b] w (if a < b then -1 else if b < a then 1 else 0) := by
  refine c87 ?_
  unfold f87
  refine (nan_int a).mono ?_; rintro _ w1 ⟨e1, rfl⟩
  refine (nan_int b).mono ?_; rintro _ w2 ⟨e2, rfl⟩
  rw [if_neg (by simp), if_neg (by simp)]
  by_cases h : a < b
  · rw [if_pos h, if_pos h]; exact ⟨e1.trans e2, rfl⟩
  · rw [if_neg h, if_neg h]
    by_cases h' : b < a
    · rw [if_pos h', if_pos h']; exact ⟨e1.trans e2, rfl⟩
    · rw [if_neg h', if_neg h']; exact ⟨e1.trans e2, rfl⟩
theorem order_ok (a b : TKey) : Cal PP (Value.int .i64) 111 #[a.v, b.v] w fun x w' => Ext w w' ∧ (decide (0 ≤ x) = !kLt a.kind a.name b.kind b.name) := by
  refine c111 ?_
  unfold f111
  refine New.mk fun b2 w1 e1 h2 _ _ => ?_
  refine New.mk fun b3 w2 e2 h3 _ _ => ?_
  replace h2 := h2.ext e2; replace e1 := e1.trans e2
  refine rn_blk one3 h2 rfl rfl ?_
  refine rn_blk one3 h3 rfl rfl ?_
  refine (cmpInt_ok _ _).mono ?_; rintro _ w3 ⟨e3, rfl⟩
  replace h2 := h2.ext e3; replace h3 := h3.ext e3; replace e1 := e1.trans e3
  unfold kLt
  by_cases h : a.kind < b.kind
  · simp only [if_pos h]
    rw [if_pos (by decide)]; exact ⟨e1, by simp [h]⟩
  · simp only [if_neg h]
    by_cases h' : b.kind < a.kind
    · rw [if_pos h', if_pos (by decide)]; exact ⟨e1, by simp [h]; omega⟩
    · rw [if_neg h', if_neg (by simp)]
      refine rn_blk one9 h2 rfl rfl ?_
      refine rn_blk one9 h3 rfl rfl ?_
      refine (compare_ok _ _).mono ?_; rintro _ w4 ⟨e4, rfl⟩
      refine ⟨e1.trans e4, ?_⟩
      have : a.kind = b.kind := by omega
      have h2 := cmp_less a.name.data.toList b.name.data.toList
      simp only [this, Int.lt_irrefl, decide_false, decide_true, Bool.false_or, Bool.true_and, sLt]
      cases hb : Op.bytesLess a.name.data.toList b.name.data.toList with
      | false => simp [h2.2 hb]
      | true => rw [hb] at h2; simpa using h2
theorem of_ok (r : TResource) : Ans TKey.v 63 #[r.v] w ⟨r.Kind, r.Name⟩ := by
  refine c63 ?_
  unfold f63
  refine New.mk fun b1 w1 e1 h1 _ s1 => ?_
  refine New.mk fun b2 w2 e2 h2 hn _ => ?_
  replace h1 := h1.ext e2; replace e1 := e1.trans e2
  refine rn_blk one3 h1 rfl rfl ?_
  refine rn_blk one9 h1 rfl rfl ?_
  refine rnu_st (b := b2) (o := 0) rfl h2 (TKey.cells ⟨r.Kind, r.Name⟩) sz113 rfl (by simp [TKey.cells, Value.oneCell']) (by simp [TKey.cells]) fun w3 c3 s3 h2 => ?_
  replace h2 : Blk w3 b2 113 (TKey.cells ⟨r.Kind, r.Name⟩) := h2
  refine rnr_ldN (x := ⟨r.Kind, r.Name⟩) many113 h2.whole rfl rfl ?_
  exact ⟨e1.then c3 (fun b hb => by omega), rfl⟩
def outAt (l : List DRes) (i : Nat) : Bool :=
  match l[i]? with
  | none => false
  | some d => decide (d.kind < 1) || (decide (4 < d.kind) || (d.del || (decide (0 < i) && match l[i - 1]? with
    | none => false
    | some c => !kLt c.kind c.name d.kind d.name)))
def fst? (p : Nat → Bool) (n : Nat) : Int := match (List.range n).find? p with
  | some i => (i : Int)
  | none => -1
theorem fst?_some {p : Nat → Bool} {n k : Nat} (hk : k < n) (hp : p k = true) (hj : ∀ j, j < k → p j = false) : fst? p n = k := by
  unfold fst?
  have : (List.range n).find? p = some k := by
    rw [List.find?_range_eq_some]
    exact ⟨hp, by simpa using hk, fun j hj' => by simp [hj j hj']⟩
  rw [this]
theorem fst?_none {p : Nat → Bool} {n : Nat} (hj : ∀ j, j < n → p j = false) : fst? p n = -1 := by
  unfold fst?
  have : (List.range n).find? p = none := by
    rw [List.find?_range_eq_none]
    exact fun j hj' => by simp [hj j hj']
  rw [this]
theorem outs_ok {s : Sl} {rs : List TResource} {l : List DRes} (h : ConfD F w s rs l) : Ans (Value.int .i64) 93 #[s.v] w (fst? (outAt l) l.length) := by
  refine c93 ?_
  unfold f93
  refine Lp.mk (fun i w' => ∃ k : Nat, i = k ∧ k ≤ l.length ∧ Ext w w' ∧ ∀ j, j < k → outAt l j = false) (fun i => l.length - i.toNat) ⟨0, rfl, Nat.zero_le _, Ext.refl _, fun j hj => absurd hj (Nat.not_lt_zero _)⟩ ?_
  rintro i w1 K ⟨k, rfl, hk, hE, hall⟩ hK
  by_cases hlt : k < l.length
  · rw [if_pos (by rw [h.n]; omega)]
    refine (h.ext hE).idx hlt rfl fun p r _ hp hr => ?_
    refine rn_ldN (x := r) many48 hp rfl rfl ?_
    refine New.var (TResource.cells r) sz48 rfl (oc_res r) rfl fun b4 w2 e2 hb hn => ?_
    replace hE := hE.trans e2; replace hr := hr.ext e2
    refine Jn.dup ?_
    have hout : outAt l k = (decide (l[k].kind < 1) || (decide (4 < l[k].kind) || (l[k].del || (decide (0 < k) && match l[k - 1]? with
        | none => false
        | some c => !kLt c.kind c.name l[k].kind l[k].name)))) := by
      unfold outAt; rw [List.getElem?_eq_getElem hlt]
    have yes : ∀ w', outAt l k = true → Ext w w' → Ext w w' ∧ ((k : Int) = fst? (outAt l) l.length) := fun w' ho hE => ⟨hE, (fst?_some hlt ho hall).symm⟩
    have no : ∀ w', outAt l k = false → Ext w w' → K (IntKind.i64.wrap ((k : Int) + 1)) w' := fun w' ho hE => by
      rw [h.wr hlt]
      refine hK _ _ ⟨k + 1, rfl, hlt, hE, fun j hj => ?_⟩ (by omega)
      by_cases e : j = k
      · subst e; exact ho
      · exact hall j (by omega)
    refine Dr.mk fun w3 hD _ => ?_
    replace hE := hE.trans hD; replace hb := hb.ext hD; replace hr := hr.ext hD
    refine rnl_blk one3 hb rfl rfl ?_
    rw [hr.kind]
    by_cases c1 : l[k].kind < 1
    · rw [if_pos c1]; exact iteT rfl (yes _ (by rw [hout]; simp [c1]) hE)
    rw [if_neg c1]
    refine rnl_blk one3 hb rfl rfl ?_
    rw [hr.kind]
    by_cases c2 : 4 < l[k].kind
    · rw [if_pos c2]; exact iteT rfl (yes _ (by rw [hout]; simp [c2]) hE)
    rw [if_neg c2]
    refine rnl_blk one4 hb rfl rfl ?_
    rw [hr.del]
    by_cases c3 : l[k].del = true
    · rw [if_pos c3]; exact iteT rfl (yes _ (by rw [hout]; simp [c3]) hE)
    rw [if_neg c3]
    by_cases c4 : 0 < k
    · rw [if_pos (by omega)]
      have e1 : IntKind.i64.wrap ((k : Int) - 1) = ((k - 1 : Nat) : Int) := by
        have := h.rd.lim; have := h.n; have := h.rd.cap; unfold maxLen at *
        rw [wrap_in ⟨by omega, by omega⟩]; omega
      rw [e1]
      refine (h.ext hE).idx (k := k - 1) (by omega) rfl fun q r' _ hq hr' => ?_
      refine rnl_ldN (x := r') many48 hq rfl rfl ?_
      refine rnl_ldN (x := r) many48 hb.whole rfl rfl ?_
      refine (of_ok r').mono ?_; rintro _ w4 ⟨e4, rfl⟩
      refine ⟨e4, ?_⟩
      refine (of_ok r).mono ?_; rintro _ w5 ⟨e5, rfl⟩
      refine ⟨e4.trans e5, ?_⟩
      refine (order_ok _ _).mono ?_; rintro x w6 ⟨e6, hx⟩
      refine ⟨(e4.trans e5).trans e6, ?_⟩
      show if decide (0 ≤ x) = true then _ else _
      rw [hx, hr.kind, hr.name, hr'.kind, hr'.name]
      have hE := hE.trans (e4.trans (e5.trans e6))
      have hout' : outAt l k = !kLt l[k - 1].kind l[k - 1].name l[k].kind l[k].name := by
        rw [hout, List.getElem?_eq_getElem (by omega : k - 1 < l.length)]; simp [c1, c2, c3, c4]
      rw [← hout']
      cases ho : outAt l k with
      | true => exact iteT rfl (yes _ ho hE)
      | false => exact iteF (by simp) (no _ ho hE)
    · rw [if_neg (by omega)]
      exact iteF (by simp) (no _ (by rw [hout]; simp [c1, c2, c3, c4]) hE)
  · rw [if_neg (by rw [h.n]; omega)]
    exact ⟨hE, (fst?_none fun j hj => hall j (by omega)).symm⟩
end
end Go.Proofs.Ytdoeegfcmbcbkaa.Ct


namespace Go.Proofs.Ytdoeegfcmbcbkaa.Ct
open Go Go.Eng Tr
set_option linter.unusedVariables false
set_option maxRecDepth 100000

section
variable {w : World} {F G : Nat → Prop} {s : Sl} {rs : List TResource} {l : List DRes}
theorem outAt_eq {k : Nat} (hlt : k < l.length) : outAt l k = (decide (l[k].kind < 1) || (decide (4 < l[k].kind) || (l[k].del || (decide (0 < k) && match l[k - 1]? with
        | none => false
        | some c => !kLt c.kind c.name l[k].kind l[k].name)))) := by
  simp only [outAt, List.getElem?_eq_getElem hlt]
  all_goals (cases l[k - 1]? <;> rfl)
theorem all_succ {p : Nat → Bool} {k : Nat} (h : ∀ j, j < k → p j = false) (hk : p k = false) : ∀ j, j < k + 1 → p j = false := fun j hj => by
  by_cases e : j = k
  · subst e; exact hk
  · exact h j (by omega)
def isAt (l : List DRes) (kind : Int) (name : ByteArray) (i : Nat) : Bool :=
  match l[i]? with
  | none => false
  | some d => decide (d.kind = kind) && decide (d.name = name)
theorem isAt_eq {k : Nat} (hlt : k < l.length) (kind : Int) (name : ByteArray) : isAt l kind name k = (decide (l[k].kind = kind) && decide (l[k].name = name)) := by
  simp only [isAt, List.getElem?_eq_getElem hlt]
end
instance : DecidableEq TKey := fun a b => match a, b with
  | ⟨k, n⟩, ⟨k', n'⟩ => if h : k = k' ∧ n = n' then isTrue (by rw [h.1, h.2]) else isFalse (fun e => h (by cases e; exact ⟨rfl, rfl⟩))
theorem eqKey_run (x y : TKey) (w : World) : (Op.equal 113 x.v y.v).run PP w = .ok (decide (x = y)) w := by
  have h1 : ∀ (w : World) (a b : ByteArray), (Op.equalIn (9998 + 1) 9 (.string a) (.string b)).run PP w = .ok (a == b) w := fun w a b => by
    rw [run_equalIn_string w 9998 9 a b Try.underlying9, beq_toListBytes]
  have hp : ∀ (w : World) (o : Nat) (t : TypeId) (v : Value) (cs : Array Value), One PP t → cs[o]? = some v → (part t cs o).run PP w = .ok v w := fun w o t v cs h hv => part_one h hv
  show (Op.equalIn (9999 + 1) 113 (.agg (Array.mk x.cells)) (.agg (Array.mk y.cells))).run PP w = _
  rw [run_equalIn_struct w 9999 113 _ _ (by kernel_rfl) (by kernel_rfl)]
  have h0 : ∀ (w : World) (a b : Int), (Op.equalIn (9998 + 1) 3 (.int .i64 a) (.int .i64 b)).run PP w = .ok (a == b) w := fun w a b => run_equalIn_int w 9998 3 .i64 .i64 a b Try.underlying3
  have hf : (Program.fieldsOf PP 113).toList = [⟨ "kind", 3, 0, false, "", "turnpike/check", 0⟩, ⟨ "name", 9, 1, false, "", "turnpike/check", 8⟩] := by kernel_rfl
  rw [hf]
  have n1 : ("kind" : String) ≠ "_" := by decide
  have n2 : ("name" : String) ≠ "_" := by decide
  simp only [Op.eqFields, if_pos n1, if_pos n2, Sem.run_bind]
  rw [hp w 0 3 (.int .i64 x.kind) _ one3 rfl, Result.andThen_ok, hp w 0 3 (.int .i64 y.kind) _ one3 rfl, Result.andThen_ok, h0, Result.andThen_ok]
  obtain ⟨k, n⟩ := x
  obtain ⟨k', n'⟩ := y
  by_cases hk : k = k'
  · subst hk
    rw [if_neg (by simp), Sem.run_bind, hp w 1 9 (.string n) _ one9 rfl, Result.andThen_ok, Sem.run_bind, hp w 1 9 (.string n') _ one9 rfl, Result.andThen_ok, Sem.run_bind, h1, Result.andThen_ok, beq_bytes]
    by_cases hn : n = n'
    · subst hn; simp
    · simp [hn]
  · rw [if_pos (by simp [hk])]
    simp [hk]
theorem checkKey_key (e : Bool) (k : TKey) (w : World) : (Instr.checkKey e 10000 113 k.v).run PP w = .ok () w := by
  have hp : ∀ (w : World) (o : Nat) (t : TypeId) (v : Value) (cs : Array Value), One PP t → cs[o]? = some v → (part t cs o).run PP w = .ok v w := fun w o t v cs h hv => part_one h hv
  have h1 : ∀ (n : Nat) (a : ByteArray) (w : World), (Instr.checkKey e (n + 1) 9 (.string a)).run PP w = .ok () w := fun n a w => checkKey_string Try.underlying9 e a n w
  have h0 : ∀ (n : Nat) (a : Int) (w : World), (Instr.checkKey e (n + 1) 3 (.int .i64 a)).run PP w = .ok () w := fun n a w => by simp [Instr.checkKey, run_underlying Try.underlying3]
  show (Instr.checkKey e (9998 + 1 + 1) 113 (.agg (Array.mk k.cells))).run PP w = _
  rw [Instr.checkKey]
  have n1 : ("kind" : String) ≠ "_" := by decide
  have n2 : ("name" : String) ≠ "_" := by decide
  simp only [Sem.run_bind, run_underlying Try.underlying113, Result.andThen_ok]
  have p0 := hp w 0 3 (.int .i64 k.kind) (Array.mk k.cells) one3 rfl
  have p1 := hp w 1 9 (.string k.name) (Array.mk k.cells) one9 rfl
  simp only [List.forIn_toArray, List.forIn_cons, List.forIn_nil, if_pos n1, if_pos n2, Sem.run_bind, p0, p1, Result.andThen_ok, h0, h1, Sem.run_pure]
theorem keyT113 : KeyT PP 113 TKey.v where
  chk e k w := checkKey_key e k w
  find k ks es w he := by
    cases es with
    | nil =>
      cases ks with
      | nil => simp [Instr.findKey, run_underlying Try.underlying113, Instr.findNow, Eng.look]
      | cons _ _ => cases he
    | cons e es =>
      cases ks with
      | nil => cases he
      | cons k' ks =>
        have hn : ∀ d, Instr.sameNow (.struct d) k.v e.key = none := fun d => by simp [Instr.sameNow]
        have h2 := findAsking_run (P := PP) (kt := 113) (ek := TKey.v) (fun a b w => eqKey_run a b w) k w (k' :: ks) (e :: es) 0 he
        simp only [Instr.findKey, Sem.run_bind, run_underlying Try.underlying113, Result.andThen_ok, Instr.findNow, hn]
        exact h2
  same k := by
    have : ∀ n, Instr.sameBits (n + 1 + 1) k.v k.v = true := fun n => by
      show Instr.sameBits (n + 1 + 1) (.agg (Array.mk k.cells)) (.agg (Array.mk k.cells)) = true
      simp [Instr.sameBits, TKey.cells, beq_bytes]
    exact this 9998
  inj a b h := by
    obtain ⟨k, n⟩ := a; obtain ⟨k', n'⟩ := b
    simp only [TKey.v, TKey.cells, Value.agg.injEq, Array.mk.injEq, List.cons.injEq, Value.int.injEq, Value.string.injEq, and_true, true_and] at h
    obtain ⟨rfl, rfl⟩ := h; rfl
end Go.Proofs.Ytdoeegfcmbcbkaa.Ct


namespace Go.Proofs.Ytdoeegfcmbcbkaa.Ct
open Go Go.Eng Tr
set_option linter.unusedVariables false
set_option maxRecDepth 100000

theorem mapT115 : MapT PP 115 113 4 TKey.v Value.bool false := ⟨Try.underlying115, keyT113, by kernel_rfl⟩
theorem mapT149 : MapT PP 149 9 4 Value.string Value.bool false := ⟨Try.underlying149, keyT_string Try.underlying9, by kernel_rfl⟩
def nil? : ByteArray := ⟨#[]⟩
def badT (has : Int → ByteArray → Bool) (ts : List TTarget) (i : Nat) : Bool :=
  match ts[i]? with
  | none => false
  | some t => if t.Service = ⟨#[]⟩ then !has 2 t.Split else !has 1 t.Service
def badR (has : Int → ByteArray → Bool) (rs : List TRule) (i : Nat) : Bool :=
  match rs[i]? with
  | none => false
  | some r => !has 2 r.Split
def line? (i : Int) : Int := if i < 0 then -1 else i + 1
def dang (has : Int → ByteArray → Bool) (d : DRes) : Int :=
  if d.kind = 2 then line? (fst? (badT has d.targets) d.targets.length)
  else if d.kind = 3 then line? (fst? (badR has d.rules) d.rules.length)
  else if d.kind = 4 then (if has 3 d.route then -1 else 0)
  else -1
theorem badT_eq {has : Int → ByteArray → Bool} {ts : List TTarget} {k : Nat} (hlt : k < ts.length) : badT has ts k = if ts[k].Service = ⟨#[]⟩ then !has 2 ts[k].Split else !has 1 ts[k].Service := by
  simp only [badT, List.getElem?_eq_getElem hlt]
theorem badR_eq {has : Int → ByteArray → Bool} {ts : List TRule} {k : Nat} (hlt : k < ts.length) : badR has ts k = !has 2 ts[k].Split := by
  simp only [badR, List.getElem?_eq_getElem hlt]
theorem line_some {p : Nat → Bool} {n k : Nat} (hk : k < n) (hp : p k = true) (hj : ∀ j, j < k → p j = false) : line? (fst? p n) = ((k + 1 : Nat) : Int) := by
  rw [fst?_some hk hp hj]; unfold line?; rw [if_neg (by omega)]; omega
theorem line_none {p : Nat → Bool} {n : Nat} (hj : ∀ j, j < n → p j = false) : line? (fst? p n) = -1 := by
  rw [fst?_none hj]; rfl
section
variable {w : World} {F G : Nat → Prop} {s : Sl} {rs : List TResource} {l : List DRes}
theorem dangling_ok {r : TResource} {d : DRes} (h : ResD F w r d) {b : Nat} {m : List (TKey × Bool)} (hm : Mp TKey.v Value.bool w b m) {has : Int → ByteArray → Bool} (hh : ∀ k n, (mget m ⟨k, n⟩).getD false = has k n) :
    Ans (Value.int .i64) 94 #[r.v, .map (some b)] w (dang has d) := by
  refine c94 ?_
  unfold f94
  refine New.mk fun b2 w1 e1 h2 _ _ => ?_
  refine Jn.dup ?_
  refine rn_blk one3 h2 rfl rfl ?_
  rw [h.kind]
  have get : ∀ {w' : World} {K : Bool → World → Prop} (k : Int) (n : ByteArray), Ext w w' → K (has k n) w' → Rn PP Value.bool (Instr.lookup 115 (.map (some b)) (TKey.v ⟨k, n⟩) false) w' K := fun k n e hK =>
    rn_get mapT115 (hm.ext e) (by rw [hh]; exact hK)
  by_cases c2 : d.kind = 2
  · rw [if_pos c2]
    refine rn_blk one45 h2 rfl rfl ?_
    have ht := h.targets
    have hd : dang has d = line? (fst? (badT has d.targets) d.targets.length) := by unfold dang; rw [if_pos c2]
    refine Lp.mk (fun i w' => ∃ k : Nat, i = k ∧ k ≤ d.targets.length ∧ Ext w w' ∧ ∀ j, j < k → badT has d.targets j = false) (fun i => d.targets.length - i.toNat) ⟨0, rfl, Nat.zero_le _, e1, fun j hj => absurd hj (Nat.not_lt_zero _)⟩ ?_
    rintro i w1 K ⟨k, rfl, hk, hE, hall⟩ hK
    by_cases hlt : k < d.targets.length
    · rw [if_pos (by rw [ht.len]; omega)]
      refine rnp_idx sl45 (ht.ext hE) hlt rfl fun p _ hp => ?_
      refine rn_ldN (x := d.targets[k]) many84 hp rfl rfl ?_
      refine New.var (TTarget.cells d.targets[k]) sz84 rfl (oc_target _) rfl fun b6 w2 e2 hb hn => ?_
      replace hE := hE.trans e2
      refine Jn.dup ?_
      have yes : ∀ w', badT has d.targets k = true → Ext w w' → Ext w w' ∧ (IntKind.i64.wrap ((k : Int) + 1) = dang has d) := fun w' ho hE => ⟨hE, by rw [hd, ht.wr hlt, line_some hlt ho hall]⟩
      have no : ∀ w', badT has d.targets k = false → Ext w w' → K (IntKind.i64.wrap ((k : Int) + 1)) w' := fun w' ho hE => by
        rw [ht.wr hlt]; exact hK _ _ ⟨k + 1, rfl, hlt, hE, all_succ hall ho⟩ (by omega)
      have fin : ∀ (x : Bool) w', badT has d.targets k = x → Ext w w' → if x = true then (Ext w w' ∧ (IntKind.i64.wrap ((k : Int) + 1) = dang has d)) else K (IntKind.i64.wrap ((k : Int) + 1)) w' := fun x w' ho hE => by
        cases x with
        | true => exact iteT rfl (yes _ ho hE)
        | false => exact iteF (by simp) (no _ ho hE)
      refine rn_blk one9 hb rfl rfl ?_
      by_cases c : d.targets[k].Service = ⟨#[]⟩
      · rw [if_neg (fun h => h c)]
        refine rn_blk one9 hb rfl rfl ?_
        rw [if_pos c]
        refine rn_blk one9 hb rfl rfl ?_
        refine get _ _ hE ?_
        exact fin _ _ (by rw [badT_eq hlt, if_pos c]) hE
      · rw [if_pos c]
        refine rn_blk one9 hb rfl rfl ?_
        refine get _ _ hE ?_
        cases hx : has 1 d.targets[k].Service with
        | false => exact iteT rfl (fin _ _ (by rw [badT_eq hlt, if_neg c, hx]; rfl) hE)
        | true =>
          refine iteF (by simp) ?_
          refine rn_blk one9 hb rfl rfl ?_
          rw [if_neg c]
          exact fin _ _ (by rw [badT_eq hlt, if_neg c, hx]; rfl) hE
    · rw [if_neg (by rw [ht.len]; omega)]
      exact ⟨hE, by rw [hd, line_none fun j hj => hall j (by omega)]⟩
  · rw [if_neg c2]
    by_cases c3 : d.kind = 3
    · rw [if_pos c3]
      refine rn_blk one46 h2 rfl rfl ?_
      have ht := h.rules
      have hd : dang has d = line? (fst? (badR has d.rules) d.rules.length) := by unfold dang; rw [if_neg c2, if_pos c3]
      refine Lp.mk (fun i w' => ∃ k : Nat, i = k ∧ k ≤ d.rules.length ∧ Ext w w' ∧ ∀ j, j < k → badR has d.rules j = false) (fun i => d.rules.length - i.toNat) ⟨0, rfl, Nat.zero_le _, e1, fun j hj => absurd hj (Nat.not_lt_zero _)⟩ ?_
      rintro i w1 K ⟨k, rfl, hk, hE, hall⟩ hK
      by_cases hlt : k < d.rules.length
      · rw [if_pos (by rw [ht.len]; omega)]
        refine rnp_idx sl46 (ht.ext hE) hlt rfl fun p _ hp => ?_
        refine rn_ldN (x := d.rules[k]) many91 hp rfl rfl ?_
        refine New.var (TRule.cells d.rules[k]) sz91 rfl (oc_rule _) rfl fun b6 w2 e2 hb hn => ?_
        replace hE := hE.trans e2
        refine rn_blk one9 hb rfl rfl ?_
        refine get _ _ hE ?_
        have hb := badR_eq (has := has) hlt
        cases hx : has 2 d.rules[k].Split with
        | false => exact iteT rfl ⟨hE, by rw [hd, ht.wr hlt, line_some hlt (by rw [hb, hx]; rfl) hall]⟩
        | true =>
          refine iteF (by simp) ?_
          rw [ht.wr hlt]
          exact hK _ _ ⟨k + 1, rfl, hlt, hE, all_succ hall (by rw [hb, hx]; rfl)⟩ (by omega)
      · rw [if_neg (by rw [ht.len]; omega)]
        exact ⟨hE, by rw [hd, line_none fun j hj => hall j (by omega)]⟩
    · rw [if_neg c3]
      by_cases c4 : d.kind = 4
      · rw [if_pos c4]
        have hd : dang has d = if has 3 d.route then -1 else 0 := by unfold dang; rw [if_neg c2, if_neg c3, if_pos c4]
        refine rn_blk one9 h2 rfl rfl ?_
        rw [h.route]
        refine get _ _ e1 ?_
        cases hx : has 3 d.route with
        | false => exact iteT rfl ⟨e1, by rw [hd, hx]; rfl⟩
        | true => exact iteF (by simp) ⟨e1, by rw [hd, hx]; rfl⟩
      · rw [if_neg c4]
        exact ⟨e1, by unfold dang; rw [if_neg c2, if_neg c3, if_neg c4]⟩
def has (l : List DRes) (kind : Int) (name : ByteArray) : Bool := decide (0 ≤ fst? (isAt l kind name) l.length)
end
end Go.Proofs.Ytdoeegfcmbcbkaa.Ct


namespace Go.Proofs.Ytdoeegfcmbcbkaa.Ct
open Go Go.Eng Tr
set_option linter.unusedVariables false
set_option maxRecDepth 100000

def okW (y : Nat) : Bool := fGe y 0 && fLe y 4636737291354636288
def fsum (ts : List TTarget) : Option Nat := ts.foldl (fun o t => oadd o t.Weight) (some 0)
theorem fsum_succ {ts : List TTarget} {k : Nat} (h : k < ts.length) : fsum (ts.take (k + 1)) = oadd (fsum (ts.take k)) ts[k].Weight := by
  unfold fsum; rw [List.take_add_one, List.getElem?_eq_getElem h, List.foldl_append]; rfl
theorem any_succ {α : Type} {p : α → Bool} {ts : List α} {k : Nat} (h : k < ts.length) : (ts.take (k + 1)).any p = ((ts.take k).any p || p ts[k]) := by
  rw [List.take_add_one, List.getElem?_eq_getElem h, List.any_append]; simp
def badW (t : TTarget) : Bool := !okW t.Weight
def heavyS (ts : List TTarget) : Bool := ts.any badW || !(oGe (fsum ts) 4636737291287527424 && oLe (fsum ts) 4636737291421745152)
section
variable {w : World} {F G : Nat → Prop} {s : Sl} {rs : List TResource} {l : List DRes}
theorem heavy_ok {r : TResource} {d : DRes} (h : ResD F w r d) : Ans Value.bool 95 #[r.v] w (heavyS d.targets) := by
  refine c95 ?_
  unfold f95
  refine New.mk fun b1 w1 e1 h1 _ _ => ?_
  refine rn_blk one45 h1 rfl rfl ?_
  have ht := h.targets
  refine Lp.mk (fun (x : Nat × Int) w' => ∃ k : Nat, x.2 = k ∧ k ≤ d.targets.length ∧ Ext w w' ∧ Fl (fsum (d.targets.take k)) x.1 ∧ (d.targets.take k).any badW = false) (fun x => d.targets.length - x.2.toNat) ⟨0, rfl, Nat.zero_le _, e1, rfl, rfl⟩ ?_
  rintro ⟨x, i⟩ w2 K ⟨k, rfl, hk, hE, hf, hall⟩ hK
  dsimp only at hf ⊢
  by_cases hlt : k < d.targets.length
  · rw [if_pos (by rw [ht.len]; omega)]
    refine rnp_idx sl45 (ht.ext hE) hlt rfl fun p _ hp => ?_
    refine rn_ldN (x := d.targets[k]) many84 hp rfl rfl ?_
    refine New.var (TTarget.cells d.targets[k]) sz84 rfl (oc_target _) rfl fun b6 w3 e2 hb hn => ?_
    replace hE := hE.trans e2
    refine ⟨fun x w' => x = badW d.targets[k] ∧ Ext w w' ∧ Blk w' b6 84 (TTarget.cells d.targets[k]), ?_, ?_⟩
    · refine rn_blk one30 hb rfl rfl ?_
      cases c : fGe d.targets[k].Weight 0 with
      | true =>
        refine iteT rfl ?_
        refine rn_blk one30 hb rfl rfl ?_
        exact ⟨by simp [badW, okW, c], hE, hb⟩
      | false => exact iteF (by simp) ⟨by simp [badW, okW, c], hE, hb⟩
    rintro _ w4 ⟨rfl, hE, hb⟩
    cases c : badW d.targets[k] with
    | true =>
      refine iteT rfl ⟨hE, ?_⟩
      have : d.targets.any badW = true := List.any_eq_true.2 ⟨_, List.getElem_mem hlt, c⟩
      simp [heavyS, this]
    | false =>
      refine iteF (by simp) ?_
      refine rn_blk one30 hb rfl rfl ?_
      refine rn_add hf fun v w5 hv e5 _ => ?_
      rw [ht.wr hlt]
      exact hK _ _ ⟨k + 1, rfl, hlt, hE.trans e5, by rw [fsum_succ hlt]; exact hv, by rw [any_succ hlt, hall, c]; rfl⟩ (by dsimp only; omega)
  · rw [if_neg (by rw [ht.len]; omega)]
    obtain rfl : k = d.targets.length := by omega
    rw [List.take_length] at hf hall
    refine Jn.dup ?_
    rw [hf.ge, hf.le]
    cases c : oGe (fsum d.targets) 4636737291287527424 with
    | true => exact iteT rfl ⟨hE, by simp [heavyS, hall, c]⟩
    | false => exact iteF (by simp) ⟨hE, by simp [heavyS, hall, c]⟩
end
end Go.Proofs.Ytdoeegfcmbcbkaa.Ct


namespace Go.Proofs.Ytdoeegfcmbcbkaa.Ct
open Go Go.Eng Tr
set_option linter.unusedVariables false

def maxl : List Nat → Nat
  | [] => 0
  | x :: xs => max x (maxl xs)
theorem maxl_app (xs : List Nat) (x : Nat) : maxl (xs ++ [x]) = max (maxl xs) x := by
  induction xs with
  | nil => simp [maxl]
  | cons y xs ih => simp only [List.cons_append, maxl, ih]; omega
theorem le_maxl {xs : List Nat} {x : Nat} (h : x ∈ xs) : x ≤ maxl xs := by
  induction xs with
  | nil => cases h
  | cons y xs ih =>
    simp only [maxl]
    rcases List.mem_cons.1 h with rfl | h
    · omega
    · have := ih h; omega
theorem maxl_le {xs : List Nat} {b : Nat} (h : ∀ x ∈ xs, x ≤ b) : maxl xs ≤ b := by
  induction xs with
  | nil => exact Nat.zero_le _
  | cons y xs ih =>
    simp only [maxl]
    have := h y (by simp); have := ih (fun x hx => h x (by simp [hx])); omega
theorem min_maxl {α : Type} (f : α → Nat) (b : Nat) : ∀ xs : List α, min (maxl (xs.map f)) b = maxl (xs.map fun x => min (f x) b)
  | [] => by simp [maxl]
  | x :: xs => by
    have := min_maxl f b xs
    simp only [List.map_cons, maxl]; omega
def kidsOf (d : DRes) : List ByteArray := (d.targets.filter fun t => decide (t.Service = ⟨#[]⟩)).map (·.Split)
def splitOf (l : List DRes) (n : ByteArray) : Option DRes := l.find? fun d => decide (d.kind = 2) && decide (d.name = n)
def kids (l : List DRes) (n : ByteArray) : List ByteArray := match splitOf l n with
  | none => []
  | some d => kidsOf d
def hd (l : List DRes) : Nat → ByteArray → Nat
  | 0, _ => 1
  | k + 1, n => 1 + maxl ((kids l n).map (hd l k))
theorem hd_bounds (l : List DRes) : ∀ k n, 1 ≤ hd l k n ∧ hd l k n ≤ k + 1
  | 0, n => ⟨Nat.le_refl _, Nat.le_refl _⟩
  | k + 1, n => by
    have : maxl ((kids l n).map (hd l k)) ≤ k + 1 := maxl_le fun x hx => by
      obtain ⟨y, _, rfl⟩ := List.mem_map.1 hx; exact (hd_bounds l k y).2
    simp only [hd]; omega
theorem hd_step (l : List DRes) : ∀ k n, min (hd l (k + 1) n) (k + 1) = hd l k n
  | 0, n => by have := (hd_bounds l 1 n).1; simp only [hd] at this ⊢; omega
  | k + 1, n => by
    have h1 : hd l (k + 1 + 1) n = 1 + maxl ((kids l n).map (hd l (k + 1))) := rfl
    have h2 : hd l (k + 1) n = 1 + maxl ((kids l n).map (hd l k)) := rfl
    have h3 := min_maxl (hd l (k + 1)) (k + 1) (kids l n)
    have h4 : (fun x => min (hd l (k + 1) x) (k + 1)) = hd l k := funext (hd_step l k)
    rw [h4] at h3
    rw [h1, h2, ← h3]; omega
inductive Rch (l : List DRes) : ByteArray → ByteArray → Prop
  | one {a b} : b ∈ kids l a → Rch l a b
  | step {a b c} : b ∈ kids l a → Rch l b c → Rch l a c
theorem Rch.snoc {l : List DRes} {a b c : ByteArray} (h : Rch l a b) (k : c ∈ kids l b) : Rch l a c := by
  induction h with
  | one h => exact .step h (.one k)
  | step h _ ih => exact .step h (ih k)
theorem hd_cyc {l : List DRes} {t : ByteArray} (h0 : Rch l t t) : ∀ k y, (Rch l t y ∨ y = t) → Rch l y t → hd l k y = k + 1
  | 0, _, _, _ => rfl
  | k + 1, y, hy, h => by
    have up : ∀ b, b ∈ kids l y → hd l k b = k + 1 → hd l (k + 1) y = k + 2 := fun b hb he => by
      have h1 : hd l k b ≤ maxl ((kids l y).map (hd l k)) := le_maxl (List.mem_map.2 ⟨b, hb, rfl⟩)
      have h2 := (hd_bounds l (k + 1) y).2
      have h3 : hd l (k + 1) y = 1 + maxl ((kids l y).map (hd l k)) := rfl
      omega
    cases h with
    | one hb => exact up _ hb (hd_cyc h0 k t (.inr rfl) h0)
    | step hb hr =>
      refine up _ hb (hd_cyc h0 k _ (.inl ?_) hr)
      rcases hy with hy | rfl
      · exact hy.snoc hb
      · exact .one hb
theorem hd_min (l : List DRes) (n : ByteArray) : min (maxl ((kids l n).map (hd l 8)) + 1) 9 = hd l 8 n := by
  have := hd_step l 8 n
  have h : hd l (8 + 1) n = 1 + maxl ((kids l n).map (hd l 8)) := rfl
  omega
theorem cnt_le {α : Type} {p q : α → Bool} : ∀ l : List α, (∀ x ∈ l, q x = true → p x = true) → l.countP q ≤ l.countP p
  | [], _ => Nat.le_refl _
  | x :: l, h => by
    have := cnt_le l fun y hy => h y (by simp [hy])
    have h0 := h x (by simp)
    simp only [List.countP_cons]
    cases hq : q x <;> cases hp : p x <;> simp_all <;> omega
theorem cnt_lt {α : Type} {p q : α → Bool} : ∀ l : List α, (∀ x ∈ l, q x = true → p x = true) → (∃ x ∈ l, p x = true ∧ q x = false) → l.countP q < l.countP p
  | [], _, ⟨x, h, _⟩ => by cases h
  | x :: l, h, ⟨y, hy, h1, h2⟩ => by
    have hle := cnt_le l fun y hy => h y (by simp [hy])
    have h0 := h x (by simp)
    simp only [List.countP_cons]
    rcases List.mem_cons.1 hy with rfl | hy
    · simp [h1, h2]; omega
    · have := cnt_lt l (fun y hy => h y (by simp [hy])) ⟨y, hy, h1, h2⟩
      cases hq : q x <;> cases hp : p x <;> simp_all <;> omega
end Go.Proofs.Ytdoeegfcmbcbkaa.Ct


namespace Go.Proofs.Ytdoeegfcmbcbkaa.Ct
open Go Go.Eng Tr
set_option linter.unusedVariables false
set_option maxRecDepth 100000

theorem field_targets (r : TResource) (w : World) : (Instr.field 48 (TResource.v r) 3).run PP w = .ok (Sl.v r.Targets) w := by
  simp only [Instr.field, Sem.run_bind, run_underlying Try.underlying48, Result.andThen_ok]
  exact part_one (cs := Array.mk r.cells) (o := 3) one45 rfl
theorem mapT146 : MapT PP 146 9 3 Value.string (Value.int .i64) 0 := ⟨Try.underlying146, keyT_string Try.underlying9, by kernel_rfl⟩
theorem mapT145 : MapT PP 145 9 48 Value.string TResource.v ⟨0, ⟨#[]⟩, Sl.nil, Sl.nil, ⟨#[]⟩, Sl.nil, ⟨#[]⟩, false⟩ := ⟨Try.underlying145, keyT_string Try.underlying9, by kernel_rfl⟩
def kt (ts : List TTarget) : List ByteArray := (ts.filter fun t => decide (t.Service = ⟨#[]⟩)).map (·.Split)
theorem kt_yes {ts : List TTarget} {k : Nat} (h : k < ts.length) (hs : ts[k].Service = ⟨#[]⟩) : kt (ts.take (k + 1)) = kt (ts.take k) ++ [ts[k].Split] := by
  unfold kt; rw [List.take_add_one, List.getElem?_eq_getElem h, List.filter_append, List.map_append]; simp [hs]
theorem kt_no {ts : List TTarget} {k : Nat} (h : k < ts.length) (hs : ts[k].Service ≠ ⟨#[]⟩) : kt (ts.take (k + 1)) = kt (ts.take k) := by
  unfold kt; rw [List.take_add_one, List.getElem?_eq_getElem h, List.filter_append, List.map_append]; simp [hs]
theorem mem_kt {ts : List TTarget} {k : Nat} (h : k < ts.length) (hs : ts[k].Service = ⟨#[]⟩) : ts[k].Split ∈ kt ts := by
  unfold kt; exact List.mem_map.2 ⟨ts[k], List.mem_filter.2 ⟨List.getElem_mem h, by simp [hs]⟩, rfl⟩
def Inv (l : List DRes) (m : List (ByteArray × Int)) (stack : ByteArray → Prop) : Prop := ∀ n v, mget m n = some v → (v = -1 ∧ stack n) ∨ v = (hd l 8 n : Nat)
def unk (m : List (ByteArray × Int)) (d : DRes) : Bool := decide (d.kind = 2) && (mget m d.name).isNone
section
variable {F : Nat → Prop} {s : Sl} {rs : List TResource} {l : List DRes} {b30 b31 b33 : Nat} {ms : List (ByteArray × TResource)}
structure DepW (F : Nat → Prop) (s : Sl) (rs : List TResource) (l : List DRes) (b30 b31 b33 : Nat) (ms : List (ByteArray × TResource)) (w : World) : Prop where
  conf : ConfD F w s rs l
  off : ∀ b, F b → b ≠ b31
  blk : Blk w b33 148 [.map (some b30), .map (some b31)]
  maps : Mp Value.string TResource.v w b30 ms
  n33 : b33 ≠ b31
  n30 : b30 ≠ b31
theorem DepW.chg {w w' : World} (h : DepW F s rs l b30 b31 b33 ms w) (k : Chg (fun b => b = b31) w w') : DepW F s rs l b30 b31 b33 ms w' :=
  ⟨h.conf.chg k (fun b hb _ => h.off b hb), h.off, h.blk.chg k h.n33, h.maps.chg k h.n30, h.n33, h.n30⟩
theorem of_dep (hms : ∀ n d, splitOf l n = some d → ∃ i, ∃ h : i < rs.length, l[i]? = some d ∧ mget ms n = some rs[i])
    (hnd : ∀ n d t, splitOf l n = some d → t ∈ kidsOf d → (splitOf l t).isSome = true) : ∀ (N : Nat) (w : World) (m : List (ByteArray × Int)) (stack : ByteArray → Prop) (x : ByteArray),
    l.countP (unk m) ≤ N → DepW F s rs l b30 b31 b33 ms w → Mp Value.string (Value.int .i64) w b31 m → Inv l m stack → (∀ n, stack n → Rch l n x) → (splitOf l x).isSome = true →
    Cal PP (Value.int .i64) 96 #[.pointer (some ⟨b33, 0, none⟩), .string x] w fun v w' => v = (hd l 8 x : Nat) ∧ Chg (fun b => b = b31) w w' ∧
      ∃ m', Mp Value.string (Value.int .i64) w' b31 m' ∧ Inv l m' stack ∧ ∀ n, n ∈ mkeys m → n ∈ mkeys m' := by
  intro N
  induction N using Nat.strongRecOn with
  | ind N ih =>
  intro w m stack x hN hW hm hI hst hx
  refine c96 ?_
  unfold f96
  refine ⟨_, rfl, ?_⟩
  refine rn_blk one146 hW.blk rfl rfl ?_
  refine rn_get2 (k := x) (fun _ => rfl) mapT146 hm ?_
  cases hg : mget m x with
  | some v =>
    refine iteT rfl ?_
    rcases hI x v hg with ⟨rfl, hs⟩ | rfl
    · refine iteT (by simp) ⟨?_, Chg.refl _ _, m, hm, hI, fun _ h => h⟩
      have := hd_cyc (hst x hs) 8 x (.inr rfl) (hst x hs)
      rw [this]; rfl
    · refine iteF (by simp) ⟨rfl, Chg.refl _ _, m, hm, hI, fun _ h => h⟩
  | none =>
    refine iteF (by simp) ?_
    obtain ⟨d, hd0⟩ := Option.isSome_iff_exists.1 hx
    refine ⟨_, rfl, ?_⟩
    refine rn_blk one146 hW.blk rfl rfl ?_
    refine rnu_put (k := x) (v := (-1 : Int)) mapT146 hm fun w1 c1 hm1 _ => ?_
    have hW1 := hW.chg c1
    refine ⟨_, rfl, ?_⟩
    refine rn_blk one145 hW1.blk rfl rfl ?_
    refine rn_get (k := x) mapT145 hW1.maps ?_
    obtain ⟨i, hi, hli, hgi⟩ := hms x d hd0
    rw [hgi]
    have hi' : i < l.length := (List.getElem?_eq_some_iff.1 hli).1
    have hld : l[i] = d := (List.getElem?_eq_some_iff.1 hli).2
    have hres : ∀ w', DepW F s rs l b30 b31 b33 ms w' → ResD F w' rs[i] d := fun w' h => by
      have := h.conf.el i hi hi'; rw [hld] at this; exact this
    refine RnP.of (x := rs[i].Targets) (fun w => ?_) ?_
    · exact field_targets rs[i] w
    have hkids : kids l x = kt d.targets := by unfold kids; rw [hd0]; rfl
    -- while the targets are looked at
    have hI1 : Inv l (mput m x (-1)) (fun n => stack n ∨ n = x) := fun n v hv => by
      rw [mget_put] at hv
      by_cases e : x = n
      · rw [if_pos e] at hv; cases hv; exact .inl ⟨rfl, .inr e.symm⟩
      · rw [if_neg e] at hv
        rcases hI n v hv with ⟨h1, h2⟩ | h
        · exact .inl ⟨h1, .inl h2⟩
        · exact .inr h
    refine Lp.mk (fun (y : Int × Int) w' => ∃ (k : Nat) (m' : List (ByteArray × Int)), y.2 = k ∧ k ≤ d.targets.length ∧ y.1 = (maxl ((kt (d.targets.take k)).map (hd l 8)) : Nat) ∧ Chg (fun b => b = b31) w w' ∧
        Mp Value.string (Value.int .i64) w' b31 m' ∧ Inv l m' (fun n => stack n ∨ n = x) ∧ ∀ n, n ∈ mkeys (mput m x (-1)) → n ∈ mkeys m') (fun y => d.targets.length - y.2.toNat)
      ⟨0, mput m x (-1), rfl, Nat.zero_le _, rfl, c1, hm1, hI1, fun _ h => h⟩ ?_
    rintro ⟨n, _⟩ w2 K ⟨k, m2, rfl, hk, rfl, hC, hm2, hI2, hg2⟩ hK
    dsimp only
    have hW2 := hW.chg hC
    have ht := (hres _ hW2).targets
    by_cases hlt : k < d.targets.length
    · rw [if_pos (by rw [ht.len]; omega)]
      refine ⟨fun y w' => y = (maxl ((kt (d.targets.take (k + 1))).map (hd l 8)) : Nat) ∧ Chg (fun b => b = b31) w w' ∧ ∃ m', Mp Value.string (Value.int .i64) w' b31 m' ∧ Inv l m' (fun n => stack n ∨ n = x) ∧ ∀ n, n ∈ mkeys (mput m x (-1)) → n ∈ mkeys m', ?_, ?_⟩
      · refine rnp_idx sl45 ht hlt rfl fun p _ hp => ?_
        refine rn_ldN (x := d.targets[k]) many84 hp rfl rfl ?_
        refine New.var (TTarget.cells d.targets[k]) sz84 rfl (oc_target _) rfl fun b9 w3 e3 hb _ => ?_
        have hC3 := hC.thenE e3
        refine rn_blk one9 hb rfl rfl ?_
        by_cases c : d.targets[k].Service = ⟨#[]⟩
        · refine iteT c ?_
          refine rn_blk one9 hb rfl rfl ?_
          have hkid : d.targets[k].Split ∈ kids l x := by rw [hkids]; exact mem_kt hlt c
          have hcnt : l.countP (unk m2) < l.countP (unk m) := by
            have hmono : ∀ n, n ∈ mkeys m → n ∈ mkeys m2 := fun n hn => hg2 n (mem_mkeys_put.2 (.inr hn))
            have hxin : x ∈ mkeys m2 := hg2 x (mem_mkeys_put.2 (.inl rfl))
            have hdm : d ∈ l := List.mem_of_getElem? hli
            have hdp := List.find?_some hd0
            simp only [Bool.and_eq_true, decide_eq_true_eq] at hdp
            refine cnt_lt l (fun y _ hy => ?_) ⟨d, hdm, ?_, ?_⟩
            · simp only [unk, Bool.and_eq_true, decide_eq_true_eq, Option.isNone_iff_eq_none] at hy ⊢
              exact ⟨hy.1, mget_none.2 fun h => mget_none.1 hy.2 (hmono _ h)⟩
            · simp only [unk, hdp.1, hdp.2, decide_true, Bool.true_and, hg, Option.isNone_none]
            · have : (mget m2 x).isNone = false := by
                cases he : mget m2 x with
                | none => exact absurd hxin (mget_none.1 he)
                | some _ => rfl
              simp only [unk, hdp.2, this, Bool.and_false]
          refine (ih (l.countP (unk m2)) (by omega) w3 m2 (fun n => stack n ∨ n = x) d.targets[k].Split (Nat.le_refl _) (hW.chg hC3) (hm2.ext e3) hI2 (fun n hn => ?_) ?_).mono ?_
          · rcases hn with hn | rfl
            · exact (hst n hn).snoc hkid
            · exact .one hkid
          · exact hnd x d _ hd0 (by rw [← show kids l x = kidsOf d by unfold kids; rw [hd0]]; exact hkid)
          · rintro v w4 ⟨rfl, c4, m4, hm4, hI4, hg4⟩
            refine ⟨?_, hC3.trans c4, m4, hm4, hI4, fun n hn => hg4 n (hg2 n hn)⟩
            rw [kt_yes hlt c, List.map_append, List.map_cons, List.map_nil, maxl_app]
            omega
        · refine iteF c ⟨?_, hC3, m2, hm2.ext e3, hI2, hg2⟩
          rw [kt_no hlt c]
      · rintro _ w3 ⟨rfl, hC3, m3, hm3, hI3, hg3⟩
        rw [ht.wr hlt]
        exact hK _ _ ⟨k + 1, m3, rfl, hlt, rfl, hC3, hm3, hI3, hg3⟩ (by dsimp only; omega)
    · rw [if_neg (by rw [ht.len]; omega)]
      obtain rfl : k = d.targets.length := by omega
      rw [List.take_length]
      have hmin := hd_min l x
      rw [hkids] at hmin
      have hb9 : maxl ((kt d.targets).map (hd l 8)) ≤ 9 := maxl_le fun y hy => by
        obtain ⟨z, _, rfl⟩ := List.mem_map.1 hy; exact (hd_bounds l 8 z).2
      have hval : min (IntKind.i64.wrap (((maxl ((kt d.targets).map (hd l 8)) : Nat) : Int) + 1)) 9 = ((hd l 8 x : Nat) : Int) := by
        rw [wrap_in ⟨by omega, by omega⟩, ← hmin]; omega
      refine ⟨_, rfl, ?_⟩
      refine rn_blk one146 hW2.blk rfl rfl ?_
      rw [hval]
      refine rnu_put (k := x) (v := ((hd l 8 x : Nat) : Int)) mapT146 hm2 fun w3 c3 hm3 _ => ?_
      refine ⟨rfl, hC.trans c3, _, hm3, fun n v hv => ?_, fun n hn => mem_mkeys_put.2 (.inr (hg2 n (mem_mkeys_put.2 (.inr hn))))⟩
      rw [mget_put] at hv
      by_cases e : x = n
      · rw [if_pos e] at hv; cases hv; rw [← e]; exact .inr rfl
      · rw [if_neg e] at hv
        rcases hI2 n v hv with ⟨h1, h2 | h2⟩ | h
        · exact .inl ⟨h1, h2⟩
        · exact absurd h2.symm e
        · exact .inr h
end
end Go.Proofs.Ytdoeegfcmbcbkaa.Ct


namespace Go.Proofs.Ytdoeegfcmbcbkaa.Ct
open Go Go.Eng Tr
set_option linter.unusedVariables false
set_option maxRecDepth 100000

def ints (x : Int) : List Value := [.int .i64 x]
def dv (l : List DRes) (r i : Nat) : Nat :=
  match l[i]? with
  | none => 0
  | some d => if d.kind = 2 then (if hd l r d.name ≤ r then hd l r d.name else 0) else 0
def pv (l : List DRes) (r : Nat) (ts : List TTarget) : Nat := if maxl ((kt ts).map (hd l r)) ≤ r then 1 + maxl ((kt ts).map (hd l r)) else 0
def row (l : List DRes) (r : Nat) : List Int := (List.range l.length).map fun i => (dv l r i : Int)
section
variable {w : World} {F G : Nat → Prop} {s : Sl} {rs : List TResource} {l : List DRes}
def mix (l : List DRes) (r j : Nat) : List Value := (List.range l.length).map fun i => Value.int .i64 ((if i < j then dv l (r + 1) i else 0 : Nat) : Int)
theorem fst?_le {p : Nat → Bool} {n : Nat} : fst? p n = -1 ∨ ∃ k, fst? p n = (k : Nat) ∧ k < n ∧ p k = true := by
  unfold fst?
  cases h : (List.range n).find? p with
  | none => exact .inl rfl
  | some k =>
    right
    have h1 := List.mem_of_find?_eq_some h
    have h2 := List.find?_some h
    exact ⟨k, rfl, by simpa using h1, h2⟩
theorem has_at {kind : Int} {n : ByteArray} (h : has l kind n = true) : ∃ k : Nat, fst? (isAt l kind n) l.length = k ∧ ∃ hk : k < l.length, l[k].kind = kind ∧ l[k].name = n := by
  unfold has at h
  simp only [decide_eq_true_eq] at h
  rcases fst?_le (p := isAt l kind n) (n := l.length) with h' | ⟨k, h1, h2, h3⟩
  · omega
  · rw [isAt_eq h2] at h3
    simp only [Bool.and_eq_true, decide_eq_true_eq] at h3
    exact ⟨k, h1, h2, h3⟩
end
end Go.Proofs.Ytdoeegfcmbcbkaa.Ct


namespace Go.Proofs.Ytdoeegfcmbcbkaa.Ct
open Go Go.Eng Tr
set_option linter.unusedVariables false
set_option maxRecDepth 100000

def Rets {α : Type} (enc : α → Value) (f : FuncId) (args : Array Value) (w : World) : Prop := Cal PP enc f args w fun x w' => Ext w w'
section
variable {w : World} {x y : ByteArray}
theorem hasPrefix_ok (x y : ByteArray) : Rets Value.bool 116 #[.string x, .string y] w := by
  refine c116 ?_
  unfold f116
  refine Cal.mono (K := fun _ w' => Ext w w') ?_ (fun _ _ h => h)
  refine c138 ?_
  unfold f138
  refine Jn.dup ?_
  by_cases c : (y.size : Int) ≤ (x.size : Int)
  · rw [if_pos c]
    exact rnp_str_to Try.underlying9 rfl (by omega) (Ext.refl _)
  · rw [if_neg c]; exact Ext.refl _
end
end Go.Proofs.Ytdoeegfcmbcbkaa.Ct


namespace Go.Proofs.Ytdoeegfcmbcbkaa.Ct
open Go Go.Eng Tr
set_option linter.unusedVariables false
set_option maxRecDepth 100000

section
variable {w : World} {F : Nat → Prop}
theorem suffix_ok (x y : ByteArray) (hx : x.size ≤ maxLen) : Cal PP Value.bool 139 #[.string x, .string y] w fun r w' => Ext w w' ∧ (r = true → y.size ≤ x.size) := by
  refine c139 ?_
  unfold f139
  refine Jn.dup ?_
  by_cases c : (y.size : Int) ≤ (x.size : Int)
  · rw [if_pos c]
    refine rnp_str_from (k := x.size - y.size) Try.underlying9 ?_ (by omega) ⟨Ext.refl _, fun _ => by omega⟩
    rw [wrap_sub hx (by omega)]
  · rw [if_neg c]; exact ⟨Ext.refl _, fun h => by simp at h⟩
theorem cut_ok (x y : ByteArray) (hx : x.size ≤ maxLen) : Cal PP (fun x : ByteArray × Bool => Value.tuple #[.string x.1, .bool x.2]) 156 #[.string x, .string y] w fun r w' => Ext w w' ∧ r.1.size ≤ x.size := by
  refine c156 ?_
  unfold f156
  refine Cal.mono (K := fun r w' => Ext w w' ∧ r.1.size ≤ x.size) ?_ (fun r w' h => h)
  refine c165 ?_
  unfold f165
  refine (suffix_ok x y hx).mono ?_; rintro r w1 ⟨e1, h1⟩
  cases r with
  | false => exact iteT rfl ⟨e1, Nat.le_refl _⟩
  | true =>
    refine iteF (by simp) ?_
    have : y.size ≤ x.size := h1 rfl
    refine rnp_str_to (k := x.size - y.size) Try.underlying9 (wrap_sub hx this) (by omega) ⟨e1, ?_⟩
    simp only [ByteArray.size_extract]; omega
theorem begins_ok (x : ByteArray) (hx : x.size ≤ maxLen) : Cal PP (fun x : ByteArray × Bool => Value.tuple #[.string x.1, .bool x.2]) 140 #[.string x] w fun r w' => Ext w w' ∧ r.1.size ≤ x.size := by
  refine c140 ?_
  unfold f140
  exact (cut_ok x _ hx).mono fun r w' h => h
theorem path_ok (x : ByteArray) (hx : x.size ≤ maxLen) : Rets Value.bool 157 #[.string x] w := by
  refine c157 ?_
  unfold f157
  refine ⟨fun b w' => Ext w w', ?_, ?_⟩
  · by_cases c1 : (x.size : Int) < 1
    · exact iteT c1 (Ext.refl _)
    · refine iteF c1 ?_
      by_cases c2 : 256 < (x.size : Int)
      · exact iteT c2 (Ext.refl _)
      · refine iteF c2 ?_
        exact rnp_byte (k := 0) Try.underlying9 rfl (by omega) (Ext.refl _)
  rintro b w1 e1
  cases b with
  | true => exact iteT rfl e1
  | false =>
    refine iteF (by simp) ?_
    refine Lp.mk (fun (i : Int) w' => ∃ k : Nat, i = k ∧ k ≤ x.size ∧ Ext w w') (fun i => x.size - i.toNat) ⟨0, rfl, Nat.zero_le _, e1⟩ ?_
    rintro i w1 K ⟨k, rfl, hk, hE⟩ hK
    by_cases hlt : k < x.size
    · rw [if_pos (by omega)]
      have no : K (IntKind.i64.wrap ((k : Int) + 1)) w1 := by
        rw [wrap_succ (by omega)]; exact hK _ _ ⟨k + 1, rfl, hlt, hE⟩ (by omega)
      have fin : ∀ b : Bool, if b = true then Ext w w1 else K (IntKind.i64.wrap ((k : Int) + 1)) w1 := fun b => by
        cases b
        · exact iteF (by simp) no
        · exact iteT rfl hE
      refine Jn.dup ?_
      refine rnp_byte Try.underlying9 rfl hlt ?_
      by_cases c : ((x[k].toNat : Nat) : Int) < 33
      · rw [if_pos c]; exact fin true
      · rw [if_neg c]
        exact rnp_byte Try.underlying9 rfl hlt (fin _)
    · rw [if_neg (by omega)]; exact hE
theorem pattern_ok (x : ByteArray) (hx : x.size ≤ maxLen) : Rets Value.bool 141 #[.string x] w := by
  refine c141 ?_
  unfold f141
  refine (begins_ok x hx).mono ?_; rintro ⟨p, b⟩ w1 ⟨e1, h1⟩
  refine Jn.dup ?_
  have fin : Cal PP Value.bool 157 #[.string p] w1 fun _ w' => Ext w w' := (path_ok p (Nat.le_trans h1 hx)).mono fun _ _ h => e1.trans h
  cases b with
  | true =>
    refine iteT rfl ?_
    by_cases c : p = ⟨#[]⟩
    · exact iteT c e1
    · exact iteF c fin
  | false => exact iteF (by simp) fin
theorem covers_ok (x y : ByteArray) (hx : x.size ≤ maxLen) (hy : y.size ≤ maxLen) : Rets Value.bool 123 #[.string x, .string y] w := by
  refine c123 ?_
  unfold f123
  refine (begins_ok x hx).mono ?_; rintro ⟨p, b⟩ w1 ⟨e1, h1⟩
  refine (begins_ok y hy).mono ?_; rintro ⟨q, b'⟩ w2 ⟨e2, h2⟩
  refine Jn.dup ?_
  refine (pattern_ok x hx).mono ?_; rintro r w3 e3
  have e := (e1.trans e2).trans e3
  cases r with
  | false => exact iteF (by simp) e
  | true =>
    refine iteT rfl ?_
    refine (pattern_ok y hy).mono ?_; rintro r w4 e4
    replace e := e.trans e4
    cases r with
    | false => exact iteF (by simp) e
    | true =>
      refine iteT rfl ?_
      by_cases c : x = y
      · rw [if_pos c]; exact e
      · rw [if_neg c]
        cases b with
        | true => exact iteT rfl ((hasPrefix_ok q p).mono fun _ _ h => e.trans h)
        | false => exact iteF (by simp) e
theorem shadow1_ok {y r : TRule} {b : Nat} (hb : Blk w b 91 (TRule.cells r)) (hy : y.Path.size ≤ maxLen) (hr : r.Path.size ≤ maxLen) : Rets Value.bool 122 #[y.v, Ptr ⟨b, 0, none⟩] w := by
  refine c122 ?_
  unfold f122
  refine New.mk fun b2 w1 e1 h1 _ _ => ?_
  replace hb := hb.ext e1
  refine Jn.dup ?_
  refine rn_blk one9 h1 rfl rfl ?_
  have fin : Cal PP Value.bool 123 #[.string y.Path, .string r.Path] w1 fun _ w' => Ext w w' := (covers_ok _ _ hy hr).mono fun _ _ h => e1.trans h
  by_cases c : y.Method = ⟨#[42]⟩
  · refine iteT c ?_
    refine rn_blk one9 h1 rfl rfl ?_
    refine rn_blk one9 hb rfl rfl ?_
    exact fin
  · refine iteF c ?_
    refine rn_blk one9 h1 rfl rfl ?_
    refine rn_blk one9 hb rfl rfl ?_
    by_cases c2 : y.Method = r.Method
    · refine iteT c2 ?_
      refine rn_blk one9 h1 rfl rfl ?_
      refine rn_blk one9 hb rfl rfl ?_
      exact fin
    · exact iteF c2 e1
theorem index121_ok {s : Sl} {l : List TRule} (h : Rd TRule.cells 4 F w s l) {r : TRule} {b : Nat} (hb : Blk w b 91 (TRule.cells r)) (hl : ∀ y ∈ l, y.Path.size ≤ maxLen) (hr : r.Path.size ≤ maxLen) :
    Rets (Value.int .i64) 121 #[s.v, .func (.func 122) #[] #[Ptr ⟨b, 0, none⟩]] w := by
  refine c121 ?_
  unfold f121
  refine Lp.mk (fun (i : Int) w' => ∃ k : Nat, i = k ∧ k ≤ l.length ∧ Ext w w') (fun i => l.length - i.toNat) ⟨0, rfl, Nat.zero_le _, Ext.refl _⟩ ?_
  rintro i w1 K ⟨k, rfl, hk, hE⟩ hK
  by_cases hlt : k < l.length
  · rw [if_pos (by rw [h.len]; omega)]
    refine rnp_idx sl46 (h.ext hE) hlt rfl fun p _ hp => ?_
    refine rn_ldN (x := l[k]) many91 hp rfl rfl ?_
    refine ⟨122, #[], #[Ptr ⟨b, 0, none⟩], rfl, fun vs w => enters Try.func122 rfl rfl vs w, ?_⟩
    refine Cal.mono (shadow1_ok (y := l[k]) (hb.ext hE) (hl _ (List.getElem_mem hlt)) hr) ?_
    rintro x w2 e2
    cases x with
    | true => exact iteT rfl (hE.trans e2)
    | false =>
      refine iteF (by simp) ?_
      rw [h.wr hlt]; exact hK _ _ ⟨k + 1, rfl, hlt, hE.trans e2⟩ (by omega)
  · rw [if_neg (by rw [h.len]; omega)]; exact hE
def tot (l : List DRes) : Nat := (l.map fun d => d.rules.length).sum
theorem tot_take {l : List DRes} {k : Nat} (h : k < l.length) : tot (l.take (k + 1)) = tot (l.take k) + l[k].rules.length := by
  unfold tot; rw [List.take_add_one, List.getElem?_eq_getElem h, List.map_append, List.sum_append]; simp
theorem tot_le (l : List DRes) : ∀ k, tot (l.take k) ≤ tot l := fun k => by
  have : tot l = tot (l.take k) + tot (l.drop k) := by
    unfold tot; rw [← List.sum_append, ← List.map_append, List.take_append_drop]
  omega
theorem oc_warn (x : TWarning) : ∀ u ∈ TWarning.cells x, u.oneCell' = true := by simp [TWarning.cells, Value.oneCell']
theorem shadows_ok {s : Sl} {rs : List TResource} {l : List DRes} (h : ConfD F w s rs l) (hp : ∀ d ∈ l, ∀ r ∈ d.rules, r.Path.size ≤ maxLen) (ht : (tot l + 1) * 24 ≤ 140737488355328) : Rets Sl.v 97 #[s.v] w := by
  refine c97 ?_
  unfold f97
  refine Lp.mk (fun (y : Sl × Int) w' => ∃ (k : Nat) (ws : List TWarning), y.2 = k ∧ k ≤ l.length ∧ Ext w w' ∧ Own TWarning.cells 3 177 w.heap.size w' y.1 ws ∧ ws.length ≤ tot (l.take k)) (fun y => l.length - y.2.toNat)
    ⟨0, [], rfl, Nat.zero_le _, Ext.refl _, Own.nil_ _ _, Nat.zero_le _⟩ ?_
  rintro ⟨y, _⟩ w1 K ⟨k, ws, rfl, hk, hE, hO, hn⟩ hK
  dsimp only at hO ⊢
  by_cases hlt : k < l.length
  · rw [if_pos (by rw [h.n]; omega)]
    have htot := tot_take hlt
    have htl := tot_le l (k + 1)
    refine ⟨fun y w' => ∃ ws, Ext w w' ∧ Own TWarning.cells 3 177 w.heap.size w' y ws ∧ ws.length ≤ tot (l.take (k + 1)), ?_, ?_⟩
    · have hlr : k < rs.length := by rw [h.len]; exact hlt
      have hr0 := h.el k hlr hlt
      refine rnp_idx sl22 (h.ext hE).rd hlr rfl fun p _ hp' => ?_
      generalize rs[k] = r at hr0 hp'
      refine rn_ldN (x := r) many48 hp' rfl rfl ?_
      have hlow : ∀ b, own? y b → b < w1.heap.size := fun b hb => (hO.ge hb).2
      refine New.var (TResource.cells r) sz48 rfl (oc_res r) rfl fun b4 w2 e2 h4 hb4 => ?_
      replace hE := hE.trans e2; replace hO := hO.ext e2
      refine ⟨fun b w' => w' = w2, ?_, ?_⟩
      · refine rn_blk one3 h4 rfl rfl ?_
        by_cases c : r.Kind ≠ 3
        · exact iteT c (rn_blk one3 h4 rfl rfl rfl)
        · exact iteF c rfl
      rintro b _ rfl
      cases b with
      | true => exact iteT rfl ⟨ws, hE, hO, by omega⟩
      | false =>
        refine iteF (by simp) ?_
        refine rn_blk one46 h4 rfl rfl ?_
        have hru := hr0.rules
        have hpr := hp _ (List.getElem_mem hlt)
        refine Lp.mk (fun (z : Sl × Int) w' => ∃ (j : Nat) (ws : List TWarning), z.2 = j ∧ j ≤ l[k].rules.length ∧ Ext w w' ∧ Blk w' b4 48 (TResource.cells r) ∧ Own TWarning.cells 3 177 w.heap.size w' z.1 ws ∧
            (∀ b, own? z.1 b → b ≠ b4) ∧ ws.length ≤ tot (l.take k) + j) (fun z => l[k].rules.length - z.2.toNat)
          ⟨0, ws, rfl, Nat.zero_le _, hE, h4, hO, fun b hb => by have := hlow b hb; omega, by omega⟩ ?_
        rintro ⟨z, _⟩ w3 K2 ⟨j, ws, rfl, hj, hE, h4, hO, hne, hn⟩ hK2
        dsimp only at hO hne ⊢
        have hru3 := hru.ext hE
        by_cases hjl : j < l[k].rules.length
        · rw [if_pos (by rw [hru.len]; omega)]
          refine ⟨fun z w' => ∃ ws, Ext w w' ∧ Blk w' b4 48 (TResource.cells r) ∧ Own TWarning.cells 3 177 w.heap.size w' z ws ∧ (∀ b, own? z b → b ≠ b4) ∧ ws.length ≤ tot (l.take k) + (j + 1), ?_, ?_⟩
          · refine rnp_idx sl46 hru3 hjl rfl fun p _ hp' => ?_
            refine rn_ldN (x := l[k].rules[j]) many91 hp' rfl rfl ?_
            refine New.var (TRule.cells l[k].rules[j]) sz91 rfl (oc_rule _) rfl fun b6 w4 e4 h6 _ => ?_
            replace hE := hE.trans e4; replace h4 := h4.ext e4; replace hO := hO.ext e4
            refine rn_blk one46 h4 rfl rfl ?_
            refine rnp_slice sl46 none (some j) rfl rfl (Nat.zero_le _) (by have := hru.cap; have := hru.len; simp; omega) ?_
            simp only [Option.getD_none, Option.getD_some, Sl.cut_zero]
            refine Cal.mono (index121_ok ((hru.ext hE).take (by omega)) h6 (fun y hy => hpr y (List.mem_of_mem_take hy)) (hpr _ (List.getElem_mem hjl))) ?_
            rintro x w5 e5
            replace hE := hE.trans e5; replace h4 := h4.ext e5; replace hO := hO.ext e5
            by_cases cx : 0 ≤ x
            · refine iteT cx ?_
              have hl4 := h4.lt
              refine New.mk fun b44 w6 e6 h44 hb44 s6 => ?_
              replace hE := hE.trans e6; replace h4 := h4.ext e6; replace hO := hO.ext e6
              have hsz := hE.size
              refine rn_app1 (x := (⟨k, j, x⟩ : TWarning)) el78 hO h44 rfl rfl (oc_warn _) (by omega) (by decide) hsz fun z' w7 hO' c7 n7 => ?_
              have hl4 := h4.lt
              exact ⟨_, hE.then c7 (fun b hb => (hO.ge hb).1), h4.chg c7 (fun hb => hne _ hb rfl), hO', fun b hb => by
                rcases n7 b hb with h | h
                · exact hne b h
                · omega, by simp; omega⟩
            · exact iteF cx ⟨ws, hE, h4, hO, hne, by omega⟩
          · rintro z w4 ⟨ws, hE, h4, hO, hne, hn⟩
            rw [hru.wr hjl]
            exact hK2 _ _ ⟨j + 1, ws, rfl, hjl, hE, h4, hO, hne, hn⟩ (by dsimp only; omega)
        · rw [if_neg (by rw [hru.len]; omega)]
          exact ⟨ws, hE, hO, by omega⟩
    · rintro y w2 ⟨ws, hE, hO, hn⟩
      rw [h.wr hlt]
      exact hK _ _ ⟨k + 1, ws, rfl, hlt, hE, hO, hn⟩ (by dsimp only; omega)
  · rw [if_neg (by rw [h.n]; omega)]; exact hE
end
end Go.Proofs.Ytdoeegfcmbcbkaa.Ct


namespace Go.Proofs.Ytdoeegfcmbcbkaa.Ct
open Go Go.Eng Tr
set_option linter.unusedVariables false

theorem kLt_irrefl (k : Int) (n : ByteArray) : kLt k n k n = false := by simp [kLt, sLt_irrefl]
theorem kLt_trans {a b c : Int} {x y z : ByteArray} (h : kLt a x b y = true) (k : kLt b y c z = true) : kLt a x c z = true := by
  simp only [kLt, Bool.or_eq_true, decide_eq_true_eq, Bool.and_eq_true] at h k ⊢
  rcases h with h | ⟨rfl, h⟩
  · rcases k with k | ⟨rfl, k⟩
    · exact .inl (by omega)
    · exact .inl h
  · rcases k with k | ⟨rfl, k⟩
    · exact .inl k
    · exact .inr ⟨rfl, sLt_trans h k⟩
section
variable {l : List DRes}
theorem out_next (h : ∀ i, i < l.length → outAt l i = false) {j : Nat} (hj : j + 1 < l.length) : kLt l[j].kind l[j].name l[j + 1].kind l[j + 1].name = true := by
  have := h (j + 1) hj
  rw [outAt_eq hj] at this
  simp only [Bool.or_eq_false_iff, Nat.add_sub_cancel, List.getElem?_eq_getElem (show j < l.length by omega)] at this
  obtain ⟨_, _, _, h4⟩ := this
  simpa using h4
theorem out_lt (h : ∀ i, i < l.length → outAt l i = false) {i : Nat} : ∀ {j : Nat} (hj : j < l.length) (hij : i < j), kLt (l[i]'(by omega)).kind (l[i]'(by omega)).name l[j].kind l[j].name = true
  | j + 1, hj, hij => by
    by_cases e : i = j
    · subst e; exact out_next h hj
    · exact kLt_trans (out_lt h (j := j) (by omega) (by omega)) (out_next h hj)
theorem out_uniq (h : ∀ i, i < l.length → outAt l i = false) {i j : Nat} (hi : i < l.length) (hj : j < l.length) (hk : l[i].kind = l[j].kind) (hn : l[i].name = l[j].name) : i = j := by
  rcases Nat.lt_trichotomy i j with c | c | c
  · have := out_lt h hj c; rw [hk, hn, kLt_irrefl] at this; cases this
  · exact c
  · have := out_lt h hi c; rw [hk, hn, kLt_irrefl] at this; cases this
theorem fst?_neg {p : Nat → Bool} {n : Nat} (h : fst? p n < 0) : ∀ i, i < n → p i = false := fun i hi => by
  rcases fst?_le (p := p) (n := n) with h' | ⟨k, h1, _⟩
  · unfold fst? at h'
    cases hf : (List.range n).find? p with
    | none =>
      have := List.find?_eq_none.1 hf i (by simpa using hi)
      simpa using this
    | some k => rw [hf] at h'; simp only at h'; omega
  · omega
theorem splitOf_self (h : ∀ i, i < l.length → outAt l i = false) : ∀ d ∈ l, d.kind = 2 → splitOf l d.name = some d := fun d hd hk => by
  obtain ⟨i, hi, rfl⟩ := List.mem_iff_getElem.1 hd
  cases hf : splitOf l l[i].name with
  | none =>
    have := List.find?_eq_none.1 hf l[i] (List.getElem_mem hi)
    simp [hk] at this
  | some d' =>
    have h1 := List.find?_some hf
    have h2 := List.mem_of_find?_eq_some hf
    obtain ⟨j, hj, rfl⟩ := List.mem_iff_getElem.1 h2
    simp only [Bool.and_eq_true, decide_eq_true_eq] at h1
    have := out_uniq h hj hi (by rw [h1.1, hk]) h1.2
    subst this; rfl
theorem has_any (kind : Int) (n : ByteArray) : has l kind n = l.any fun d => decide (d.kind = kind) && decide (d.name = n) := by
  cases ha : l.any fun d => decide (d.kind = kind) && decide (d.name = n) with
  | true =>
    obtain ⟨d, hd, h⟩ := List.any_eq_true.1 ha
    obtain ⟨i, hi, rfl⟩ := List.mem_iff_getElem.1 hd
    unfold has
    rw [decide_eq_true_eq]
    by_cases c : 0 ≤ fst? (isAt l kind n) l.length
    · exact c
    · have := fst?_neg (by omega : fst? (isAt l kind n) l.length < 0) i hi
      rw [isAt_eq hi, h] at this; cases this
  | false =>
    unfold has
    rw [decide_eq_false_iff_not]
    rcases fst?_le (p := isAt l kind n) (n := l.length) with h' | ⟨k, h1, h2, h3⟩
    · omega
    · rw [isAt_eq h2] at h3
      have := List.any_eq_false.1 ha l[k] (List.getElem_mem h2)
      exact absurd h3 this
theorem has_split {n : ByteArray} (h : has l 2 n = true) : (splitOf l n).isSome = true := by
  obtain ⟨k, _, hk, h1, h2⟩ := has_at h
  unfold splitOf
  rw [List.find?_isSome]
  exact ⟨l[k], List.getElem_mem hk, by simp [h1, h2]⟩
def dangAt (l : List DRes) (i : Nat) : Bool := match l[i]? with
  | none => false
  | some d => decide (0 ≤ dang (has l) d)
def lineAt (l : List DRes) (i : Int) : Int := match l[i.toNat]? with
  | none => 0
  | some d => dang (has l) d
def twinAt (l : List DRes) (i : Nat) : Bool := match l[i]? with
  | none => false
  | some d => decide (d.kind = 3) && (l.take i).any fun c => decide (c.kind = 3) && decide (c.host = d.host)
def heavyAt (l : List DRes) (i : Nat) : Bool := match l[i]? with
  | none => false
  | some d => decide (d.kind = 2) && heavyS d.targets
def deepAt (l : List DRes) (i : Nat) : Bool := match l[i]? with
  | none => false
  | some d => decide (d.kind = 2) && decide (8 < hd l 8 d.name)
def faultS (l : List DRes) : Int × Int × Int :=
  let n := l.length
  if 0 ≤ fst? (outAt l) n then (fst? (outAt l) n, 0, 2)
  else if 64 < n then (0, 0, 124)
  else if 0 ≤ fst? (dangAt l) n then (fst? (dangAt l) n, lineAt l (fst? (dangAt l) n), 140)
  else if 0 ≤ fst? (twinAt l) n then (fst? (twinAt l) n, 0, 141)
  else if 0 ≤ fst? (heavyAt l) n then (fst? (heavyAt l) n, 0, 142)
  else if 0 ≤ fst? (deepAt l) n then (fst? (deepAt l) n, 0, 143)
  else (0, 0, 0)
theorem dangAt_eq {i : Nat} (h : i < l.length) : dangAt l i = decide (0 ≤ dang (has l) l[i]) := by simp only [dangAt, List.getElem?_eq_getElem h]
theorem lineAt_eq {i : Nat} (h : i < l.length) : lineAt l i = dang (has l) l[i] := by simp only [lineAt, Int.toNat_natCast, List.getElem?_eq_getElem h]
theorem twinAt_eq {i : Nat} (h : i < l.length) : twinAt l i = (decide (l[i].kind = 3) && (l.take i).any fun c => decide (c.kind = 3) && decide (c.host = l[i].host)) := by simp only [twinAt, List.getElem?_eq_getElem h]
theorem heavyAt_eq {i : Nat} (h : i < l.length) : heavyAt l i = (decide (l[i].kind = 2) && heavyS l[i].targets) := by simp only [heavyAt, List.getElem?_eq_getElem h]
theorem deepAt_eq {i : Nat} (h : i < l.length) : deepAt l i = (decide (l[i].kind = 2) && decide (8 < hd l 8 l[i].name)) := by simp only [deepAt, List.getElem?_eq_getElem h]
theorem no_dang (h : ∀ i, i < l.length → dangAt l i = false) : ∀ n d t, splitOf l n = some d → t ∈ kidsOf d → has l 2 t = true := fun n d t hs ht => by
  have h1 := List.find?_some hs
  have h2 := List.mem_of_find?_eq_some hs
  simp only [Bool.and_eq_true, decide_eq_true_eq] at h1
  obtain ⟨i, hi, rfl⟩ := List.mem_iff_getElem.1 h2
  have h3 := h i hi
  rw [dangAt_eq hi, decide_eq_false_iff_not] at h3
  unfold dang at h3
  rw [if_pos h1.1] at h3
  have h4 : fst? (badT (has l) l[i].targets) l[i].targets.length < 0 := by
    by_cases c : fst? (badT (has l) l[i].targets) l[i].targets.length < 0
    · exact c
    · unfold line? at h3; rw [if_neg c] at h3; omega
  have h5 := fst?_neg h4
  unfold kidsOf at ht
  obtain ⟨tt, htt, rfl⟩ := List.mem_map.1 ht
  obtain ⟨h6, h7⟩ := List.mem_filter.1 htt
  obtain ⟨k, hk, rfl⟩ := List.mem_iff_getElem.1 h6
  have h8 := h5 k hk
  rw [badT_eq hk, if_pos (by simpa using h7)] at h8
  simpa using h8
end
end Go.Proofs.Ytdoeegfcmbcbkaa.Ct


namespace Go.Proofs.Ytdoeegfcmbcbkaa.Ct
open Go Go.Eng Tr
set_option linter.unusedVariables false
set_option maxRecDepth 100000

theorem Rd.low {α : Type} {cells : α → List Value} {sz : Nat} {F : Nat → Prop} {w : World} {s : Sl} {l : List α} (h : Rd cells sz F w s l) (h0 : ∀ x, 0 < (cells x).length) : Rd cells sz (fun b => F b ∧ b < w.heap.size) w s l :=
  ⟨h.len, h.cap, h.lim, fun k hk => let ⟨a, h1, h2, h3⟩ := h.el k hk; ⟨a, h1, ⟨h2, by
    have h4 := h3 0 (h0 _)
    have := World.block_lt_of_cell? w _ h4
    rwa [add_block, add_block] at this⟩, h3⟩⟩
theorem ConfD.low {F : Nat → Prop} {w : World} {s : Sl} {rs : List TResource} {l : List DRes} (h : ConfD F w s rs l) : ConfD (fun b => F b ∧ b < w.heap.size) w s rs l :=
  ⟨Rd.low h.rd (fun _ => by simp [TResource.cells]), h.len, fun i a b => let r := h.el i a b; ⟨r.kind, r.name, Rd.low r.ends (fun _ => by simp [bs]), Rd.low r.targets (fun _ => by simp [TTarget.cells]), r.host, Rd.low r.rules (fun _ => by simp [TRule.cells]), r.route, r.del⟩⟩
theorem oc_fault (x : TFault) : ∀ u ∈ TFault.cells x, u.oneCell' = true := by simp [TFault.cells, Value.oneCell']
theorem fault_out {w w' : World} {b : Nat} {g f : TFault} {K : TFault → World → Prop} (h3 : Blk w' b 80 (TFault.cells g)) (hE : Ext w w') (hb : w.heap.size ≤ b) (hk : ∀ w'', Ext w w'' → K f w'') :
    RnU PP (Instr.storeAt 80 (Ptr ⟨b, 0, none⟩) (TFault.v f)) w' fun w => RnR PP TFault.v (loadVar 80 ⟨b, 0, none⟩) w fun r => K r w :=
  rnu_st (b := b) (o := 0) rfl h3 (TFault.cells f) sz80 rfl (oc_fault f) (by simp [TFault.cells]) fun w2 c2 _ hb2 =>
    rnr_ldN (x := f) many80 (show Blk w2 b 80 (TFault.cells f) from hb2).whole rfl rfl (hk w2 (hE.then c2 fun x hx => by omega))
def faultM (l : List DRes) : TFault := ⟨(faultS l).1, (faultS l).2.1, (faultS l).2.2⟩
section
variable {l : List DRes} {k : Nat}
theorem fs_out (h : 0 ≤ fst? (outAt l) l.length) : faultM l = ⟨fst? (outAt l) l.length, 0, 2⟩ := by simp [faultM, faultS, h]
theorem fs_big (h : ¬ 0 ≤ fst? (outAt l) l.length) (h2 : 64 < l.length) : faultM l = ⟨0, 0, 124⟩ := by simp [faultM, faultS, h, h2]
theorem fs_dang (h : ¬ 0 ≤ fst? (outAt l) l.length) (h2 : ¬ 64 < l.length) (hk : k < l.length) (hp : dangAt l k = true) (ha : ∀ j, j < k → dangAt l j = false) : faultM l = ⟨k, dang (has l) l[k], 140⟩ := by
  have h3 := fst?_some hk hp ha
  simp [faultM, faultS, h, h2, h3, lineAt_eq hk]
theorem fs_twin (h : ¬ 0 ≤ fst? (outAt l) l.length) (h2 : ¬ 64 < l.length) (h3 : ∀ j, j < l.length → dangAt l j = false) (hk : k < l.length) (hp : twinAt l k = true) (ha : ∀ j, j < k → twinAt l j = false) : faultM l = ⟨k, 0, 141⟩ := by
  have e3 := fst?_none h3
  have h4 := fst?_some hk hp ha
  simp [faultM, faultS, h, h2, e3, h4]
theorem fs_heavy (h : ¬ 0 ≤ fst? (outAt l) l.length) (h2 : ¬ 64 < l.length) (h3 : ∀ j, j < l.length → dangAt l j = false) (h4 : ∀ j, j < l.length → twinAt l j = false) (hk : k < l.length) (hp : heavyAt l k = true) (ha : ∀ j, j < k → heavyAt l j = false) : faultM l = ⟨k, 0, 142⟩ := by
  have e3 := fst?_none h3
  have e4 := fst?_none h4
  have h5 := fst?_some hk hp ha
  simp [faultM, faultS, h, h2, e3, e4, h5]
theorem fs_deep (h : ¬ 0 ≤ fst? (outAt l) l.length) (h2 : ¬ 64 < l.length) (h3 : ∀ j, j < l.length → dangAt l j = false) (h4 : ∀ j, j < l.length → twinAt l j = false) (h5 : ∀ j, j < l.length → heavyAt l j = false) (hk : k < l.length) (hp : deepAt l k = true) (ha : ∀ j, j < k → deepAt l j = false) : faultM l = ⟨k, 0, 143⟩ := by
  have e3 := fst?_none h3
  have e4 := fst?_none h4
  have e5 := fst?_none h5
  have h6 := fst?_some hk hp ha
  simp [faultM, faultS, h, h2, e3, e4, e5, h6]
theorem fs_none (h : ¬ 0 ≤ fst? (outAt l) l.length) (h2 : ¬ 64 < l.length) (h3 : ∀ j, j < l.length → dangAt l j = false) (h4 : ∀ j, j < l.length → twinAt l j = false) (h5 : ∀ j, j < l.length → heavyAt l j = false) (h6 : ∀ j, j < l.length → deepAt l j = false) : faultM l = ⟨0, 0, 0⟩ := by
  have e3 := fst?_none h3
  have e4 := fst?_none h4
  have e5 := fst?_none h5
  have e6 := fst?_none h6
  simp [faultM, faultS, h, h2, e3, e4, e5, e6]
end
end Go.Proofs.Ytdoeegfcmbcbkaa.Ct


namespace Go.Proofs.Ytdoeegfcmbcbkaa.Ct
open Go Go.Eng Tr
set_option linter.unusedVariables false
set_option maxRecDepth 100000

structure Fit (l : List DRes) : Prop where
  paths : ∀ d ∈ l, ∀ r ∈ d.rules, r.Path.size ≤ maxLen
  tot : (tot l + 1) * 24 ≤ 140737488355328
section
variable {w : World} {F : Nat → Prop} {s : Sl} {rs : List TResource} {l : List DRes}
structure Filled (l : List DRes) (rs : List TResource) (b3 b29 b30 b31 b33 : Nat) (k : Nat) (w : World) : Prop where
  b3 : Blk w b3 80 (TFault.cells ⟨0, 0, 0⟩)
  b33 : Blk w b33 148 [.map (some b30), .map (some b31)]
  known : Mp Value.string (Value.int .i64) w b31 []
  there : ∃ m, Mp TKey.v Value.bool w b29 m ∧ ∀ kd n, (mget m ⟨kd, n⟩).getD false = (l.take k).any fun d => decide (d.kind = kd) && decide (d.name = n)
  splits : ∃ ms, Mp Value.string TResource.v w b30 ms ∧ ∀ j (h : j < l.length) (h' : j < rs.length), j < k → l[j].kind = 2 → mget ms l[j].name = some rs[j]
theorem check_ok (h : ConfD F w s rs l) (hf : Fit l) :
    Cal PP (fun x : Sl × TFault => Value.tuple #[Sl.v x.1, TFault.v x.2]) 46 #[s.v] w fun x w' => Ext w w' ∧ x.2 = faultM l := by
  have hlow := h.low
  refine c46 ?_
  unfold f46
  refine New.mk fun b3 w1 e1 h3 n3 s3 => ?_
  refine (outs_ok (h.ext e1)).mono ?_; rintro _ w2 ⟨e2, rfl⟩
  replace h3 := h3.ext e2
  replace e1 := e1.trans e2
  have hsz := e1.size
  have g2 := e2.size
  by_cases c1 : 0 ≤ fst? (outAt l) l.length
  · exact iteT c1 (fault_out h3 e1 (by omega) fun w'' e => ⟨e, (fs_out c1).symm⟩)
  refine iteF c1 ?_
  by_cases c2 : 64 < l.length
  · exact iteT (by rw [h.n]; omega) (fault_out h3 e1 (by omega) fun w'' e => ⟨e, (fs_big c1 c2).symm⟩)
  refine iteF (by rw [h.n]; omega) ?_
  have hord := fst?_neg (by omega : fst? (outAt l) l.length < 0)
  refine NewM.mk fun b29 w3 e3 h29 n29 s29 => ?_
  refine NewM.mk fun b30 w4 e4 h30 n30 s30 => ?_
  refine NewM.mk fun b31 w5 e5 h31 n31 s31 => ?_
  refine New.mk fun b33 w6 e6 h33 n33 s33 => ?_
  have m29 : Mp TKey.v Value.bool w6 b29 [] := ((Mp.new h29).ext ((e4.trans e5).trans e6))
  have m30 : Mp Value.string TResource.v w6 b30 [] := ((Mp.new h30).ext (e5.trans e6))
  have m31 : Mp Value.string (Value.int .i64) w6 b31 [] := ((Mp.new h31).ext e6)
  have E6 := ((e3.trans e4).trans e5).trans e6
  have h3' := h3.ext E6
  have hl3 := h3.lt
  have E := e1.trans E6
  refine Lp.mk (fun (i : Int) w' => ∃ k : Nat, i = k ∧ k ≤ l.length ∧ Ext w w' ∧ w6.heap.size ≤ w'.heap.size ∧ Filled l rs b3 b29 b30 b31 b33 k w') (fun i => l.length - i.toNat)
    ⟨0, rfl, Nat.zero_le _, E, Nat.le_refl _, h3', h33, m31, ⟨[], m29, fun _ _ => rfl⟩, ⟨[], m30, fun j _ _ hj => absurd hj (Nat.not_lt_zero _)⟩⟩ ?_
  rintro i w7 K ⟨k, rfl, hk, hE, hge, hF⟩ hK
  by_cases hlt : k < l.length
  · rw [if_pos (by rw [h.n]; omega)]
    refine ⟨fun _ w' => Ext w w' ∧ w6.heap.size ≤ w'.heap.size ∧ Filled l rs b3 b29 b30 b31 b33 (k + 1) w', ?_, ?_⟩
    · have hlr : k < rs.length := by rw [h.len]; exact hlt
      have hr := h.el k hlr hlt
      refine rnp_idx sl22 (h.ext hE).rd hlr rfl fun p _ hp => ?_
      refine rn_ldN (x := rs[k]) many48 hp rfl rfl ?_
      refine New.var (TResource.cells rs[k]) sz48 rfl (oc_res _) rfl fun b8 w8 e8 h8 nb8 => ?_
      refine rn_blkN (x := rs[k]) many48 h8 rfl rfl ?_
      refine (of_ok _).mono ?_; rintro _ w9 ⟨e9, rfl⟩
      have e89 := e8.trans e9
      replace h8 := h8.ext e9
      replace hE := hE.trans e89
      obtain ⟨m, hm, hmm⟩ := hF.there
      obtain ⟨ms, hms, hmss⟩ := hF.splits
      have f3 := hF.b3.ext e89; have f33 := hF.b33.ext e89; have fk := hF.known.ext e89
      replace hm := hm.ext e89; replace hms := hms.ext e89
      have gsz := e8.size
      refine rnu_put (k := (⟨rs[k].Kind, rs[k].Name⟩ : TKey)) (v := true) mapT115 hm fun w10 c10 hm10 s10 => ?_
      have E10 := hE.then c10 (fun b hb => by omega)
      replace f3 := f3.chg c10 (by omega); replace f33 := f33.chg c10 (by omega); replace fk := fk.chg c10 (by omega)
      replace hms := hms.chg c10 (by omega); replace h8 := h8.chg c10 (by omega)
      have gsz9 := e9.size
      have there : ∀ kd n, (mget (mput m ⟨rs[k].Kind, rs[k].Name⟩ true) ⟨kd, n⟩).getD false = (l.take (k + 1)).any fun d => decide (d.kind = kd) && decide (d.name = n) := fun kd n => by
        rw [any_succ hlt, mget_put, ← hmm kd n, hr.kind, hr.name]
        by_cases c : (⟨l[k].kind, l[k].name⟩ : TKey) = ⟨kd, n⟩
        · rw [if_pos c]; cases c; simp
        · rw [if_neg c]
          have : (decide (l[k].kind = kd) && decide (l[k].name = n)) = false := by
            by_cases c3 : l[k].kind = kd
            · by_cases c4 : l[k].name = n
              · exact absurd (by rw [c3, c4]) c
              · simp [c4]
            · simp [c3]
          rw [this, Bool.or_false]
      refine rn_blk one3 h8 rfl rfl ?_
      rw [hr.kind]
      by_cases c : l[k].kind = 2
      · refine iteT c ?_
        refine Dr.mk fun w11 e11 hh11 => ?_
        have E11 := E10.trans e11
        replace f3 := f3.ext e11; replace f33 := f33.ext e11; replace fk := fk.ext e11; replace hms := hms.ext e11; replace h8 := h8.ext e11; replace hm10 := hm10.ext e11
        refine rnl_blk one145 f33 rfl rfl ?_
        refine rnl_blk one9 h8 rfl rfl ?_
        refine rnl_ldN (x := rs[k]) many48 h8.whole rfl rfl ?_
        refine rnu_put (k := rs[k].Name) (v := rs[k]) mapT145 hms fun w12 c12 hms12 s12 => ?_
        have g11 := e11.size
        refine ⟨E11.then c12 (fun b hb => by omega), by omega, f3.chg c12 (by omega), f33.chg c12 (by omega), fk.chg c12 (by omega), ⟨_, hm10.chg c12 (by omega), there⟩, ⟨_, hms12, fun j hj hj' hjk hk2 => ?_⟩⟩
        rw [mget_put, hr.name]
        by_cases ce : l[k].name = l[j].name
        · rw [if_pos ce]
          have : k = j := out_uniq hord hlt hj (by rw [c, hk2]) ce
          subst this; rfl
        · rw [if_neg ce]
          exact hmss j hj hj' (by
            by_cases e : j = k
            · subst e; exact absurd rfl ce
            · omega) hk2
      · refine iteF c ⟨E10, by omega, f3, f33, fk, ⟨_, hm10, there⟩, ⟨_, hms, fun j hj hj' hjk hk2 => hmss j hj hj' (by
            by_cases e : j = k
            · subst e; exact absurd hk2 c
            · omega) hk2⟩⟩
    · rintro _ w8 ⟨hE, hge, hF⟩
      rw [h.wr hlt]
      exact hK _ _ ⟨k + 1, rfl, hlt, hE, hge, hF⟩ (by omega)
  rw [if_neg (by rw [h.n]; omega)]
  obtain rfl : k = l.length := by omega
  clear hK
  obtain ⟨m, hm, hmm⟩ := hF.there
  obtain ⟨ms, hms, hmss⟩ := hF.splits
  have hh : ∀ kd n, (mget m ⟨kd, n⟩).getD false = has l kd n := fun kd n => by rw [hmm, has_any, List.take_length]
  have f3 := hF.b3; have f33 := hF.b33; have fk := hF.known
  refine NewM.mk fun b54 w8 e8 h54 n54 s54 => ?_
  replace f3 := f3.ext e8; replace f33 := f33.ext e8; replace fk := fk.ext e8; replace hm := hm.ext e8; replace hms := hms.ext e8
  have m54 : Mp Value.string Value.bool w8 b54 [] := Mp.new h54
  replace hE := hE.trans e8
  clear hF
  -- what leads nowhere
  refine Lp.mk (fun (i : Int) w' => ∃ k : Nat, i = k ∧ k ≤ l.length ∧ Ext w8 w' ∧ ∀ j, j < k → dangAt l j = false) (fun i => l.length - i.toNat) ⟨0, rfl, Nat.zero_le _, Ext.refl _, fun j hj => absurd hj (Nat.not_lt_zero _)⟩ ?_
  rintro i w9 K ⟨k, rfl, hk, E9, hall⟩ hK
  by_cases hlt : k < l.length
  · rw [if_pos (by rw [h.n]; omega)]
    have hlr : k < rs.length := by rw [h.len]; exact hlt
    have hr := h.el k hlr hlt
    have hE9 := hE.trans E9
    refine rnp_idx sl22 (h.ext hE9).rd hlr rfl fun p _ hp => ?_
    refine rn_ldN (x := rs[k]) many48 hp rfl rfl ?_
    refine New.var (TResource.cells rs[k]) sz48 rfl (oc_res _) rfl fun b11 w10 e10 h11 nb11 => ?_
    refine rn_blkN (x := rs[k]) many48 h11 rfl rfl ?_
    have E10 := E9.trans e10
    refine (dangling_ok (hr.ext (hE.trans E10)) (hm.ext E10) hh).mono ?_; rintro _ w11 ⟨e11, rfl⟩
    have E11 := E10.trans e11
    have hd := dangAt_eq hlt
    by_cases c : 0 ≤ dang (has l) l[k]
    · exact iteT c (fault_out (f3.ext E11) (hE.trans E11) (by omega) fun w'' e => ⟨e, (fs_dang c1 c2 hlt (by rw [hd]; simpa using c) hall).symm⟩)
    · refine iteF c ?_
      rw [h.wr hlt]
      exact hK _ _ ⟨k + 1, rfl, hlt, E11, all_succ hall (by rw [hd]; simpa using c)⟩ (by omega)
  rw [if_neg (by rw [h.n]; omega)]
  obtain rfl : k = l.length := by omega
  clear hK
  have hdang := hall
  clear hall
  replace f3 := f3.ext E9; replace f33 := f33.ext E9; replace fk := fk.ext E9; replace hms := hms.ext E9; replace m54 := m54.ext E9; replace hE := hE.trans E9
  clear hm
  -- hosts
  refine Lp.mk (fun (i : Int) w' => ∃ k : Nat, i = k ∧ k ≤ l.length ∧ Ext w w' ∧ w9.heap.size ≤ w'.heap.size ∧ Blk w' b3 80 (TFault.cells ⟨0, 0, 0⟩) ∧ Blk w' b33 148 [.map (some b30), .map (some b31)] ∧ Mp Value.string (Value.int .i64) w' b31 [] ∧ Mp Value.string TResource.v w' b30 ms ∧
      (∃ m, Mp Value.string Value.bool w' b54 m ∧ ∀ n, (mget m n).getD false = (l.take k).any fun d => decide (d.kind = 3) && decide (d.host = n)) ∧ ∀ j, j < k → twinAt l j = false) (fun i => l.length - i.toNat)
    ⟨0, rfl, Nat.zero_le _, hE, Nat.le_refl _, f3, f33, fk, hms, ⟨[], m54, fun _ => rfl⟩, fun j hj => absurd hj (Nat.not_lt_zero _)⟩ ?_
  have g9 := E9.size
  clear f3 f33 fk hms m54 hE
  rintro i w10 K ⟨k, rfl, hk, hE, hg, f3, f33, fk, hms, ⟨m, hm, hmm⟩, hall⟩ hK
  by_cases hlt : k < l.length
  · rw [if_pos (by rw [h.n]; omega)]
    have hlr : k < rs.length := by rw [h.len]; exact hlt
    have hr := h.el k hlr hlt
    have ht := twinAt_eq hlt
    refine Jn.dup ?_
    refine rnp_idx sl22 (h.ext hE).rd hlr rfl fun p _ hp => ?_
    refine rn_ldN (x := rs[k]) many48 hp rfl rfl ?_
    refine New.var (TResource.cells rs[k]) sz48 rfl (oc_res _) rfl fun b14 w11 e11 h14 nb14 => ?_
    replace hE := hE.trans e11; replace f3 := f3.ext e11; replace f33 := f33.ext e11; replace fk := fk.ext e11; replace hms := hms.ext e11; replace hm := hm.ext e11
    have g11 := e11.size
    refine ⟨fun x w' => w' = w11 ∧ x = twinAt l k, ?_, ?_⟩
    · refine rn_blk one3 h14 rfl rfl ?_
      rw [hr.kind]
      by_cases c : l[k].kind = 3
      · refine iteT c ?_
        refine rn_blk one9 h14 rfl rfl ?_
        refine rn_get mapT149 hm ⟨rfl, ?_⟩
        rw [ht, hmm, hr.host]; simp [c]
      · exact iteF c ⟨rfl, by rw [ht]; simp [c]⟩
    rintro x w11 ⟨rfl, rfl⟩
    cases c : twinAt l k with
    | true => exact iteT rfl (fault_out f3 hE (by omega) fun w'' e => ⟨e, (fs_twin c1 c2 hdang hlt c hall).symm⟩)
    | false =>
      refine iteF (by simp) ?_
      refine rn_blk one9 h14 rfl rfl ?_
      refine rn_blk one9 h14 rfl rfl ?_
      refine rn_get mapT149 hm ?_
      have fin : ∀ v : Bool, v = ((mget m l[k].host).getD false || decide (l[k].kind = 3)) → RnU PP (Instr.mapUpdate 149 (.map (some b54)) (.string rs[k].Host) (.bool v)) w11 fun w => K (IntKind.i64.wrap ((k : Int) + 1)) w := fun v hv =>
        rnu_put (k := rs[k].Host) (v := v) mapT149 hm fun w12 c12 hm12 s12 => by
          rw [h.wr hlt]
          refine hK _ _ ⟨k + 1, rfl, hlt, hE.then c12 (fun b hb => by omega), by omega, f3.chg c12 (by omega), f33.chg c12 (by omega), fk.chg c12 (by omega), hms.chg c12 (by omega), ⟨_, hm12, fun n => ?_⟩, all_succ hall c⟩ (by omega)
          rw [any_succ hlt, mget_put, ← hmm n, hr.host]
          by_cases ce : l[k].host = n
          · rw [if_pos ce, hv, ce]; simp
          · rw [if_neg ce]; simp [ce]
      rw [hr.host]
      rw [hr.host] at fin
      cases cg : (mget m l[k].host).getD false with
      | true => exact iteT rfl (fin true (by rw [cg]; rfl))
      | false =>
        refine iteF (by simp) ?_
        refine rn_blk one3 h14 rfl rfl ?_
        rw [hr.kind]
        exact fin _ (by rw [cg]; rfl)
  rw [if_neg (by rw [h.n]; omega)]
  obtain rfl : k = l.length := by omega
  clear hK
  have htwin := hall
  clear hall hm hmm
  -- weights
  refine Lp.mk (fun (i : Int) w' => ∃ k : Nat, i = k ∧ k ≤ l.length ∧ Ext w10 w' ∧ ∀ j, j < k → heavyAt l j = false) (fun i => l.length - i.toNat) ⟨0, rfl, Nat.zero_le _, Ext.refl _, fun j hj => absurd hj (Nat.not_lt_zero _)⟩ ?_
  rintro i w11 K ⟨k, rfl, hk, E11, hall⟩ hK
  by_cases hlt : k < l.length
  · rw [if_pos (by rw [h.n]; omega)]
    have hlr : k < rs.length := by rw [h.len]; exact hlt
    have hr := h.el k hlr hlt
    have ht := heavyAt_eq hlt
    refine rnp_idx sl22 (h.ext (hE.trans E11)).rd hlr rfl fun p _ hp => ?_
    refine rn_ldN (x := rs[k]) many48 hp rfl rfl ?_
    refine New.var (TResource.cells rs[k]) sz48 rfl (oc_res _) rfl fun b16 w12 e12 h16 _ => ?_
    have E12 := E11.trans e12
    refine ⟨fun x w' => Ext w10 w' ∧ x = heavyAt l k, ?_, ?_⟩
    · refine rn_blk one3 h16 rfl rfl ?_
      rw [hr.kind]
      by_cases c : l[k].kind = 2
      · refine iteT c ?_
        refine rn_blkN (x := rs[k]) many48 h16 rfl rfl ?_
        refine (heavy_ok (hr.ext (hE.trans E12))).mono ?_; rintro _ w13 ⟨e13, rfl⟩
        exact ⟨E12.trans e13, by rw [ht]; simp [c]⟩
      · exact iteF c ⟨E12, by rw [ht]; simp [c]⟩
    rintro x w13 ⟨E13, rfl⟩
    cases c : heavyAt l k with
    | true => exact iteT rfl (fault_out (f3.ext E13) (hE.trans E13) (by omega) fun w'' e => ⟨e, (fs_heavy c1 c2 hdang htwin hlt c hall).symm⟩)
    | false =>
      refine iteF (by simp) ?_
      rw [h.wr hlt]
      exact hK _ _ ⟨k + 1, rfl, hlt, E13, all_succ hall c⟩ (by omega)
  rw [if_neg (by rw [h.n]; omega)]
  obtain rfl : k = l.length := by omega
  clear hK
  have hheavy := hall
  clear hall
  -- depths
  replace hE := hE.trans E11; replace f3 := f3.ext E11; replace f33 := f33.ext E11; replace fk := fk.ext E11; replace hms := hms.ext E11
  have hnd := no_dang hdang
  have hms' : ∀ n d, splitOf l n = some d → ∃ i, ∃ h : i < rs.length, l[i]? = some d ∧ mget ms n = some rs[i] := fun n d hs => by
    have h1 := List.find?_some hs
    simp only [Bool.and_eq_true, decide_eq_true_eq] at h1
    obtain ⟨i, hi, rfl⟩ := List.mem_iff_getElem.1 (List.mem_of_find?_eq_some hs)
    have hir : i < rs.length := by rw [h.len]; exact hi
    exact ⟨i, hir, List.getElem?_eq_getElem hi, by rw [← h1.2]; exact hmss i hi hir hi h1.1⟩
  have hlowE := hlow.ext hE
  have hW : DepW (fun b => F b ∧ b < w.heap.size) s rs l b30 b31 b33 ms w11 := ⟨hlowE, fun b hb => by have := hb.2; omega, f33, hms, by omega, by omega⟩
  refine Lp.mk (fun (i : Int) w' => ∃ k : Nat, i = k ∧ k ≤ l.length ∧ Ext w w' ∧ DepW (fun b => F b ∧ b < w.heap.size) s rs l b30 b31 b33 ms w' ∧ Blk w' b3 80 (TFault.cells ⟨0, 0, 0⟩) ∧
      (∃ m, Mp Value.string (Value.int .i64) w' b31 m ∧ Inv l m (fun _ => False)) ∧ ∀ j, j < k → deepAt l j = false) (fun i => l.length - i.toNat)
    ⟨0, rfl, Nat.zero_le _, hE, hW, f3, ⟨[], fk, fun n v hv => by cases hv⟩, fun j hj => absurd hj (Nat.not_lt_zero _)⟩ ?_
  clear hW f3 hE hlowE
  rintro i w12 K ⟨k, rfl, hk, hE, hW, f3, ⟨m, hm, hI⟩, hall⟩ hK
  by_cases hlt : k < l.length
  · rw [if_pos (by rw [h.n]; omega)]
    have hlr : k < rs.length := by rw [h.len]; exact hlt
    have hr := h.el k hlr hlt
    have ht := deepAt_eq hlt
    refine rnp_idx sl22 (h.ext hE).rd hlr rfl fun p _ hp => ?_
    refine rn_ldN (x := rs[k]) many48 hp rfl rfl ?_
    refine New.var (TResource.cells rs[k]) sz48 rfl (oc_res _) rfl fun b18 w13 e13 h18 nb18 => ?_
    replace hE := hE.trans e13; replace hm := hm.ext e13; replace f3 := f3.ext e13
    have hW13 := hW.chg (e13.chg _)
    refine ⟨fun x w' => Ext w w' ∧ DepW (fun b => F b ∧ b < w.heap.size) s rs l b30 b31 b33 ms w' ∧ Blk w' b3 80 (TFault.cells ⟨0, 0, 0⟩) ∧ (∃ m, Mp Value.string (Value.int .i64) w' b31 m ∧ Inv l m (fun _ => False)) ∧ x = deepAt l k, ?_, ?_⟩
    · refine rn_blk one3 h18 rfl rfl ?_
      rw [hr.kind]
      by_cases c : l[k].kind = 2
      · refine iteT c ?_
        refine rn_blk one9 h18 rfl rfl ?_
        rw [hr.name]
        have hsp := splitOf_self hord _ (List.getElem_mem hlt) c
        refine (of_dep hms' (fun n d t a b => has_split (hnd n d t a b)) _ w13 m (fun _ => False) l[k].name (Nat.le_refl _) hW13 hm hI (fun _ h => h.elim) (by rw [hsp]; rfl)).mono ?_
        rintro v w14 ⟨rfl, c14, m', hm', hI', _⟩
        refine ⟨hE.then c14 (fun b hb => by omega), hW13.chg c14, f3.chg c14 (by omega), ⟨m', hm', hI'⟩, ?_⟩
        rw [ht]; simp [c]; omega
      · exact iteF c ⟨hE, hW13, f3, ⟨m, hm, hI⟩, by rw [ht]; simp [c]⟩
    rintro x w14 ⟨hE, hW, f3, hmI, rfl⟩
    cases c : deepAt l k with
    | true => exact iteT rfl (fault_out f3 hE (by omega) fun w'' e => ⟨e, (fs_deep c1 c2 hdang htwin hheavy hlt c hall).symm⟩)
    | false =>
      refine iteF (by simp) ?_
      rw [h.wr hlt]
      exact hK _ _ ⟨k + 1, rfl, hlt, hE, hW, f3, hmI, all_succ hall c⟩ (by omega)
  rw [if_neg (by rw [h.n]; omega)]
  obtain rfl : k = l.length := by omega
  refine (shadows_ok (h.ext hE) hf.paths hf.tot).mono ?_
  rintro x w13 e13
  exact fault_out (f3.ext e13) (hE.trans e13) (by omega) fun w'' e => ⟨e, (fs_none c1 c2 hdang htwin hheavy hall).symm⟩
end
end Go.Proofs.Ytdoeegfcmbcbkaa.Ct


namespace Go.Proofs.Ytdoeegfcmbcbkaa.Ct
open Go Go.Eng Tr
set_option linter.unusedVariables false
set_option maxRecDepth 100000

def toRef (f : TFault) : TFault14 := ⟨f.Doc, f.Line, f.Err⟩
section
variable {w : World} {F : Nat → Prop} {s : Sl} {rs : List TResource} {l : List DRes}
def pairAt (l : List DRes) (i j : Nat) : Bool := match l[i]?, l[j]? with
  | some d, some c => decide (d.kind = 3) && (decide (c.kind = 3) && decide (d.host = c.host))
  | _, _ => false
end
end Go.Proofs.Ytdoeegfcmbcbkaa.Ct


namespace Go.Proofs.Ytdoeegfcmbcbkaa.Ct
open Go Go.Eng Tr
set_option linter.unusedVariables false
set_option maxRecDepth 100000

section
variable {w : World} {F : Nat → Prop} {s : Sl} {rs : List TResource} {l : List DRes}
end
end Go.Proofs.Ytdoeegfcmbcbkaa.Ct


namespace Go.Proofs.Ytdoeegfcmbcbkaa.Ct
open Go Go.Eng Tr
set_option linter.unusedVariables false

abbrev SH := ByteArray × Option Nat
def addS : List SH → ByteArray → Option Nat → List SH
  | [], n, x => [(n, oadd2 (some 0) x)]
  | p :: l, n, x => if p.1 = n then (n, oadd2 p.2 x) :: l else p :: addS l n x
theorem addS_hit {n : ByteArray} {x : Option Nat} : ∀ {ys : List SH} {k : Nat} (hk : k < ys.length), ys[k].1 = n → (∀ j (hj : j < k), (ys[j]'(by omega)).1 ≠ n) → addS ys n x = ys.set k (n, oadd2 ys[k].2 x)
  | p :: ys, 0, _, h, _ => by
    simp only [List.getElem_cons_zero] at h ⊢
    simp [addS, h]
  | p :: ys, k + 1, hk, h, hj => by
    have h0 := hj 0 (by omega)
    simp only [List.getElem_cons_zero, List.getElem_cons_succ] at h0 h ⊢
    have := addS_hit (x := x) (by simpa using hk) h (fun j hj' => by simpa using hj (j + 1) (by omega))
    simp [addS, h0, this]
theorem addS_miss {n : ByteArray} {x : Option Nat} : ∀ {ys : List SH}, (∀ p ∈ ys, p.1 ≠ n) → addS ys n x = ys ++ [(n, oadd2 (some 0) x)]
  | [], _ => rfl
  | p :: ys, h => by
    have h0 := h p (by simp)
    have := addS_miss (x := x) (ys := ys) fun q hq => h q (List.mem_cons_of_mem _ hq)
    simp [addS, h0, this]
theorem addS_keys {n : ByteArray} {x : Option Nat} : ∀ ys : List SH, (n ∈ ys.map (·.1) ∧ (addS ys n x).map (·.1) = ys.map (·.1)) ∨ (n ∉ ys.map (·.1) ∧ (addS ys n x).map (·.1) = ys.map (·.1) ++ [n])
  | [] => .inr ⟨by simp, rfl⟩
  | p :: ys => by
    unfold addS
    by_cases h : p.1 = n
    · rw [if_pos h]; exact .inl ⟨by simp [h], by simp [h]⟩
    · rw [if_neg h]
      rcases addS_keys (n := n) (x := x) ys with ⟨h1, h2⟩ | ⟨h1, h2⟩
      · exact .inl ⟨List.mem_cons_of_mem _ h1, by rw [List.map_cons, h2]; rfl⟩
      · refine .inr ⟨fun hm => ?_, by rw [List.map_cons, h2]; rfl⟩
        rw [List.map_cons] at hm
        rcases List.mem_cons.1 hm with e | hm
        · exact h e.symm
        · exact h1 hm
def wt (t : TTarget) : Option Nat := FloatKind.f64.format.div t.Weight 4636737291354636288
def mixS (x : Option Nat) (out : List SH) (zs : List SH) : List SH := zs.foldl (fun out s => addS out s.1 (omul2 x s.2)) out
def partS (f : ByteArray → List SH) (out : List SH) (t : TTarget) : List SH :=
  if t.Service = ⟨#[]⟩ then mixS (wt t) out (f t.Split) else addS out t.Service (wt t)
def sumS (f : ByteArray → List SH) (ts : List TTarget) : List SH := ts.foldl (partS f) []
theorem sumS_succ {f : ByteArray → List SH} {ts : List TTarget} {k : Nat} (h : k < ts.length) : sumS f (ts.take (k + 1)) = partS f (sumS f (ts.take k)) ts[k] := by
  unfold sumS; rw [List.take_add_one, List.getElem?_eq_getElem h, List.foldl_append]; rfl
theorem mixS_succ {x : Option Nat} {out zs : List SH} {k : Nat} (h : k < zs.length) : mixS x out (zs.take (k + 1)) = addS (mixS x out (zs.take k)) zs[k].1 (omul2 x zs[k].2) := by
  unfold mixS; rw [List.take_add_one, List.getElem?_eq_getElem h, List.foldl_append]; rfl
theorem sumS_congr {f g : ByteArray → List SH} {ts : List TTarget} (h : ∀ t ∈ ts, t.Service = ⟨#[]⟩ → f t.Split = g t.Split) : sumS f ts = sumS g ts := by
  unfold sumS
  generalize ([] : List SH) = out
  induction ts generalizing out with
  | nil => rfl
  | cons t ts ih =>
    have e : partS f out t = partS g out t := by
      unfold partS
      by_cases c : t.Service = ⟨#[]⟩
      · rw [if_pos c, if_pos c, h t (by simp) c]
      · rw [if_neg c, if_neg c]
    rw [List.foldl_cons, List.foldl_cons, e, ih (fun t ht => h t (by simp [ht]))]
def sh (l : List DRes) : Nat → ByteArray → List SH
  | 0, _ => []
  | k + 1, n => match splitOf l n with
    | none => []
    | some d => sumS (sh l k) d.targets
def shF (l : List DRes) (n : ByteArray) : List SH := sh l 9 n
section
variable {l : List DRes}
theorem kid_mem {n : ByteArray} {d : DRes} (hd' : splitOf l n = some d) {t : TTarget} (ht : t ∈ d.targets) (hs : t.Service = ⟨#[]⟩) : t.Split ∈ kids l n := by
  unfold kids; rw [hd']
  exact List.mem_map.2 ⟨t, List.mem_filter.2 ⟨ht, by simpa using hs⟩, rfl⟩
theorem kid_hd {n c : ByteArray} (h8 : hd l 8 n ≤ 8) (hc : c ∈ kids l n) : hd l 8 c < hd l 8 n := by
  have := hd_min l n
  have h1 : hd l 8 c ≤ maxl ((kids l n).map (hd l 8)) := le_maxl (List.mem_map.2 ⟨c, hc, rfl⟩)
  omega
theorem sh_stable : ∀ (j : Nat) (n : ByteArray), hd l 8 n ≤ 8 → hd l 8 n ≤ j → sh l j n = sh l (j + 1) n
  | 0, n, _, h => by have := (hd_bounds l 8 n).1; omega
  | j + 1, n, h8, h => by
    show (match splitOf l n with | none => [] | some d => sumS (sh l j) d.targets) = (match splitOf l n with | none => [] | some d => sumS (sh l (j + 1)) d.targets)
    cases hs : splitOf l n with
    | none => rfl
    | some d =>
      refine sumS_congr fun t ht hts => ?_
      have := kid_hd h8 (kid_mem hs ht hts)
      exact sh_stable j t.Split (by omega) (by omega)
theorem shF_eq {n : ByteArray} {d : DRes} (h8 : hd l 8 n ≤ 8) (hs : splitOf l n = some d) : shF l n = sumS (shF l) d.targets := by
  have : shF l n = sumS (sh l 8) d.targets := by
    show (match splitOf l n with | none => [] | some d => sumS (sh l 8) d.targets) = _
    rw [hs]
  rw [this]
  refine sumS_congr fun t ht hts => ?_
  have := kid_hd h8 (kid_mem hs ht hts)
  exact sh_stable 8 t.Split (by omega) (by omega)
theorem shF_none {n : ByteArray} (hs : splitOf l n = none) : shF l n = [] := by
  show (match splitOf l n with | none => [] | some d => sumS (sh l 8) d.targets) = _
  rw [hs]
structure OkS (l : List DRes) (ys : List SH) : Prop where
  nodup : (ys.map (·.1)).Nodup
  has : ∀ p ∈ ys, Ct.has l 1 p.1 = true
theorem OkS.nil : OkS l [] := ⟨List.nodup_nil, fun p hp => by cases hp⟩
theorem sub_len {α : Type} [DecidableEq α] : ∀ {xs ys : List α}, xs.Nodup → (∀ x ∈ xs, x ∈ ys) → xs.length ≤ ys.length
  | [], _, _, _ => Nat.zero_le _
  | x :: xs, ys, hn, h => by
    have hx := h x (by simp)
    have h1 := List.length_erase_of_mem hx
    have h2 : 0 < ys.length := List.length_pos_of_mem hx
    simp only [List.nodup_cons] at hn
    have := sub_len (ys := ys.erase x) hn.2 fun y hy => (List.mem_erase_of_ne (fun e => hn.1 (by rw [← e]; exact hy))).2 (h y (by simp [hy]))
    simp only [List.length_cons]; omega
theorem OkS.len {ys : List SH} (h : OkS l ys) : ys.length ≤ l.length := by
  have := sub_len (ys := l.map (·.name)) h.nodup fun n hn => by
    obtain ⟨p, hp, rfl⟩ := List.mem_map.1 hn
    have h1 := h.has p hp
    rw [has_any] at h1
    obtain ⟨d, hd, h2⟩ := List.any_eq_true.1 h1
    simp only [Bool.and_eq_true, decide_eq_true_eq] at h2
    exact List.mem_map.2 ⟨d, hd, h2.2⟩
  simpa using this
theorem OkS.add {ys : List SH} (h : OkS l ys) {n : ByteArray} (hn : Ct.has l 1 n = true) (x : Option Nat) : OkS l (addS ys n x) := by
  have key : (addS ys n x).map (·.1) = ys.map (·.1) → OkS l (addS ys n x) := fun hk => ⟨by rw [hk]; exact h.nodup, fun p hp => by
    have : p.1 ∈ (addS ys n x).map (·.1) := List.mem_map.2 ⟨p, hp, rfl⟩
    rw [hk] at this
    obtain ⟨q, hq, e⟩ := List.mem_map.1 this
    rw [← e]; exact h.has q hq⟩
  rcases addS_keys (n := n) (x := x) ys with ⟨_, hk⟩ | ⟨hm, hk⟩
  · exact key hk
  · refine ⟨?_, fun p hp => ?_⟩
    · rw [hk, List.nodup_append]
      refine ⟨h.nodup, by simp, fun a ha b hb => ?_⟩
      simp only [List.mem_singleton] at hb
      subst hb
      exact fun e => hm (e ▸ ha)
    · have : p.1 ∈ (addS ys n x).map (·.1) := List.mem_map.2 ⟨p, hp, rfl⟩
      rw [hk] at this
      rcases List.mem_append.1 this with h3 | h3
      · obtain ⟨q, hq, e⟩ := List.mem_map.1 h3
        rw [← e]; exact h.has q hq
      · simp only [List.mem_singleton] at h3
        rw [h3]; exact hn
theorem OkS.mix {x : Option Nat} : ∀ {zs out : List SH}, OkS l out → (∀ p ∈ zs, Ct.has l 1 p.1 = true) → OkS l (mixS x out zs)
  | [], _, h, _ => h
  | z :: zs, out, h, hz => OkS.mix (zs := zs) (h.add (hz z (by simp)) _) fun p hp => hz p (by simp [hp])
theorem OkS.sum {f : ByteArray → List SH} {ts : List TTarget} (hs : ∀ t ∈ ts, t.Service ≠ ⟨#[]⟩ → Ct.has l 1 t.Service = true) (hf : ∀ t ∈ ts, t.Service = ⟨#[]⟩ → OkS l (f t.Split)) : OkS l (sumS f ts) := by
  unfold sumS
  have : ∀ out, OkS l out → OkS l (ts.foldl (partS f) out) := by
    induction ts with
    | nil => exact fun _ h => h
    | cons t ts ih =>
      intro out h
      rw [List.foldl_cons]
      refine ih (fun t ht => hs t (by simp [ht])) (fun t ht => hf t (by simp [ht])) _ ?_
      unfold partS
      by_cases c : t.Service = ⟨#[]⟩
      · rw [if_pos c]; exact h.mix (hf t (by simp) c).has
      · rw [if_neg c]; exact h.add (hs t (by simp) c) _
  exact this [] OkS.nil
def Stand (l : List DRes) : Prop := ∀ d ∈ l, d.kind = 2 → ∀ t ∈ d.targets, t.Service ≠ ⟨#[]⟩ → Ct.has l 1 t.Service = true
theorem splitOf_mem {n : ByteArray} {d : DRes} (h : splitOf l n = some d) : d ∈ l ∧ d.kind = 2 ∧ d.name = n := by
  have h1 := List.find?_some h
  simp only [Bool.and_eq_true, decide_eq_true_eq] at h1
  exact ⟨List.mem_of_find?_eq_some h, h1⟩
theorem sh_ok (hS : Stand l) : ∀ (k : Nat) (n : ByteArray), OkS l (sh l k n)
  | 0, _ => OkS.nil
  | k + 1, n => by
    show OkS l (match splitOf l n with | none => [] | some d => sumS (sh l k) d.targets)
    cases hs : splitOf l n with
    | none => exact OkS.nil
    | some d =>
      obtain ⟨h1, h2, h3⟩ := splitOf_mem hs
      exact OkS.sum (hS d h1 h2) fun t _ _ => sh_ok hS k t.Split
theorem sumS_ok (hS : Stand l) {d : DRes} (hd' : d ∈ l) (h2 : d.kind = 2) (k : Nat) : OkS l (sumS (shF l) (d.targets.take k)) :=
  OkS.sum (fun t ht => hS d hd' h2 t (List.mem_of_mem_take ht)) fun t _ _ => sh_ok hS 9 t.Split
theorem stand_of (h : ∀ i, i < l.length → dangAt l i = false) : Stand l := fun d hd' hk t ht hs => by
  obtain ⟨i, hi, rfl⟩ := List.mem_iff_getElem.1 hd'
  have h1 := h i hi
  rw [dangAt_eq hi] at h1
  have h2 : dang (has l) l[i] < 0 := by simpa using h1
  unfold dang at h2
  simp only [hk] at h2
  obtain ⟨j, hj, rfl⟩ := List.mem_iff_getElem.1 ht
  by_cases hb : badT (has l) l[i].targets j = true
  · exfalso
    have hne : ¬ fst? (badT (has l) l[i].targets) l[i].targets.length < 0 := fun hlt => by
      have := fst?_neg hlt j hj
      rw [this] at hb; cases hb
    simp [line?, hne] at h2
    omega
  · have hb' : badT (has l) l[i].targets j = false := by simpa using hb
    rw [badT_eq hj, if_neg hs] at hb'
    simpa using hb'
end

def one64 : Nat := 4607182418800017408
def stp (st : List SH × Option Nat) (y : SH) : List SH × Option Nat := if oGt y.2 0 = true then (st.1 ++ [(y.1, oadd2 st.2 y.2)], oadd2 st.2 y.2) else st
def rawS (ys : List SH) : List SH × Option Nat := ys.foldl stp ([], some 0)
def lastOne (ys : List SH) : List SH := ys.modify (ys.length - 1) fun y => (y.1, some one64)
def stepsS (ys : List SH) : List SH := lastOne (rawS ys).1
theorem rawS_succ {ys : List SH} {k : Nat} (h : k < ys.length) : rawS (ys.take (k + 1)) = stp (rawS (ys.take k)) ys[k] := by
  unfold rawS; rw [List.take_add_one, List.getElem?_eq_getElem h, List.foldl_append]; rfl
theorem rawS_len : ∀ (ys : List SH) (k : Nat), k ≤ ys.length → (rawS (ys.take k)).1.length ≤ k
  | ys, 0, _ => by simp [rawS]
  | ys, k + 1, h => by
    have := rawS_len ys k (by omega)
    rw [rawS_succ (by omega)]
    unfold stp
    split
    · simp; omega
    · omega
end Go.Proofs.Ytdoeegfcmbcbkaa.Ct


