/- A part of the proof whose last text is YtdoeegfcmbcbkaaBZ6. -/
import Derived.Test.YtdoeegfcmbcbkaaBZ0
set_option linter.all false
namespace Go.Proofs.Ytdoeegfcmbcbkaa.Tr
open Go Go.Eng
set_option linter.unusedVariables false
set_option maxRecDepth 100000
set_option maxHeartbeats 4000000
def f46 (t0 : Sl) (R : (Sl × TFault) → World → Prop) (w : World) : Prop :=
 New 80 (TFault.cells (⟨0, 0, 0⟩ : TFault)) w fun b3 w =>
 Cal Try.prog (Value.int .i64) 93 #[(Sl.v t0)] w fun t20 w =>
 if 0 ≤ t20 then
  RnU Try.prog (Instr.storeAt 80 (Ptr (⟨b3, 0, none⟩ : Addr)) (TFault.v (⟨t20, 0, 2⟩ : TFault))) w fun w =>
  RnR Try.prog TFault.v (loadVar 80 (⟨b3, 0, none⟩ : Addr)) w fun r1 =>
  R (Sl.nil, r1) w
 else
  if 64 < (t0.n : Int) then
   RnU Try.prog (Instr.storeAt 80 (Ptr (⟨b3, 0, none⟩ : Addr)) (TFault.v (⟨0, 0, 124⟩ : TFault))) w fun w =>
   RnR Try.prog TFault.v (loadVar 80 (⟨b3, 0, none⟩ : Addr)) w fun r1_1 =>
   R (Sl.nil, r1_1) w
  else
   NewM w fun b29 w =>
   NewM w fun b30 w =>
   NewM w fun b31 w =>
   New 148 (TDepths.cells (⟨(some b30), (some b31)⟩ : TDepths)) w fun b33 w =>
   Lp (σ := Int) (fun s3 w n3 =>
    if s3 < (t0.n : Int) then
     Jn (σ := Unit) (fun k5 =>
      RnP Try.prog Ptr (Instr.indexAt 22 (Sl.v t0) (.int .i64 s3)) fun t38 =>
      Rn Try.prog TResource.v (Instr.loadAt 48 (Ptr t38)) w fun t39 w =>
      New 48 (TResource.cells (⟨0, ⟨#[]⟩, Sl.nil, Sl.nil, ⟨#[]⟩, Sl.nil, ⟨#[]⟩, false⟩ : TResource)) w fun b8 w =>
      RnU Try.prog (Instr.storeAt 48 (Ptr (⟨b8, 0, none⟩ : Addr)) (TResource.v t39)) w fun w =>
      Rn Try.prog TResource.v (Instr.loadAt 48 (Ptr (⟨b8, 0, none⟩ : Addr))) w fun t41 w =>
      Cal Try.prog TKey.v 63 #[(TResource.v t41)] w fun t42 w =>
      RnU Try.prog (Instr.mapUpdate 115 (.map (some b29)) (TKey.v t42) (.bool true)) w fun w =>
      Rn Try.prog (Value.int .i64) (Instr.loadAt 3 (Ptr ((⟨b8, 0, none⟩ : Addr).add 0))) w fun t44 w =>
      if t44 = 2 then
       Dr w fun w7 w =>
        RnL Try.prog Value.map (Instr.loadAt 145 (Ptr ((⟨b33, 0, none⟩ : Addr).add 0))) w7 fun t49 =>
        RnL Try.prog Value.string (Instr.loadAt 9 (Ptr ((⟨b8, 0, none⟩ : Addr).add 1))) w7 fun t51 =>
        RnL Try.prog TResource.v (Instr.loadAt 48 (Ptr (⟨b8, 0, none⟩ : Addr))) w7 fun t52 =>
        RnU Try.prog (Instr.mapUpdate 145 (.map t49) (.string t51) (TResource.v t52)) w fun w =>
        k5 () w
      else
       k5 () w
     ) fun s5 w =>
      n3 (IntKind.i64.wrap (s3 + 1)) w
    else
     NewM w fun b54 w =>
     Lp (σ := Int) (fun s8 w n8 =>
      if s8 < (t0.n : Int) then
       RnP Try.prog Ptr (Instr.indexAt 22 (Sl.v t0) (.int .i64 s8)) fun t60 =>
       Rn Try.prog TResource.v (Instr.loadAt 48 (Ptr t60)) w fun t61 w =>
       New 48 (TResource.cells (⟨0, ⟨#[]⟩, Sl.nil, Sl.nil, ⟨#[]⟩, Sl.nil, ⟨#[]⟩, false⟩ : TResource)) w fun b11 w =>
       RnU Try.prog (Instr.storeAt 48 (Ptr (⟨b11, 0, none⟩ : Addr)) (TResource.v t61)) w fun w =>
       Rn Try.prog TResource.v (Instr.loadAt 48 (Ptr (⟨b11, 0, none⟩ : Addr))) w fun t62 w =>
       Cal Try.prog (Value.int .i64) 94 #[(TResource.v t62), (.map (some b29))] w fun t64 w =>
       if 0 ≤ t64 then
        RnU Try.prog (Instr.storeAt 80 (Ptr (⟨b3, 0, none⟩ : Addr)) (TFault.v (⟨s8, t64, 140⟩ : TFault))) w fun w =>
        RnR Try.prog TFault.v (loadVar 80 (⟨b3, 0, none⟩ : Addr)) w fun r1_2 =>
        R (Sl.nil, r1_2) w
       else
        n8 (IntKind.i64.wrap (s8 + 1)) w
      else
       Lp (σ := Int) (fun s11 w n11 =>
        if s11 < (t0.n : Int) then
         Jn (σ := Unit) (fun k13 =>
          RnP Try.prog Ptr (Instr.indexAt 22 (Sl.v t0) (.int .i64 s11)) fun t76 =>
          Rn Try.prog TResource.v (Instr.loadAt 48 (Ptr t76)) w fun t77 w =>
          New 48 (TResource.cells (⟨0, ⟨#[]⟩, Sl.nil, Sl.nil, ⟨#[]⟩, Sl.nil, ⟨#[]⟩, false⟩ : TResource)) w fun b14 w =>
          RnU Try.prog (Instr.storeAt 48 (Ptr (⟨b14, 0, none⟩ : Addr)) (TResource.v t77)) w fun w =>
          Jn (σ := Bool) (fun k14 =>
           Rn Try.prog (Value.int .i64) (Instr.loadAt 3 (Ptr ((⟨b14, 0, none⟩ : Addr).add 0))) w fun t79 w =>
           if t79 = 3 then
            Rn Try.prog Value.string (Instr.loadAt 9 (Ptr ((⟨b14, 0, none⟩ : Addr).add 4))) w fun t84 w =>
            Rn Try.prog Value.bool (Instr.lookup 149 (.map (some b54)) (.string t84) false) w fun t85 w =>
            k14 t85 w
           else
            k14 false w
          ) fun s14 w =>
           if s14 = true then
            RnU Try.prog (Instr.storeAt 80 (Ptr (⟨b3, 0, none⟩ : Addr)) (TFault.v (⟨s11, 0, 141⟩ : TFault))) w fun w =>
            RnR Try.prog TFault.v (loadVar 80 (⟨b3, 0, none⟩ : Addr)) w fun r1_3 =>
            R (Sl.nil, r1_3) w
           else
            Rn Try.prog Value.string (Instr.loadAt 9 (Ptr ((⟨b14, 0, none⟩ : Addr).add 4))) w fun t91 w =>
            Rn Try.prog Value.string (Instr.loadAt 9 (Ptr ((⟨b14, 0, none⟩ : Addr).add 4))) w fun t94 w =>
            Rn Try.prog Value.bool (Instr.lookup 149 (.map (some b54)) (.string t94) false) w fun t95 w =>
            if t95 = true then
             RnU Try.prog (Instr.mapUpdate 149 (.map (some b54)) (.string t91) (.bool true)) w fun w =>
             k13 () w
            else
             Rn Try.prog (Value.int .i64) (Instr.loadAt 3 (Ptr ((⟨b14, 0, none⟩ : Addr).add 0))) w fun t98 w =>
             RnU Try.prog (Instr.mapUpdate 149 (.map (some b54)) (.string t91) (.bool (decide (t98 = 3)))) w fun w =>
             k13 () w
         ) fun s13 w =>
          n11 (IntKind.i64.wrap (s11 + 1)) w
        else
         Lp (σ := Int) (fun s18 w n18 =>
          if s18 < (t0.n : Int) then
           RnP Try.prog Ptr (Instr.indexAt 22 (Sl.v t0) (.int .i64 s18)) fun t107 =>
           Rn Try.prog TResource.v (Instr.loadAt 48 (Ptr t107)) w fun t108 w =>
           New 48 (TResource.cells (⟨0, ⟨#[]⟩, Sl.nil, Sl.nil, ⟨#[]⟩, Sl.nil, ⟨#[]⟩, false⟩ : TResource)) w fun b16 w =>
           RnU Try.prog (Instr.storeAt 48 (Ptr (⟨b16, 0, none⟩ : Addr)) (TResource.v t108)) w fun w =>
           Jn (σ := Bool) (fun k20 =>
            Rn Try.prog (Value.int .i64) (Instr.loadAt 3 (Ptr ((⟨b16, 0, none⟩ : Addr).add 0))) w fun t110 w =>
            if t110 = 2 then
             Rn Try.prog TResource.v (Instr.loadAt 48 (Ptr (⟨b16, 0, none⟩ : Addr))) w fun t113 w =>
             Cal Try.prog Value.bool 95 #[(TResource.v t113)] w fun t114 w =>
             k20 t114 w
            else
             k20 false w
           ) fun s20 w =>
            if s20 = true then
             RnU Try.prog (Instr.storeAt 80 (Ptr (⟨b3, 0, none⟩ : Addr)) (TFault.v (⟨s18, 0, 142⟩ : TFault))) w fun w =>
             RnR Try.prog TFault.v (loadVar 80 (⟨b3, 0, none⟩ : Addr)) w fun r1_4 =>
             R (Sl.nil, r1_4) w
            else
             n18 (IntKind.i64.wrap (s18 + 1)) w
          else
           Lp (σ := Int) (fun s23 w n23 =>
            if s23 < (t0.n : Int) then
             RnP Try.prog Ptr (Instr.indexAt 22 (Sl.v t0) (.int .i64 s23)) fun t124 =>
             Rn Try.prog TResource.v (Instr.loadAt 48 (Ptr t124)) w fun t125 w =>
             New 48 (TResource.cells (⟨0, ⟨#[]⟩, Sl.nil, Sl.nil, ⟨#[]⟩, Sl.nil, ⟨#[]⟩, false⟩ : TResource)) w fun b18 w =>
             RnU Try.prog (Instr.storeAt 48 (Ptr (⟨b18, 0, none⟩ : Addr)) (TResource.v t125)) w fun w =>
             Jn (σ := Bool) (fun k25 =>
              Rn Try.prog (Value.int .i64) (Instr.loadAt 3 (Ptr ((⟨b18, 0, none⟩ : Addr).add 0))) w fun t127 w =>
              if t127 = 2 then
               Rn Try.prog Value.string (Instr.loadAt 9 (Ptr ((⟨b18, 0, none⟩ : Addr).add 1))) w fun t132 w =>
               Cal Try.prog (Value.int .i64) 96 #[(Ptr (⟨b33, 0, none⟩ : Addr)), (.string t132)] w fun t133 w =>
               k25 (decide (8 < t133)) w
              else
               k25 false w
             ) fun s25 w =>
              if s25 = true then
               RnU Try.prog (Instr.storeAt 80 (Ptr (⟨b3, 0, none⟩ : Addr)) (TFault.v (⟨s23, 0, 143⟩ : TFault))) w fun w =>
               RnR Try.prog TFault.v (loadVar 80 (⟨b3, 0, none⟩ : Addr)) w fun r1_5 =>
               R (Sl.nil, r1_5) w
              else
               n23 (IntKind.i64.wrap (s23 + 1)) w
            else
             Cal Try.prog Sl.v 97 #[(Sl.v t0)] w fun t140 w =>
             RnU Try.prog (Instr.storeAt 80 (Ptr (⟨b3, 0, none⟩ : Addr)) (TFault.v (⟨0, 0, 0⟩ : TFault))) w fun w =>
             RnR Try.prog TFault.v (loadVar 80 (⟨b3, 0, none⟩ : Addr)) w fun r1_6 =>
             R (t140, r1_6) w
           ) 0 w
         ) 0 w
       ) 0 w
     ) 0 w
   ) 0 w
theorem c46 {t0 : Sl} {R : (Sl × TFault) → World → Prop} {w : World} (h : f46 t0 R w) :
  Cal Try.prog (fun x : Sl × TFault => Value.tuple #[(Sl.v x.1), (TFault.v x.2)]) 46 #[(Sl.v t0)] w R := by
 unfold f46 at h
 refine calls_ Try.func46 Try.ntmps46 rfl rfl <| seq_ <| region_ <| asg (Sl.v Sl.nil) rfl ?_
 refine st_new (f := (fun b => Ptr ⟨b, 0, none⟩)) (ex_allocN zero80 rfl) h ?_; clear h; intro b3 w h
 refine wl_nil <| then_n <| seq_ <| seq_ <| region_ <| mv (Sl.v t0) rfl ?_
 refine st_cal en93 rfl h ?_; clear h; intro t20 w h
 refine asg (.int .i64 t20) rfl <| wl_nil <| then_n <| seq_ <| region_ <| mv (.int .i64 t20) rfl <| st_val (ex_geq (a := t20) (b := 0) rfl rfl) <| wl_nil <| then_n ?_
 by_cases hc1 : 0 ≤ t20
 ·rw [if_pos hc1] at h; refine cond_1 (b := (decide (0 ≤ t20))) rfl (decide_eq_true hc1) ?_
  refine seq_ <| region_ <| mv (.int .i64 t20) rfl <| st_val (ex_build (a' := [(0, (.int .i64 t20)), (2, (.int .i64 2))]) (v := TFault.v (⟨t20, 0, 2⟩ : TFault)) rfl (e_build Try.underlying80 zero80 rfl pl80 rfl _)) <| asg (Sl.v Sl.nil) rfl ?_
  refine st_rnu (fun r => ex_store rfl rfl r) h ?_; clear h; intro w h
  refine wl_nil <| then_n <| wp_ret <| then_r ?_
  obtain ⟨r1, hr1, h⟩ := h
  refine ret_tc rfl rfl rfl hr1 ⟨(Sl.nil, r1), rfl, h⟩
 ·rw [if_neg hc1] at h; refine cond_0 (b := (decide (0 ≤ t20))) rfl (decide_eq_false hc1) ?_
  refine wp_skip <| then_n <| seq_ <| seq_ <| region_ <| mv (Sl.v t0) rfl <| st_val (ex_len (s := t0) Try.underlying22 rfl) <| st_val (ex_gtr (a := (t0.n : Int)) (b := 64) rfl rfl) <| wl_nil <| then_n ?_
  by_cases hc2 : 64 < (t0.n : Int)
  ·rw [if_pos hc2] at h; refine cond_1 (b := (decide (64 < (t0.n : Int)))) rfl (decide_eq_true hc2) ?_
   refine seq_ <| region_ <| st_val (ex_build (a' := [(2, (.int .i64 124))]) (v := TFault.v (⟨0, 0, 124⟩ : TFault)) rfl (e_build Try.underlying80 zero80 rfl pl80 rfl _)) <| asg (Sl.v Sl.nil) rfl ?_
   refine st_rnu (fun r => ex_store rfl rfl r) h ?_; clear h; intro w h
   refine wl_nil <| then_n <| wp_ret <| then_r ?_
   obtain ⟨r1_1, hr1_1, h⟩ := h
   refine ret_tc rfl rfl rfl hr1_1 ⟨(Sl.nil, r1_1), rfl, h⟩
  ·rw [if_neg hc2] at h; refine cond_0 (b := (decide (64 < (t0.n : Int)))) rfl (decide_eq_false hc2) ?_
   refine wp_skip <| then_n <| seq_ <| region_ ?_
   refine st_newm (ex_makeMap (e_makeMap _)) h ?_; clear h; intro b29 w h
   refine asg (.map (some b29)) rfl <| wl_nil <| then_n <| seq_ <| region_ ?_
   refine st_newm (ex_makeMap (e_makeMap _)) h ?_; clear h; intro b30 w h
   refine st_newm (ex_makeMap (e_makeMap _)) h ?_; clear h; intro b31 w h
   refine st_val (ex_build (a' := [(0, (.map (some b30))), (1, (.map (some b31)))]) (v := TDepths.v (⟨(some b30), (some b31)⟩ : TDepths)) rfl (e_build Try.underlying148 zero148 rfl pl148 rfl _)) ?_
   refine st_new (f := (fun b => Ptr ⟨b, 0, none⟩)) (ex_boxN rfl rfl) h ?_; clear h; intro b33 w h
   refine asg (Ptr (⟨b33, 0, none⟩ : Addr)) rfl <| wl_nil <| then_n <| seq_ <| seq_ <| region_ <| mv (Sl.v t0) rfl <| st_val (ex_len (s := t0) Try.underlying22 rfl) <| mv (.int .i64 0) rfl <| wl_nil ?_
   refine then_n <| wp_block <| wp_lp (σ := Int) (fun s3 a => ∃ j, a = F 142 (upds j [(0, (Sl.v t0)), (3, (Ptr (⟨b3, 0, none⟩ : Addr))), (5, (.map (some b29))), (6, (Ptr (⟨b33, 0, none⟩ : Addr))), (34, (Sl.v t0)), (35, (.int .i64 (t0.n : Int))), (36, (.int .i64 s3))])) h (mk_upds (ae rfl (ae rfl (ae rfl (ae rfl (ae rfl (ae rfl (ae rfl ae0)))))))) ?_
   clear h; rintro s3 _ w n3 ⟨j, rfl⟩ h
   refine seq_ <| region_ <| st_val (ex_lss (a := s3) (b := (t0.n : Int)) rfl rfl) <| wl_nil <| then_n <| seq_ ?_
   by_cases hc4 : s3 < (t0.n : Int)
   ·rw [if_pos hc4] at h; refine cond_1 (b := (decide (s3 < (t0.n : Int)))) rfl (decide_eq_true hc4) ?_
    refine wp_skip <| then_n ?_
    refine wp_jn (σ := Unit) (fun s5 l => ∃ j, l = upds j [(0, (Sl.v t0)), (3, (Ptr (⟨b3, 0, none⟩ : Addr))), (5, (.map (some b29))), (6, (Ptr (⟨b33, 0, none⟩ : Addr))), (34, (Sl.v t0)), (35, (.int .i64 (t0.n : Int))), (36, (.int .i64 s3))]) h ?_ ?_
    ·clear h; rintro s5 _ w ⟨j, rfl⟩ h
     refine region_ <| st_val (ex_add (a := s3) (b := 1) rfl rfl) <| mv (.int .i64 (IntKind.i64.wrap (s3 + 1))) rfl <| wl_nil ?_
     exact then_n ⟨(IntKind.i64.wrap (s3 + 1)), mk_upds (ae rfl (ae rfl (ae rfl (ae rfl (ae rfl (ae rfl (ae rfl ae0))))))), h⟩
    ·clear h; intro k5 h
     refine wp_block <| seq_ <| region_ ?_
     refine st_rnp (fun r => ex_indexAddr rfl rfl r) h ?_; clear h; intro t38 h
     refine st_rn (fun r => ex_load rfl r) h ?_; clear h; intro t39 w h
     refine st_new (f := (fun b => Ptr ⟨b, 0, none⟩)) (ex_allocN zero48 rfl) h ?_; clear h; intro b8 w h
     refine st_rnu (fun r => ex_store rfl rfl r) h ?_; clear h; intro w h
     refine wl_nil <| then_n <| seq_ <| region_ <| mv (.map (some b29)) rfl ?_
     refine st_rn (fun r => ex_load rfl r) h ?_; clear h; intro t41 w h
     refine st_cal en63 rfl h ?_; clear h; intro t42 w h
     refine st_rnu (fun r => ex_mapUpdate rfl rfl rfl r) h ?_; clear h; intro w h
     refine wl_nil <| then_n <| seq_ <| region_ <| st_val (ex_fa fa48_0 (p := (⟨b8, 0, none⟩ : Addr)) rfl) ?_
     refine st_rn (fun r => ex_load rfl r) h ?_; clear h; intro t44 w h
     refine st_val (ex_eql (a := t44) (b := 2) rfl rfl) <| wl_nil <| then_n ?_
     by_cases hc6 : t44 = 2
     ·rw [if_pos hc6] at h; refine cond_1 (b := (decide (t44 = 2))) rfl (decide_eq_true hc6) ?_
      refine dr_begin mixed [7] (listed := #[false, false, false, false, false, false, false, false]) rfl (n := 8) rfl h ?_; clear h; intro w7 h
      have hE : Ext w7 w7 := Ext.refl _
      refine tP 0 rfl (fun _ => hE) (fun _ => ex_move (v := (Ptr (⟨b33, 0, none⟩ : Addr))) rfl) <| tP 1 rfl (fun _ => hE) (fun _ => ex_nilCheck (p := (⟨b33, 0, none⟩ : Addr)) rfl) <| tP 2 rfl (fun _ => hE) (fun _ => ex_fa fa148_0 (p := (⟨b33, 0, none⟩ : Addr)) rfl) ?_
      obtain ⟨t49, ht49, h⟩ := h
      refine tK 3 rfl hE (fun _ hw => (fun r => ex_load rfl r) (ht49 _ hw)) <| tP 4 rfl (fun _ => hE) (fun _ => ex_fa fa48_1 (p := (⟨b8, 0, none⟩ : Addr)) rfl) ?_
      obtain ⟨t51, ht51, h⟩ := h
      refine tK 5 rfl hE (fun _ hw => (fun r => ex_load rfl r) (ht51 _ hw)) ?_
      obtain ⟨t52, ht52, h⟩ := h
      refine tK 6 rfl hE (fun _ hw => (fun r => ex_load rfl r) (ht52 _ hw)) <| dr_only (i := 7) (by kernel_rfl) rfl rfl ?_
      refine o_rnu (fun r => ex_mapUpdate rfl rfl rfl r) h ?_; clear h; intro w h; refine ⟨noG (by kernel_rfl), ?_⟩
      refine dr_end (by kernel_rfl) <| inb_n ?_
      exact then_n ⟨(), _, rfl, mk_upds' (ae rfl (ae rfl (ae rfl (ae rfl (ae rfl (ae rfl (ae rfl ae0))))))), h⟩
     ·rw [if_neg hc6] at h; refine cond_0 (b := (decide (t44 = 2))) rfl (decide_eq_false hc6) ?_
      refine wp_skip <| inb_n ?_
      exact then_n ⟨(), _, rfl, mk_upds' (ae rfl (ae rfl (ae rfl (ae rfl (ae rfl (ae rfl (ae rfl ae0))))))), h⟩
   ·rw [if_neg hc4] at h; refine cond_0 (b := (decide (s3 < (t0.n : Int)))) rfl (decide_eq_false hc4) ?_
    refine wp_exit <| then_e <| then_e <| inb_e <| then_n <| seq_ <| region_ ?_
    refine st_newm (ex_makeMap (e_makeMap _)) h ?_; clear h; intro b54 w h
    refine asg (.map (some b54)) rfl <| wl_nil <| then_n <| seq_ <| seq_ <| region_ <| mv (Sl.v t0) rfl <| st_val (ex_len (s := t0) Try.underlying22 rfl) <| mv (.int .i64 0) rfl <| wl_nil ?_
    refine then_n <| wp_block <| wp_lp (σ := Int) (fun s8 a => ∃ j, a = F 142 (upds j [(0, (Sl.v t0)), (3, (Ptr (⟨b3, 0, none⟩ : Addr))), (5, (.map (some b29))), (6, (Ptr (⟨b33, 0, none⟩ : Addr))), (9, (.map (some b54))), (55, (Sl.v t0)), (56, (.int .i64 (t0.n : Int))), (57, (.int .i64 s8))])) h (mk_upds (ae rfl (ae rfl (ae rfl (ae rfl (ae rfl (ae rfl (ae rfl (ae rfl ae0))))))))) ?_
    clear h; rintro s8 _ w n8 ⟨j, rfl⟩ h
    refine seq_ <| region_ <| st_val (ex_lss (a := s8) (b := (t0.n : Int)) rfl rfl) <| wl_nil <| then_n <| seq_ ?_
    by_cases hc9 : s8 < (t0.n : Int)
    ·rw [if_pos hc9] at h; refine cond_1 (b := (decide (s8 < (t0.n : Int)))) rfl (decide_eq_true hc9) ?_
     refine wp_skip <| then_n <| seq_ <| wp_block <| seq_ <| region_ <| mv (.int .i64 s8) rfl ?_
     refine st_rnp (fun r => ex_indexAddr rfl rfl r) h ?_; clear h; intro t60 h
     refine st_rn (fun r => ex_load rfl r) h ?_; clear h; intro t61 w h
     refine st_new (f := (fun b => Ptr ⟨b, 0, none⟩)) (ex_allocN zero48 rfl) h ?_; clear h; intro b11 w h
     refine asg (.int .i64 s8) rfl ?_
     refine st_rnu (fun r => ex_store rfl rfl r) h ?_; clear h; intro w h
     refine wl_nil <| then_n <| seq_ <| region_ ?_
     refine st_rn (fun r => ex_load rfl r) h ?_; clear h; intro t62 w h
     refine mv (.map (some b29)) rfl ?_
     refine st_cal en94 rfl h ?_; clear h; intro t64 w h
     refine asg (.int .i64 t64) rfl <| wl_nil <| then_n <| seq_ <| region_ <| mv (.int .i64 t64) rfl <| st_val (ex_geq (a := t64) (b := 0) rfl rfl) <| wl_nil <| then_n ?_
     by_cases hc10 : 0 ≤ t64
     ·rw [if_pos hc10] at h; refine cond_1 (b := (decide (0 ≤ t64))) rfl (decide_eq_true hc10) ?_
      refine seq_ <| region_ <| mv (.int .i64 s8) rfl <| mv (.int .i64 t64) rfl <| st_val (ex_build (a' := [(0, (.int .i64 s8)), (1, (.int .i64 t64)), (2, (.int .i64 140))]) (v := TFault.v (⟨s8, t64, 140⟩ : TFault)) rfl (e_build Try.underlying80 zero80 rfl pl80 rfl _)) <| asg (Sl.v Sl.nil) rfl ?_
      refine st_rnu (fun r => ex_store rfl rfl r) h ?_; clear h; intro w h
      refine wl_nil <| then_n <| wp_ret <| inb_r <| then_r <| then_r <| inb_r <| then_r ?_
      obtain ⟨r1_2, hr1_2, h⟩ := h
      refine ret_tc rfl rfl rfl hr1_2 ⟨(Sl.nil, r1_2), rfl, h⟩
     ·rw [if_neg hc10] at h; refine cond_0 (b := (decide (0 ≤ t64))) rfl (decide_eq_false hc10) ?_
      refine wp_skip <| inb_n <| then_n <| region_ <| st_val (ex_add (a := s8) (b := 1) rfl rfl) <| mv (.int .i64 (IntKind.i64.wrap (s8 + 1))) rfl <| wl_nil ?_
      exact then_n ⟨(IntKind.i64.wrap (s8 + 1)), mk_upds (ae rfl (ae rfl (ae rfl (ae rfl (ae rfl (ae rfl (ae rfl (ae rfl ae0)))))))), h⟩
    ·rw [if_neg hc9] at h; refine cond_0 (b := (decide (s8 < (t0.n : Int)))) rfl (decide_eq_false hc9) ?_
     refine wp_exit <| then_e <| then_e <| inb_e <| then_n <| seq_ <| seq_ <| region_ <| mv (Sl.v t0) rfl <| st_val (ex_len (s := t0) Try.underlying22 rfl) ?_
     refine mv (.int .i64 0) rfl <| wl_nil <| then_n <| wp_block <| wp_lp (σ := Int) (fun s11 a => ∃ j, a = F 142 (upds j [(0, (Sl.v t0)), (3, (Ptr (⟨b3, 0, none⟩ : Addr))), (6, (Ptr (⟨b33, 0, none⟩ : Addr))), (9, (.map (some b54))), (71, (Sl.v t0)), (72, (.int .i64 (t0.n : Int))), (73, (.int .i64 s11))])) h (mk_upds (ae rfl (ae rfl (ae rfl (ae rfl (ae rfl (ae rfl (ae rfl ae0)))))))) ?_
     clear h; rintro s11 _ w n11 ⟨j, rfl⟩ h
     refine seq_ <| region_ <| st_val (ex_lss (a := s11) (b := (t0.n : Int)) rfl rfl) <| wl_nil <| then_n <| seq_ ?_
     by_cases hc12 : s11 < (t0.n : Int)
     ·rw [if_pos hc12] at h; refine cond_1 (b := (decide (s11 < (t0.n : Int)))) rfl (decide_eq_true hc12) ?_
      refine wp_skip <| then_n ?_
      refine wp_jn (σ := Unit) (fun s13 l => ∃ j, l = upds j [(0, (Sl.v t0)), (3, (Ptr (⟨b3, 0, none⟩ : Addr))), (6, (Ptr (⟨b33, 0, none⟩ : Addr))), (9, (.map (some b54))), (71, (Sl.v t0)), (72, (.int .i64 (t0.n : Int))), (73, (.int .i64 s11))]) h ?_ ?_
      ·clear h; rintro s13 _ w ⟨j, rfl⟩ h
       refine region_ <| st_val (ex_add (a := s11) (b := 1) rfl rfl) <| mv (.int .i64 (IntKind.i64.wrap (s11 + 1))) rfl <| wl_nil ?_
       exact then_n ⟨(IntKind.i64.wrap (s11 + 1)), mk_upds (ae rfl (ae rfl (ae rfl (ae rfl (ae rfl (ae rfl (ae rfl ae0))))))), h⟩
      ·clear h; intro k13 h
       refine wp_block <| seq_ <| region_ <| mv (.int .i64 s11) rfl ?_
       refine st_rnp (fun r => ex_indexAddr rfl rfl r) h ?_; clear h; intro t76 h
       refine st_rn (fun r => ex_load rfl r) h ?_; clear h; intro t77 w h
       refine st_new (f := (fun b => Ptr ⟨b, 0, none⟩)) (ex_allocN zero48 rfl) h ?_; clear h; intro b14 w h
       refine asg (.int .i64 s11) rfl ?_
       refine st_rnu (fun r => ex_store rfl rfl r) h ?_; clear h; intro w h
       refine wl_nil <| then_n <| seq_ ?_
       refine wp_jn (σ := Bool) (fun s14 l => ∃ j, l = upds j [(0, (Sl.v t0)), (3, (Ptr (⟨b3, 0, none⟩ : Addr))), (6, (Ptr (⟨b33, 0, none⟩ : Addr))), (9, (.map (some b54))), (13, (.int .i64 s11)), (14, (Ptr (⟨b14, 0, none⟩ : Addr))), (71, (Sl.v t0)), (72, (.int .i64 (t0.n : Int))), (73, (.int .i64 s11)), (86, (.bool s14))]) h ?_ ?_
       ·clear h; rintro s14 _ w ⟨j, rfl⟩ h
        by_cases hc16 : s14 = true
        ·rw [if_pos hc16] at h; refine cond_1 (b := s14) rfl hc16 ?_
         refine seq_ <| region_ <| mv (.int .i64 s11) rfl <| st_val (ex_build (a' := [(0, (.int .i64 s11)), (2, (.int .i64 141))]) (v := TFault.v (⟨s11, 0, 141⟩ : TFault)) rfl (e_build Try.underlying80 zero80 rfl pl80 rfl _)) <| asg (Sl.v Sl.nil) rfl ?_
         refine st_rnu (fun r => ex_store rfl rfl r) h ?_; clear h; intro w h
         refine wl_nil <| then_n <| wp_ret <| then_r <| inb_r <| then_r <| then_r <| inb_r <| then_r ?_
         obtain ⟨r1_3, hr1_3, h⟩ := h
         refine ret_tc rfl rfl rfl hr1_3 ⟨(Sl.nil, r1_3), rfl, h⟩
        ·rw [if_neg hc16] at h; refine cond_0 (b := s14) rfl (Bool.eq_false_iff.2 hc16) ?_
         refine wp_skip <| then_n <| region_ <| mv (.map (some b54)) rfl <| st_val (ex_fa fa48_4 (p := (⟨b14, 0, none⟩ : Addr)) rfl) ?_
         refine st_rn (fun r => ex_load rfl r) h ?_; clear h; intro t91 w h
         refine mv (.map (some b54)) rfl <| st_val (ex_fa fa48_4 (p := (⟨b14, 0, none⟩ : Addr)) rfl) ?_
         refine st_rn (fun r => ex_load rfl r) h ?_; clear h; intro t94 w h
         refine st_rn (fun r => ex_lookup rfl rfl r) h ?_; clear h; intro t95 w h
         refine mv (.bool t95) rfl ?_
         by_cases hc17 : t95 = true
         ·rw [if_pos hc17] at h
          refine sOff 96 hc17 rfl rfl <| sOff 96 hc17 rfl rfl <| sOff 96 hc17 rfl rfl <| st_val (ex_pick1 (b := t95) rfl hc17 (v := (.bool true)) rfl) ?_
          refine st_rnu (fun r => ex_mapUpdate rfl rfl rfl r) h ?_; clear h; intro w h
          refine wl_nil <| inb_n ?_
          exact then_n ⟨(), _, rfl, mk_upds' (ae rfl (ae rfl (ae rfl (ae rfl (ae rfl (ae rfl (ae rfl ae0))))))), h⟩
         ·rw [if_neg hc17] at h
          refine sOn 96 (Bool.eq_false_iff.2 hc17) rfl rfl <| st_val (ex_fa fa48_0 (p := (⟨b14, 0, none⟩ : Addr)) rfl) <| sOn 96 (Bool.eq_false_iff.2 hc17) rfl rfl ?_
          refine st_rn (fun r => ex_load rfl r) h ?_; clear h; intro t98 w h
          refine sOn 96 (Bool.eq_false_iff.2 hc17) rfl rfl <| st_val (ex_eql (a := t98) (b := 3) rfl rfl) <| st_val (ex_pick0 (b := t95) rfl (Bool.eq_false_iff.2 hc17) (v := (.bool (decide (t98 = 3)))) rfl) ?_
          refine st_rnu (fun r => ex_mapUpdate rfl rfl rfl r) h ?_; clear h; intro w h
          refine wl_nil <| inb_n ?_
          exact then_n ⟨(), _, rfl, mk_upds' (ae rfl (ae rfl (ae rfl (ae rfl (ae rfl (ae rfl (ae rfl ae0))))))), h⟩
       ·clear h; intro k14 h
        refine region_ <| st_val (ex_fa fa48_0 (p := (⟨b14, 0, none⟩ : Addr)) rfl) ?_
        refine st_rn (fun r => ex_load rfl r) h ?_; clear h; intro t79 w h
        refine st_val (ex_eql (a := t79) (b := 3) rfl rfl) <| mv (.bool (decide (t79 = 3))) rfl ?_
        by_cases hc15 : t79 = 3
        ·rw [if_pos hc15] at h
         refine sOn 81 (decide_eq_true hc15) rfl rfl <| mv (.map (some b54)) rfl <| sOn 81 (decide_eq_true hc15) rfl rfl <| st_val (ex_fa fa48_4 (p := (⟨b14, 0, none⟩ : Addr)) rfl) <| sOn 81 (decide_eq_true hc15) rfl rfl ?_
         refine st_rn (fun r => ex_load rfl r) h ?_; clear h; intro t84 w h
         refine sOn 81 (decide_eq_true hc15) rfl rfl ?_
         refine st_rn (fun r => ex_lookup rfl rfl r) h ?_; clear h; intro t85 w h
         refine st_val (ex_pick1 (b := (decide (t79 = 3))) rfl (decide_eq_true hc15) (v := (.bool t85)) rfl) <| wl_nil ?_
         exact then_n ⟨t85, _, rfl, mk_upds' (ae rfl (ae rfl (ae rfl (ae rfl (ae rfl (ae rfl (ae rfl (ae rfl (ae rfl (ae rfl ae0)))))))))), h⟩
        ·rw [if_neg hc15] at h
         refine sOff 81 (decide_eq_false hc15) rfl rfl <| sOff 81 (decide_eq_false hc15) rfl rfl <| sOff 81 (decide_eq_false hc15) rfl rfl <| sOff 81 (decide_eq_false hc15) rfl rfl <| st_val (ex_pick0 (b := (decide (t79 = 3))) rfl (decide_eq_false hc15) (v := (.bool false)) rfl) <| wl_nil ?_
         exact then_n ⟨false, _, rfl, mk_upds' (ae rfl (ae rfl (ae rfl (ae rfl (ae rfl (ae rfl (ae rfl (ae rfl (ae rfl (ae rfl ae0)))))))))), h⟩
     ·rw [if_neg hc12] at h; refine cond_0 (b := (decide (s11 < (t0.n : Int)))) rfl (decide_eq_false hc12) ?_
      refine wp_exit <| then_e <| then_e <| inb_e <| then_n <| seq_ <| seq_ <| region_ <| mv (Sl.v t0) rfl <| st_val (ex_len (s := t0) Try.underlying22 rfl) ?_
      refine mv (.int .i64 0) rfl <| wl_nil <| then_n <| wp_block <| wp_lp (σ := Int) (fun s18 a => ∃ j, a = F 142 (upds j [(0, (Sl.v t0)), (3, (Ptr (⟨b3, 0, none⟩ : Addr))), (6, (Ptr (⟨b33, 0, none⟩ : Addr))), (102, (Sl.v t0)), (103, (.int .i64 (t0.n : Int))), (104, (.int .i64 s18))])) h (mk_upds (ae rfl (ae rfl (ae rfl (ae rfl (ae rfl (ae rfl ae0))))))) ?_
      clear h; rintro s18 _ w n18 ⟨j, rfl⟩ h
      refine seq_ <| region_ <| st_val (ex_lss (a := s18) (b := (t0.n : Int)) rfl rfl) <| wl_nil <| then_n <| seq_ ?_
      by_cases hc19 : s18 < (t0.n : Int)
      ·rw [if_pos hc19] at h; refine cond_1 (b := (decide (s18 < (t0.n : Int)))) rfl (decide_eq_true hc19) ?_
       refine wp_skip <| then_n <| seq_ <| wp_block <| seq_ <| region_ <| mv (.int .i64 s18) rfl ?_
       refine st_rnp (fun r => ex_indexAddr rfl rfl r) h ?_; clear h; intro t107 h
       refine st_rn (fun r => ex_load rfl r) h ?_; clear h; intro t108 w h
       refine st_new (f := (fun b => Ptr ⟨b, 0, none⟩)) (ex_allocN zero48 rfl) h ?_; clear h; intro b16 w h
       refine asg (.int .i64 s18) rfl ?_
       refine st_rnu (fun r => ex_store rfl rfl r) h ?_; clear h; intro w h
       refine wl_nil <| then_n ?_
       refine wp_jn (σ := Bool) (fun s20 l => ∃ j, l = upds j [(0, (Sl.v t0)), (3, (Ptr (⟨b3, 0, none⟩ : Addr))), (6, (Ptr (⟨b33, 0, none⟩ : Addr))), (15, (.int .i64 s18)), (102, (Sl.v t0)), (103, (.int .i64 (t0.n : Int))), (104, (.int .i64 s18)), (115, (.bool s20))]) h ?_ ?_
       ·clear h; rintro s20 _ w ⟨j, rfl⟩ h
        by_cases hc22 : s20 = true
        ·rw [if_pos hc22] at h; refine cond_1 (b := s20) rfl hc22 ?_
         refine seq_ <| region_ <| mv (.int .i64 s18) rfl <| st_val (ex_build (a' := [(0, (.int .i64 s18)), (2, (.int .i64 142))]) (v := TFault.v (⟨s18, 0, 142⟩ : TFault)) rfl (e_build Try.underlying80 zero80 rfl pl80 rfl _)) <| asg (Sl.v Sl.nil) rfl ?_
         refine st_rnu (fun r => ex_store rfl rfl r) h ?_; clear h; intro w h
         refine wl_nil <| then_n <| wp_ret <| inb_r <| then_r <| then_r <| inb_r <| then_r ?_
         obtain ⟨r1_4, hr1_4, h⟩ := h
         refine ret_tc rfl rfl rfl hr1_4 ⟨(Sl.nil, r1_4), rfl, h⟩
        ·rw [if_neg hc22] at h; refine cond_0 (b := s20) rfl (Bool.eq_false_iff.2 hc22) ?_
         refine wp_skip <| inb_n <| then_n <| region_ <| st_val (ex_add (a := s18) (b := 1) rfl rfl) <| mv (.int .i64 (IntKind.i64.wrap (s18 + 1))) rfl <| wl_nil ?_
         exact then_n ⟨(IntKind.i64.wrap (s18 + 1)), mk_upds (ae rfl (ae rfl (ae rfl (ae rfl (ae rfl (ae rfl ae0)))))), h⟩
       ·clear h; intro k20 h
        refine region_ <| st_val (ex_fa fa48_0 (p := (⟨b16, 0, none⟩ : Addr)) rfl) ?_
        refine st_rn (fun r => ex_load rfl r) h ?_; clear h; intro t110 w h
        refine st_val (ex_eql (a := t110) (b := 2) rfl rfl) <| mv (.bool (decide (t110 = 2))) rfl ?_
        by_cases hc21 : t110 = 2
        ·rw [if_pos hc21] at h
         refine sOn 112 (decide_eq_true hc21) rfl rfl ?_
         refine st_rn (fun r => ex_load rfl r) h ?_; clear h; intro t113 w h
         refine sOn 112 (decide_eq_true hc21) rfl rfl ?_
         refine st_cal en95 rfl h ?_; clear h; intro t114 w h
         refine st_val (ex_pick1 (b := (decide (t110 = 2))) rfl (decide_eq_true hc21) (v := (.bool t114)) rfl) <| wl_nil ?_
         exact then_n ⟨t114, _, rfl, mk_upds' (ae rfl (ae rfl (ae rfl (ae rfl (ae rfl (ae rfl (ae rfl (ae rfl ae0)))))))), h⟩
        ·rw [if_neg hc21] at h
         refine sOff 112 (decide_eq_false hc21) rfl rfl <| sOff 112 (decide_eq_false hc21) rfl rfl <| st_val (ex_pick0 (b := (decide (t110 = 2))) rfl (decide_eq_false hc21) (v := (.bool false)) rfl) <| wl_nil ?_
         exact then_n ⟨false, _, rfl, mk_upds' (ae rfl (ae rfl (ae rfl (ae rfl (ae rfl (ae rfl (ae rfl (ae rfl ae0)))))))), h⟩
      ·rw [if_neg hc19] at h; refine cond_0 (b := (decide (s18 < (t0.n : Int)))) rfl (decide_eq_false hc19) ?_
       refine wp_exit <| then_e <| then_e <| inb_e <| then_n <| seq_ <| seq_ <| region_ <| mv (Sl.v t0) rfl <| st_val (ex_len (s := t0) Try.underlying22 rfl) ?_
       refine mv (.int .i64 0) rfl <| wl_nil <| then_n <| wp_block <| wp_lp (σ := Int) (fun s23 a => ∃ j, a = F 142 (upds j [(0, (Sl.v t0)), (3, (Ptr (⟨b3, 0, none⟩ : Addr))), (6, (Ptr (⟨b33, 0, none⟩ : Addr))), (119, (Sl.v t0)), (120, (.int .i64 (t0.n : Int))), (121, (.int .i64 s23))])) h (mk_upds (ae rfl (ae rfl (ae rfl (ae rfl (ae rfl (ae rfl ae0))))))) ?_
       clear h; rintro s23 _ w n23 ⟨j, rfl⟩ h
       refine seq_ <| region_ <| st_val (ex_lss (a := s23) (b := (t0.n : Int)) rfl rfl) <| wl_nil <| then_n <| seq_ ?_
       by_cases hc24 : s23 < (t0.n : Int)
       ·rw [if_pos hc24] at h; refine cond_1 (b := (decide (s23 < (t0.n : Int)))) rfl (decide_eq_true hc24) ?_
        refine wp_skip <| then_n <| seq_ <| wp_block <| seq_ <| region_ <| mv (.int .i64 s23) rfl ?_
        refine st_rnp (fun r => ex_indexAddr rfl rfl r) h ?_; clear h; intro t124 h
        refine st_rn (fun r => ex_load rfl r) h ?_; clear h; intro t125 w h
        refine st_new (f := (fun b => Ptr ⟨b, 0, none⟩)) (ex_allocN zero48 rfl) h ?_; clear h; intro b18 w h
        refine asg (.int .i64 s23) rfl ?_
        refine st_rnu (fun r => ex_store rfl rfl r) h ?_; clear h; intro w h
        refine wl_nil <| then_n ?_
        refine wp_jn (σ := Bool) (fun s25 l => ∃ j, l = upds j [(0, (Sl.v t0)), (3, (Ptr (⟨b3, 0, none⟩ : Addr))), (6, (Ptr (⟨b33, 0, none⟩ : Addr))), (17, (.int .i64 s23)), (119, (Sl.v t0)), (120, (.int .i64 (t0.n : Int))), (121, (.int .i64 s23)), (135, (.bool s25))]) h ?_ ?_
        ·clear h; rintro s25 _ w ⟨j, rfl⟩ h
         by_cases hc27 : s25 = true
         ·rw [if_pos hc27] at h; refine cond_1 (b := s25) rfl hc27 ?_
          refine seq_ <| region_ <| mv (.int .i64 s23) rfl <| st_val (ex_build (a' := [(0, (.int .i64 s23)), (2, (.int .i64 143))]) (v := TFault.v (⟨s23, 0, 143⟩ : TFault)) rfl (e_build Try.underlying80 zero80 rfl pl80 rfl _)) <| asg (Sl.v Sl.nil) rfl ?_
          refine st_rnu (fun r => ex_store rfl rfl r) h ?_; clear h; intro w h
          refine wl_nil <| then_n <| wp_ret <| inb_r <| then_r <| then_r <| inb_r <| then_r ?_
          obtain ⟨r1_5, hr1_5, h⟩ := h
          refine ret_tc rfl rfl rfl hr1_5 ⟨(Sl.nil, r1_5), rfl, h⟩
         ·rw [if_neg hc27] at h; refine cond_0 (b := s25) rfl (Bool.eq_false_iff.2 hc27) ?_
          refine wp_skip <| inb_n <| then_n <| region_ <| st_val (ex_add (a := s23) (b := 1) rfl rfl) <| mv (.int .i64 (IntKind.i64.wrap (s23 + 1))) rfl <| wl_nil ?_
          exact then_n ⟨(IntKind.i64.wrap (s23 + 1)), mk_upds (ae rfl (ae rfl (ae rfl (ae rfl (ae rfl (ae rfl ae0)))))), h⟩
        ·clear h; intro k25 h
         refine region_ <| st_val (ex_fa fa48_0 (p := (⟨b18, 0, none⟩ : Addr)) rfl) ?_
         refine st_rn (fun r => ex_load rfl r) h ?_; clear h; intro t127 w h
         refine st_val (ex_eql (a := t127) (b := 2) rfl rfl) <| mv (.bool (decide (t127 = 2))) rfl ?_
         by_cases hc26 : t127 = 2
         ·rw [if_pos hc26] at h
          refine sOn 129 (decide_eq_true hc26) rfl rfl <| mv (Ptr (⟨b33, 0, none⟩ : Addr)) rfl <| sOn 129 (decide_eq_true hc26) rfl rfl <| st_val (ex_fa fa48_1 (p := (⟨b18, 0, none⟩ : Addr)) rfl) <| sOn 129 (decide_eq_true hc26) rfl rfl ?_
          refine st_rn (fun r => ex_load rfl r) h ?_; clear h; intro t132 w h
          refine sOn 129 (decide_eq_true hc26) rfl rfl ?_
          refine st_cal en96 rfl h ?_; clear h; intro t133 w h
          refine sOn 129 (decide_eq_true hc26) rfl rfl <| st_val (ex_gtr (a := t133) (b := 8) rfl rfl) <| st_val (ex_pick1 (b := (decide (t127 = 2))) rfl (decide_eq_true hc26) (v := (.bool (decide (8 < t133)))) rfl) <| wl_nil ?_
          exact then_n ⟨(decide (8 < t133)), _, rfl, mk_upds' (ae rfl (ae rfl (ae rfl (ae rfl (ae rfl (ae rfl (ae rfl (ae rfl ae0)))))))), h⟩
         ·rw [if_neg hc26] at h
          refine sOff 129 (decide_eq_false hc26) rfl rfl <| sOff 129 (decide_eq_false hc26) rfl rfl <| sOff 129 (decide_eq_false hc26) rfl rfl <| sOff 129 (decide_eq_false hc26) rfl rfl <| sOff 129 (decide_eq_false hc26) rfl rfl <| st_val (ex_pick0 (b := (decide (t127 = 2))) rfl (decide_eq_false hc26) (v := (.bool false)) rfl) <| wl_nil ?_
          exact then_n ⟨false, _, rfl, mk_upds' (ae rfl (ae rfl (ae rfl (ae rfl (ae rfl (ae rfl (ae rfl (ae rfl ae0)))))))), h⟩
       ·rw [if_neg hc24] at h; refine cond_0 (b := (decide (s23 < (t0.n : Int)))) rfl (decide_eq_false hc24) ?_
        refine wp_exit <| then_e <| then_e <| inb_e <| then_n <| seq_ <| region_ <| mv (Sl.v t0) rfl ?_
        refine st_cal en97 rfl h ?_; clear h; intro t140 w h
        refine st_val (ex_build (a' := []) (v := TFault.v (⟨0, 0, 0⟩ : TFault)) rfl (e_build Try.underlying80 zero80 rfl pl80 rfl _)) <| asg (Sl.v t140) rfl ?_
        refine st_rnu (fun r => ex_store rfl rfl r) h ?_; clear h; intro w h
        refine wl_nil <| then_n <| wp_ret ?_
        obtain ⟨r1_6, hr1_6, h⟩ := h
        refine ret_tc rfl rfl rfl hr1_6 ⟨(t140, r1_6), rfl, h⟩

def f47 (t0 : TResource) (t1 : TResource) (R : (Bool) → World → Prop) (w : World) : Prop :=
 New 48 (TResource.cells t0) w fun b2 w =>
 New 48 (TResource.cells t1) w fun b3 w =>
 Jn (σ := Bool) (fun k1 =>
  Rn Try.prog (Value.int .i64) (Instr.loadAt 3 (Ptr ((⟨b2, 0, none⟩ : Addr).add 0))) w fun t6 w =>
  Rn Try.prog (Value.int .i64) (Instr.loadAt 3 (Ptr ((⟨b3, 0, none⟩ : Addr).add 0))) w fun t8 w =>
  if t6 < t8 then
   k1 true w
  else
   Rn Try.prog (Value.int .i64) (Instr.loadAt 3 (Ptr ((⟨b2, 0, none⟩ : Addr).add 0))) w fun t12 w =>
   Rn Try.prog (Value.int .i64) (Instr.loadAt 3 (Ptr ((⟨b3, 0, none⟩ : Addr).add 0))) w fun t14 w =>
   if t12 = t14 then
    Rn Try.prog Value.string (Instr.loadAt 9 (Ptr ((⟨b2, 0, none⟩ : Addr).add 1))) w fun t18 w =>
    Rn Try.prog Value.string (Instr.loadAt 9 (Ptr ((⟨b3, 0, none⟩ : Addr).add 1))) w fun t20 w =>
    k1 (sLt t18 t20) w
   else
    k1 false w
 ) fun s1 w =>
  R s1 w
theorem c47 {t0 : TResource} {t1 : TResource} {R : (Bool) → World → Prop} {w : World} (h : f47 t0 t1 R w) :
  Cal Try.prog Value.bool 47 #[(TResource.v t0), (TResource.v t1)] w R := by
 unfold f47 at h
 refine calls_ Try.func47 Try.ntmps47 rfl rfl <| seq_ <| region_ ?_
 refine st_new (f := (fun b => Ptr ⟨b, 0, none⟩)) (ex_boxN rfl rfl) h ?_; clear h; intro b2 w h
 refine st_new (f := (fun b => Ptr ⟨b, 0, none⟩)) (ex_boxN rfl rfl) h ?_; clear h; intro b3 w h
 refine asg (.bool false) rfl <| wl_nil <| then_n ?_
 refine wp_jn (σ := Bool) (fun s1 l => ∃ j, l = upds j [(4, (.bool s1))]) h ?_ ?_
 ·clear h; rintro s1 _ w ⟨j, rfl⟩ h
  refine wp_ret ?_
  refine ret_1 rfl rfl ⟨s1, rfl, h⟩
 ·clear h; intro k1 h
  refine region_ <| st_val (ex_fa fa48_0 (p := (⟨b2, 0, none⟩ : Addr)) rfl) ?_
  refine st_rn (fun r => ex_load rfl r) h ?_; clear h; intro t6 w h
  refine st_val (ex_fa fa48_0 (p := (⟨b3, 0, none⟩ : Addr)) rfl) ?_
  refine st_rn (fun r => ex_load rfl r) h ?_; clear h; intro t8 w h
  refine st_val (ex_lss (a := t6) (b := t8) rfl rfl) <| mv (.bool (decide (t6 < t8))) rfl ?_
  by_cases hc2 : t6 < t8
  ·rw [if_pos hc2] at h
   refine sOff 10 (decide_eq_true hc2) rfl rfl <| sOff 10 (decide_eq_true hc2) rfl rfl <| sOff 10 (decide_eq_true hc2) rfl rfl <| sOff 10 (decide_eq_true hc2) rfl rfl <| sOff 10 (decide_eq_true hc2) rfl rfl <| sOff 10 (decide_eq_true hc2) rfl rfl <| st_offu (t := 16) rfl rfl <| st_offu (t := 16) rfl rfl <| st_offu (t := 16) rfl rfl <| st_offu (t := 16) rfl rfl ?_
   refine st_offu (t := 16) rfl rfl <| sOff 10 (decide_eq_true hc2) rfl rfl <| st_val (ex_pick1 (b := (decide (t6 < t8))) rfl (decide_eq_true hc2) (v := (.bool true)) rfl) <| asg (.bool true) rfl <| wl_nil ?_
   exact then_n ⟨true, _, rfl, mk_upds' (ae rfl ae0), h⟩
  ·rw [if_neg hc2] at h
   refine sOn 10 (decide_eq_false hc2) rfl rfl <| st_val (ex_fa fa48_0 (p := (⟨b2, 0, none⟩ : Addr)) rfl) <| sOn 10 (decide_eq_false hc2) rfl rfl ?_
   refine st_rn (fun r => ex_load rfl r) h ?_; clear h; intro t12 w h
   refine sOn 10 (decide_eq_false hc2) rfl rfl <| st_val (ex_fa fa48_0 (p := (⟨b3, 0, none⟩ : Addr)) rfl) <| sOn 10 (decide_eq_false hc2) rfl rfl ?_
   refine st_rn (fun r => ex_load rfl r) h ?_; clear h; intro t14 w h
   refine sOn 10 (decide_eq_false hc2) rfl rfl <| st_val (ex_eql (a := t12) (b := t14) rfl rfl) <| sOn 10 (decide_eq_false hc2) rfl rfl <| mv (.bool (decide (t12 = t14))) rfl ?_
   by_cases hc3 : t12 = t14
   ·rw [if_pos hc3] at h
    refine sOn 16 (decide_eq_true hc3) rfl rfl <| st_val (ex_fa fa48_1 (p := (⟨b2, 0, none⟩ : Addr)) rfl) <| sOn 16 (decide_eq_true hc3) rfl rfl ?_
    refine st_rn (fun r => ex_load rfl r) h ?_; clear h; intro t18 w h
    refine sOn 16 (decide_eq_true hc3) rfl rfl <| st_val (ex_fa fa48_1 (p := (⟨b3, 0, none⟩ : Addr)) rfl) <| sOn 16 (decide_eq_true hc3) rfl rfl ?_
    refine st_rn (fun r => ex_load rfl r) h ?_; clear h; intro t20 w h
    refine sOn 16 (decide_eq_true hc3) rfl rfl <| st_val (ex_lssS (a := t18) (b := t20) rfl rfl) <| sOn 10 (decide_eq_false hc2) rfl rfl <| st_val (ex_pick1 (b := (decide (t12 = t14))) rfl (decide_eq_true hc3) (v := (.bool (sLt t18 t20))) rfl) <| st_val (ex_pick0 (b := (decide (t6 < t8))) rfl (decide_eq_false hc2) (v := (.bool (sLt t18 t20))) rfl) <| asg (.bool (sLt t18 t20)) rfl <| wl_nil ?_
    exact then_n ⟨(sLt t18 t20), _, rfl, mk_upds' (ae rfl ae0), h⟩
   ·rw [if_neg hc3] at h
    refine sOff 16 (decide_eq_false hc3) rfl rfl <| sOff 16 (decide_eq_false hc3) rfl rfl <| sOff 16 (decide_eq_false hc3) rfl rfl <| sOff 16 (decide_eq_false hc3) rfl rfl <| sOff 16 (decide_eq_false hc3) rfl rfl <| sOn 10 (decide_eq_false hc2) rfl rfl <| st_val (ex_pick0 (b := (decide (t12 = t14))) rfl (decide_eq_false hc3) (v := (.bool false)) rfl) <| st_val (ex_pick0 (b := (decide (t6 < t8))) rfl (decide_eq_false hc2) (v := (.bool false)) rfl) <| asg (.bool false) rfl <| wl_nil ?_
    exact then_n ⟨false, _, rfl, mk_upds' (ae rfl ae0), h⟩

def f53 (t0 : Sl) (t1 : Value) (R : (Bool) → World → Prop) (w : World) : Prop :=
 Cal Try.prog (Value.int .i64) 98 #[(Sl.v t0), t1] w fun t7 w =>
 R (decide (0 ≤ t7)) w
def f54 (t0 : Sl) (t1 : Int) (R : (Sl) → World → Prop) (w : World) : Prop :=
 Lp (σ := Sl × Int) (fun s1 w n1 =>
  if s1.2 < (t0.n : Int) then
   Jn (σ := Sl) (fun k3 =>
    RnP Try.prog Ptr (Instr.indexAt 22 (Sl.v t0) (.int .i64 s1.2)) fun t12 =>
    Rn Try.prog TResource.v (Instr.loadAt 48 (Ptr t12)) w fun t13 w =>
    New 48 (TResource.cells (⟨0, ⟨#[]⟩, Sl.nil, Sl.nil, ⟨#[]⟩, Sl.nil, ⟨#[]⟩, false⟩ : TResource)) w fun b7 w =>
    RnU Try.prog (Instr.storeAt 48 (Ptr (⟨b7, 0, none⟩ : Addr)) (TResource.v t13)) w fun w =>
    Rn Try.prog (Value.int .i64) (Instr.loadAt 3 (Ptr ((⟨b7, 0, none⟩ : Addr).add 0))) w fun t15 w =>
    if t15 = t1 then
     Rn Try.prog TResource.v (Instr.loadAt 48 (Ptr (⟨b7, 0, none⟩ : Addr))) w fun t19 w =>
     New 48 ((TResource.cells t19)) w fun b20 w =>
     Rn Try.prog Sl.v (Builtin.append_ #[22, 22] 22 #[(Sl.v s1.1), (Sl.v (⟨some ⟨b20, 0, none⟩, 1, 1⟩ : Sl))]) w fun t21 w =>
     k3 t21 w
    else
     k3 s1.1 w
   ) fun s3 w =>
    n1 (s3, (IntKind.i64.wrap (s1.2 + 1))) w
  else
   R s1.1 w
 ) (Sl.nil, 0) w
theorem c54 {t0 : Sl} {t1 : Int} {R : (Sl) → World → Prop} {w : World} (h : f54 t0 t1 R w) :
  Cal Try.prog Sl.v 54 #[(Sl.v t0), (.int .i64 t1)] w R := by
 unfold f54 at h
 refine calls_ Try.func54 Try.ntmps54 rfl rfl <| seq_ <| region_ <| asg (Sl.v Sl.nil) rfl <| wl_nil <| then_n <| seq_ <| region_ <| asg (Sl.v Sl.nil) rfl <| wl_nil ?_
 refine then_n <| seq_ <| seq_ <| region_ <| mv (Sl.v t0) rfl <| st_val (ex_len (s := t0) Try.underlying22 rfl) <| mv (.int .i64 0) rfl <| wl_nil <| then_n <| wp_block ?_
 refine wp_lp (σ := Sl × Int) (fun s1 a => ∃ j, a = F 24 (upds j [(1, (.int .i64 t1)), (5, (Sl.v s1.1)), (8, (Sl.v t0)), (9, (.int .i64 (t0.n : Int))), (10, (.int .i64 s1.2))])) h (mk_upds (ae rfl (ae rfl (ae rfl (ae rfl (ae rfl ae0)))))) ?_
 clear h; rintro s1 _ w n1 ⟨j, rfl⟩ h
 refine seq_ <| region_ <| st_val (ex_lss (a := s1.2) (b := (t0.n : Int)) rfl rfl) <| wl_nil <| then_n <| seq_ ?_
 by_cases hc2 : s1.2 < (t0.n : Int)
 ·rw [if_pos hc2] at h; refine cond_1 (b := (decide (s1.2 < (t0.n : Int)))) rfl (decide_eq_true hc2) ?_
  refine wp_skip <| then_n ?_
  refine wp_jn (σ := Sl) (fun s3 l => ∃ j, l = upds j [(1, (.int .i64 t1)), (5, (Sl.v s3)), (8, (Sl.v t0)), (9, (.int .i64 (t0.n : Int))), (10, (.int .i64 s1.2))]) h ?_ ?_
  ·clear h; rintro s3 _ w ⟨j, rfl⟩ h
   refine region_ <| st_val (ex_add (a := s1.2) (b := 1) rfl rfl) <| mv (.int .i64 (IntKind.i64.wrap (s1.2 + 1))) rfl <| wl_nil ?_
   exact then_n ⟨(s3, (IntKind.i64.wrap (s1.2 + 1))), mk_upds (ae rfl (ae rfl (ae rfl (ae rfl (ae rfl ae0))))), h⟩
  ·clear h; intro k3 h
   refine wp_block <| seq_ <| region_ ?_
   refine st_rnp (fun r => ex_indexAddr rfl rfl r) h ?_; clear h; intro t12 h
   refine st_rn (fun r => ex_load rfl r) h ?_; clear h; intro t13 w h
   refine st_new (f := (fun b => Ptr ⟨b, 0, none⟩)) (ex_allocN zero48 rfl) h ?_; clear h; intro b7 w h
   refine st_rnu (fun r => ex_store rfl rfl r) h ?_; clear h; intro w h
   refine wl_nil <| then_n <| seq_ <| region_ <| st_val (ex_fa fa48_0 (p := (⟨b7, 0, none⟩ : Addr)) rfl) ?_
   refine st_rn (fun r => ex_load rfl r) h ?_; clear h; intro t15 w h
   refine mv (.int .i64 t1) rfl <| st_val (ex_eql (a := t15) (b := t1) rfl rfl) <| wl_nil <| then_n ?_
   by_cases hc4 : t15 = t1
   ·rw [if_pos hc4] at h; refine cond_1 (b := (decide (t15 = t1))) rfl (decide_eq_true hc4) ?_
    refine region_ <| mv (Sl.v s1.1) rfl ?_
    refine st_rn (fun r => ex_load rfl r) h ?_; clear h; intro t19 w h
    refine st_new (f := (fun b => Sl.v ⟨some ⟨b, 0, none⟩, 1, 1⟩)) (ex_buildSlice (a' := [(0, (TResource.v t19))]) rfl (e_buildSlice (cs := ((TResource.cells t19))) Try.underlying22 info48 iz48 (by decide +kernel) (by decide +kernel) (by kernel_rfl) _)) h ?_; clear h; intro b20 w h
    refine st_rn (fun r => ex_builtin rfl (fun _ => rfl) r) h ?_; clear h; intro t21 w h
    refine asg (Sl.v t21) rfl <| wl_nil <| inb_n ?_
    exact then_n ⟨t21, _, rfl, mk_upds' (ae rfl (ae rfl (ae rfl (ae rfl (ae rfl ae0))))), h⟩
   ·rw [if_neg hc4] at h; refine cond_0 (b := (decide (t15 = t1))) rfl (decide_eq_false hc4) ?_
    refine wp_skip <| inb_n ?_
    exact then_n ⟨s1.1, _, rfl, mk_upds' (ae rfl (ae rfl (ae rfl (ae rfl (ae rfl ae0))))), h⟩
 ·rw [if_neg hc2] at h; refine cond_0 (b := (decide (s1.2 < (t0.n : Int)))) rfl (decide_eq_false hc2) ?_
  refine wp_exit <| then_e <| then_e <| inb_e <| then_n <| seq_ <| region_ <| mv (Sl.v s1.1) rfl <| asg (Sl.v s1.1) rfl <| wl_nil ?_
  refine then_n <| wp_ret ?_
  refine ret_1 rfl rfl ⟨s1.1, rfl, h⟩

def f55 (t0 : TResource) (t1 : Addr) (R : (Bool) → World → Prop) (w : World) : Prop :=
 New 48 (TResource.cells t0) w fun b2 w =>
 Rn Try.prog Value.string (Instr.loadAt 9 (Ptr ((⟨b2, 0, none⟩ : Addr).add 1))) w fun t5 w =>
 Rn Try.prog Value.string (Instr.loadAt 9 (Ptr t1)) w fun t6 w =>
 R (decide (t5 = t6)) w
def f56 (t0 : Sl) (R : (Sl) → World → Prop) (w : World) : Prop :=
 if (t0.a.isNone) = true then
  R Sl.nil w
 else
  New 32 [] w fun b5 w =>
  Rn Try.prog Sl.v (Builtin.append_ #[23, 23] 23 #[(Sl.v (⟨some ⟨b5, 0, none⟩, 0, 0⟩ : Sl)), (Sl.v t0)]) w fun t7 w =>
  R t7 w
theorem c56 {t0 : Sl} {R : (Sl) → World → Prop} {w : World} (h : f56 t0 R w) :
  Cal Try.prog Sl.v 56 #[(Sl.v t0)] w R := by
 unfold f56 at h
 refine calls_ Try.func56 Try.ntmps56 rfl rfl <| seq_ <| region_ <| asg (Sl.v Sl.nil) rfl <| wl_nil <| then_n <| seq_ <| seq_ <| region_ <| mv (Sl.v t0) rfl ?_
 refine st_val (ex_eqlSlNil (s := t0) (n := 0) (c := 0) Try.underlying23 rfl rfl) <| wl_nil <| then_n ?_
 by_cases hc1 : (t0.a.isNone) = true
 ·rw [if_pos hc1] at h; refine cond_1 (b := (t0.a.isNone)) rfl hc1 ?_
  refine seq_ <| region_ <| asg (Sl.v Sl.nil) rfl <| wl_nil <| then_n <| wp_ret <| then_r ?_
  refine ret_1 rfl rfl ⟨Sl.nil, rfl, h⟩
 ·rw [if_neg hc1] at h; refine cond_0 (b := (t0.a.isNone)) rfl (Bool.eq_false_iff.2 hc1) ?_
  refine wp_skip <| then_n <| seq_ <| region_ ?_
  refine st_new (f := (fun b => Sl.v ⟨some ⟨b, 0, none⟩, 0, 0⟩)) (ex_buildSlice (a' := []) rfl (e_buildSlice0 Try.underlying23 info32 _)) h ?_; clear h; intro b5 w h
  refine mv (Sl.v t0) rfl ?_
  refine st_rn (fun r => ex_builtin rfl (fun _ => rfl) r) h ?_; clear h; intro t7 w h
  refine asg (Sl.v t7) rfl <| wl_nil <| then_n <| wp_ret ?_
  refine ret_1 rfl rfl ⟨t7, rfl, h⟩

def f57 (t0 : Sl) (R : ((Option Nat)) → World → Prop) (w : World) : Prop :=
 NewM w fun b9 w =>
 New 153 [(.map none)] w fun b3 w =>
 RnU Try.prog (Instr.storeAt 153 (Ptr (⟨b3, 0, none⟩ : Addr)) (.map (some b9))) w fun w =>
 Cal Try.prog Sl.v 54 #[(Sl.v t0), (.int .i64 2)] w fun t11 w =>
 Lp (σ := Int) (fun s1 w n1 =>
  if s1 < (t11.n : Int) then
   RnP Try.prog Ptr (Instr.indexAt 22 (Sl.v t11) (.int .i64 s1)) fun t15 =>
   Rn Try.prog TResource.v (Instr.loadAt 48 (Ptr t15)) w fun t16 w =>
   New 48 (TResource.cells (⟨0, ⟨#[]⟩, Sl.nil, Sl.nil, ⟨#[]⟩, Sl.nil, ⟨#[]⟩, false⟩ : TResource)) w fun b5 w =>
   RnU Try.prog (Instr.storeAt 48 (Ptr (⟨b5, 0, none⟩ : Addr)) (TResource.v t16)) w fun w =>
   Rn Try.prog Value.map (Instr.loadAt 153 (Ptr (⟨b3, 0, none⟩ : Addr))) w fun t17 w =>
   Rn Try.prog Value.string (Instr.loadAt 9 (Ptr ((⟨b5, 0, none⟩ : Addr).add 1))) w fun t19 w =>
   Rn Try.prog Sl.v (Instr.loadAt 45 (Ptr ((⟨b5, 0, none⟩ : Addr).add 3))) w fun t21 w =>
   RnU Try.prog (Instr.mapUpdate 153 (.map t17) (.string t19) (Sl.v t21)) w fun w =>
   n1 (IntKind.i64.wrap (s1 + 1)) w
  else
   NewM w fun b23 w =>
   New 97 [(.map none)] w fun b6 w =>
   RnU Try.prog (Instr.storeAt 97 (Ptr (⟨b6, 0, none⟩ : Addr)) (.map (some b23))) w fun w =>
   New 154 [Value.nilFunc] w fun b7 w =>
   RnU Try.prog (Instr.storeAt 154 (Ptr (⟨b7, 0, none⟩ : Addr)) (Value.func (.func 99) #[] #[(Ptr (⟨b6, 0, none⟩ : Addr)), (Ptr (⟨b3, 0, none⟩ : Addr)), (Ptr (⟨b7, 0, none⟩ : Addr))])) w fun w =>
   Rn Try.prog Value.map (Instr.loadAt 153 (Ptr (⟨b3, 0, none⟩ : Addr))) w fun t25 w =>
   Rn Try.prog (fun x : Value => x) (Instr.range 153 (.map t25)) w fun t26 w =>
   Lp (σ := Unit) (fun s3 w n3 =>
    Rn Try.prog (fun x : Value => x) (Instr.next t26 false 0) w fun t27 w =>
    RnP Try.prog Value.bool (Instr.extract t27 0) fun t28 =>
    if t28 = true then
     Rn Try.prog (fun x : Value => x) (Instr.entry t26) w fun t29 w =>
     RnP Try.prog Value.string (Instr.extract t29 0) fun t30 =>
     Rn Try.prog (fun x : Value => x) (Instr.loadAt 154 (Ptr (⟨b7, 0, none⟩ : Addr))) w fun t31 w =>
     CalV Try.prog Sl.v t31 #[(.string t30)] w fun t33 w =>
     n3 () w
    else
     Rn Try.prog Value.map (Instr.loadAt 97 (Ptr (⟨b6, 0, none⟩ : Addr))) w fun t34 w =>
     R t34 w
   ) () w
 ) 0 w
theorem c57 {t0 : Sl} {R : ((Option Nat)) → World → Prop} {w : World} (h : f57 t0 R w) :
  Cal Try.prog Value.map 57 #[(Sl.v t0)] w R := by
 unfold f57 at h
 refine calls_ Try.func57 Try.ntmps57 rfl rfl <| seq_ <| region_ <| asg (.map none) rfl <| wl_nil <| then_n <| seq_ <| region_ ?_
 refine st_newm (ex_makeMap (e_makeMap _)) h ?_; clear h; intro b9 w h
 refine st_new (f := (fun b => Ptr ⟨b, 0, none⟩)) (ex_allocN zero153 rfl) h ?_; clear h; intro b3 w h
 refine st_rnu (fun r => ex_store rfl rfl r) h ?_; clear h; intro w h
 refine wl_nil <| then_n <| seq_ <| seq_ <| region_ <| mv (Sl.v t0) rfl ?_
 refine st_cal en54 rfl h ?_; clear h; intro t11 w h
 refine st_val (ex_len (s := t11) Try.underlying22 rfl) <| mv (.int .i64 0) rfl <| wl_nil <| then_n <| wp_block <| wp_lp (σ := Int) (fun s1 a => ∃ j, a = F 35 (upds j [(3, (Ptr (⟨b3, 0, none⟩ : Addr))), (11, (Sl.v t11)), (12, (.int .i64 (t11.n : Int))), (13, (.int .i64 s1))])) h (mk_upds (ae rfl (ae rfl (ae rfl (ae rfl ae0))))) ?_
 clear h; rintro s1 _ w n1 ⟨j, rfl⟩ h
 refine seq_ <| region_ <| st_val (ex_lss (a := s1) (b := (t11.n : Int)) rfl rfl) <| wl_nil <| then_n <| seq_ ?_
 by_cases hc2 : s1 < (t11.n : Int)
 ·rw [if_pos hc2] at h; refine cond_1 (b := (decide (s1 < (t11.n : Int)))) rfl (decide_eq_true hc2) ?_
  refine wp_skip <| then_n <| seq_ <| wp_block <| seq_ <| region_ ?_
  refine st_rnp (fun r => ex_indexAddr rfl rfl r) h ?_; clear h; intro t15 h
  refine st_rn (fun r => ex_load rfl r) h ?_; clear h; intro t16 w h
  refine st_new (f := (fun b => Ptr ⟨b, 0, none⟩)) (ex_allocN zero48 rfl) h ?_; clear h; intro b5 w h
  refine st_rnu (fun r => ex_store rfl rfl r) h ?_; clear h; intro w h
  refine wl_nil <| then_n <| region_ ?_
  refine st_rn (fun r => ex_load rfl r) h ?_; clear h; intro t17 w h
  refine st_val (ex_fa fa48_1 (p := (⟨b5, 0, none⟩ : Addr)) rfl) ?_
  refine st_rn (fun r => ex_load rfl r) h ?_; clear h; intro t19 w h
  refine st_val (ex_fa fa48_3 (p := (⟨b5, 0, none⟩ : Addr)) rfl) ?_
  refine st_rn (fun r => ex_load rfl r) h ?_; clear h; intro t21 w h
  refine st_rnu (fun r => ex_mapUpdate rfl rfl rfl r) h ?_; clear h; intro w h
  refine wl_nil <| inb_n <| then_n <| region_ <| st_val (ex_add (a := s1) (b := 1) rfl rfl) <| mv (.int .i64 (IntKind.i64.wrap (s1 + 1))) rfl <| wl_nil ?_
  exact then_n ⟨(IntKind.i64.wrap (s1 + 1)), mk_upds (ae rfl (ae rfl (ae rfl (ae rfl ae0)))), h⟩
 ·rw [if_neg hc2] at h; refine cond_0 (b := (decide (s1 < (t11.n : Int)))) rfl (decide_eq_false hc2) ?_
  refine wp_exit <| then_e <| then_e <| inb_e <| then_n <| seq_ <| region_ ?_
  refine st_newm (ex_makeMap (e_makeMap _)) h ?_; clear h; intro b23 w h
  refine st_new (f := (fun b => Ptr ⟨b, 0, none⟩)) (ex_allocN zero97 rfl) h ?_; clear h; intro b6 w h
  refine st_rnu (fun r => ex_store rfl rfl r) h ?_; clear h; intro w h
  refine wl_nil <| then_n <| seq_ <| region_ ?_
  refine st_new (f := (fun b => Ptr ⟨b, 0, none⟩)) (ex_allocN zero154 rfl) h ?_; clear h; intro b7 w h
  refine wl_nil <| then_n <| seq_ <| region_ <| st_val (ex_makeFunc rfl rfl) ?_
  refine st_rnu (fun r => ex_store rfl rfl r) h ?_; clear h; intro w h
  refine wl_nil <| then_n <| seq_ <| seq_ <| region_ ?_
  refine st_rn (fun r => ex_load rfl r) h ?_; clear h; intro t25 w h
  refine st_rn (fun r => ex_range rfl r) h ?_; clear h; intro t26 w h
  refine wl_nil <| then_n <| wp_block <| wp_lp (σ := Unit) (fun s3 a => ∃ j, a = F 35 (upds j [(6, (Ptr (⟨b6, 0, none⟩ : Addr))), (7, (Ptr (⟨b7, 0, none⟩ : Addr))), (26, t26)])) h (mk_upds (ae rfl (ae rfl (ae rfl ae0)))) ?_
  clear h; rintro s3 _ w n3 ⟨j, rfl⟩ h
  refine seq_ <| region_ ?_
  refine st_rn (fun r => ex_next rfl r) h ?_; clear h; intro t27 w h
  refine st_rnp (fun r => ex_extract rfl r) h ?_; clear h; intro t28 h
  refine wl_nil <| then_n <| seq_ ?_
  by_cases hc4 : t28 = true
  ·rw [if_pos hc4] at h; refine cond_1 (b := t28) rfl hc4 ?_
   refine wp_skip <| then_n <| wp_block <| seq_ <| region_ ?_
   refine st_rn (fun r => ex_entry rfl r) h ?_; clear h; intro t29 w h
   refine st_rnp (fun r => ex_extract rfl r) h ?_; clear h; intro t30 h
   refine asg (.string t30) rfl <| wl_nil <| then_n <| region_ ?_
   refine st_rn (fun r => ex_load rfl r) h ?_; clear h; intro t31 w h
   refine mv (.string t30) rfl ?_
   refine st_calv rfl rfl h ?_; clear h; intro t33 w h
   refine wl_nil <| inb_n ?_
   exact then_n ⟨(), mk_upds (ae rfl (ae rfl (ae rfl ae0))), h⟩
  ·rw [if_neg hc4] at h; refine cond_0 (b := t28) rfl (Bool.eq_false_iff.2 hc4) ?_
   refine wp_exit <| then_e <| then_e <| inb_e <| then_n <| seq_ <| region_ ?_
   refine st_rn (fun r => ex_load rfl r) h ?_; clear h; intro t34 w h
   refine asg (.map t34) rfl <| wl_nil <| then_n <| wp_ret ?_
   refine ret_1 rfl rfl ⟨t34, rfl, h⟩

def f58 (t0 : Sl) (R : (Sl × TFault14) → World → Prop) (w : World) : Prop :=
 New 101 (TFault14.cells (⟨0, 0, 0⟩ : TFault14)) w fun b3 w =>
 Cal Try.prog (Value.int .i64) 65 #[(Sl.v t0)] w fun t24 w =>
 if 0 ≤ t24 then
  RnU Try.prog (Instr.storeAt 101 (Ptr (⟨b3, 0, none⟩ : Addr)) (TFault14.v (⟨t24, 0, 2⟩ : TFault14))) w fun w =>
  RnR Try.prog TFault14.v (loadVar 101 (⟨b3, 0, none⟩ : Addr)) w fun r1 =>
  R (Sl.nil, r1) w
 else
  if 64 < (t0.n : Int) then
   RnU Try.prog (Instr.storeAt 101 (Ptr (⟨b3, 0, none⟩ : Addr)) (TFault14.v (⟨0, 0, 124⟩ : TFault14))) w fun w =>
   RnR Try.prog TFault14.v (loadVar 101 (⟨b3, 0, none⟩ : Addr)) w fun r1_1 =>
   R (Sl.nil, r1_1) w
  else
   Lp (σ := Int) (fun s3 w n3 =>
    if s3 < (t0.n : Int) then
     RnP Try.prog Ptr (Instr.indexAt 22 (Sl.v t0) (.int .i64 s3)) fun t42 =>
     Rn Try.prog TResource.v (Instr.loadAt 48 (Ptr t42)) w fun t43 w =>
     Cal Try.prog (Value.int .i64) 101 #[(Sl.v t0), (TResource.v t43)] w fun t44 w =>
     if 0 ≤ t44 then
      RnU Try.prog (Instr.storeAt 101 (Ptr (⟨b3, 0, none⟩ : Addr)) (TFault14.v (⟨s3, t44, 140⟩ : TFault14))) w fun w =>
      RnR Try.prog TFault14.v (loadVar 101 (⟨b3, 0, none⟩ : Addr)) w fun r1_2 =>
      R (Sl.nil, r1_2) w
     else
      n3 (IntKind.i64.wrap (s3 + 1)) w
    else
     Lp (σ := Int) (fun s6 w n6 =>
      if s6 < (t0.n : Int) then
       Lp (σ := Int) (fun s8 w n8 =>
        if s8 < s6 then
         Jn (σ := Bool) (fun k10 =>
          Dr w fun w11 w =>
           RnP Try.prog Ptr (Instr.indexAt 22 (Sl.v t0) (.int .i64 s6)) fun t63 =>
           RnL Try.prog (Value.int .i64) (Instr.loadAt 3 (Ptr (t63.add 0))) w11 fun t65 =>
           if t65 = 3 then
            RnP Try.prog Ptr (Instr.indexAt 22 (Sl.v t0) (.int .i64 s8)) fun t70 =>
            RnL Try.prog (Value.int .i64) (Instr.loadAt 3 (Ptr (t70.add 0))) w11 fun t72 =>
            if t72 = 3 then
             RnP Try.prog Ptr (Instr.indexAt 22 (Sl.v t0) (.int .i64 s6)) fun t78 =>
             RnL Try.prog Value.string (Instr.loadAt 9 (Ptr (t78.add 4))) w11 fun t80 =>
             RnP Try.prog Ptr (Instr.indexAt 22 (Sl.v t0) (.int .i64 s8)) fun t83 =>
             RnL Try.prog Value.string (Instr.loadAt 9 (Ptr (t83.add 4))) w11 fun t85 =>
             k10 (decide (t80 = t85)) w
            else
             k10 false w
           else
            k10 false w
         ) fun s10 w =>
          if s10 = true then
           RnU Try.prog (Instr.storeAt 101 (Ptr (⟨b3, 0, none⟩ : Addr)) (TFault14.v (⟨s6, 0, 141⟩ : TFault14))) w fun w =>
           RnR Try.prog TFault14.v (loadVar 101 (⟨b3, 0, none⟩ : Addr)) w fun r1_3 =>
           R (Sl.nil, r1_3) w
          else
           n8 (IntKind.i64.wrap (s8 + 1)) w
        else
         n6 (IntKind.i64.wrap (s6 + 1)) w
       ) 0 w
      else
       Lp (σ := Int) (fun s15 w n15 =>
        if s15 < (t0.n : Int) then
         Lp (σ := Nat × Bool × Int) (fun s17 w n17 =>
          RnP Try.prog Ptr (Instr.indexAt 22 (Sl.v t0) (.int .i64 s15)) fun t99 =>
          Rn Try.prog Sl.v (Instr.loadAt 45 (Ptr (t99.add 3))) w fun t101 w =>
          if s17.2.2 < (t101.n : Int) then
           RnP Try.prog Ptr (Instr.indexAt 22 (Sl.v t0) (.int .i64 s15)) fun t108 =>
           Rn Try.prog Sl.v (Instr.loadAt 45 (Ptr (t108.add 3))) w fun t110 w =>
           RnP Try.prog Ptr (Instr.indexAt 45 (Sl.v t110) (.int .i64 s17.2.2)) fun t112 =>
           Rn Try.prog (Value.float .f64) (Instr.loadAt 30 (Ptr (t112.add 2))) w fun t114 w =>
           Jn (σ := Bool) (fun k19 =>
            if s17.2.1 = true then
             if (fGe t114 0) = true then
              k19 (fLe t114 4636737291354636288) w
             else
              k19 false w
            else
             k19 false w
           ) fun s19 w =>
            Rn Try.prog (Value.float .f64) (Op.floatArith .add .f64 s17.1 t114) w fun t126 w =>
            n17 (t126, s19, (IntKind.i64.wrap (s17.2.2 + 1))) w
          else
           Jn (σ := Bool) (fun k22 =>
            RnP Try.prog Ptr (Instr.indexAt 22 (Sl.v t0) (.int .i64 s15)) fun t129 =>
            Rn Try.prog (Value.int .i64) (Instr.loadAt 3 (Ptr (t129.add 0))) w fun t131 w =>
            if t131 = 2 then
             if s17.2.1 = true then
              Rn Try.prog (Value.float .f64) (Op.floatArith .sub .f64 4636737291354636288 4517110426252607488) w fun t138 w =>
              if (fGe s17.1 t138) = true then
               Rn Try.prog (Value.float .f64) (Op.floatArith .add .f64 4636737291354636288 4517110426252607488) w fun t144 w =>
               k22 (!(fLe s17.1 t144)) w
              else
               k22 (!false) w
             else
              k22 (!false) w
            else
             k22 false w
           ) fun s22 w =>
            if s22 = true then
             RnU Try.prog (Instr.storeAt 101 (Ptr (⟨b3, 0, none⟩ : Addr)) (TFault14.v (⟨s15, 0, 142⟩ : TFault14))) w fun w =>
             RnR Try.prog TFault14.v (loadVar 101 (⟨b3, 0, none⟩ : Addr)) w fun r1_4 =>
             R (Sl.nil, r1_4) w
            else
             n15 (IntKind.i64.wrap (s15 + 1)) w
         ) (0, true, 0) w
        else
         Cal Try.prog Sl.v 102 #[(Sl.v t0)] w fun t152 w =>
         Lp (σ := Int) (fun s27 w n27 =>
          if s27 < (t0.n : Int) then
           Jn (σ := Bool) (fun k29 =>
            RnP Try.prog Ptr (Instr.indexAt 22 (Sl.v t0) (.int .i64 s27)) fun t161 =>
            Rn Try.prog (Value.int .i64) (Instr.loadAt 3 (Ptr (t161.add 0))) w fun t163 w =>
            if t163 = 2 then
             RnP Try.prog Ptr (Instr.indexAt 77 (Sl.v t152) (.int .i64 s27)) fun t168 =>
             Rn Try.prog (Value.int .i64) (Instr.loadAt 3 (Ptr t168)) w fun t169 w =>
             k29 (decide (t169 = 0)) w
            else
             k29 false w
           ) fun s29 w =>
            if s29 = true then
             RnU Try.prog (Instr.storeAt 101 (Ptr (⟨b3, 0, none⟩ : Addr)) (TFault14.v (⟨s27, 0, 143⟩ : TFault14))) w fun w =>
             RnR Try.prog TFault14.v (loadVar 101 (⟨b3, 0, none⟩ : Addr)) w fun r1_5 =>
             R (Sl.nil, r1_5) w
            else
             n27 (IntKind.i64.wrap (s27 + 1)) w
          else
           Lp (σ := Sl × Int) (fun s32 w n32 =>
            if s32.2 < (t0.n : Int) then
             Jn (σ := Sl) (fun k34 =>
              RnP Try.prog Ptr (Instr.indexAt 22 (Sl.v t0) (.int .i64 s32.2)) fun t182 =>
              Rn Try.prog (Value.int .i64) (Instr.loadAt 3 (Ptr (t182.add 0))) w fun t184 w =>
              if t184 < 3 then
               k34 s32.1 w
              else
               Lp (σ := Sl × Int) (fun s36 w n36 =>
                RnP Try.prog Ptr (Instr.indexAt 22 (Sl.v t0) (.int .i64 s32.2)) fun t189 =>
                Rn Try.prog Sl.v (Instr.loadAt 46 (Ptr (t189.add 5))) w fun t191 w =>
                if s36.2 < (t191.n : Int) then
                 Jn (σ := Sl) (fun k38 =>
                  RnP Try.prog Ptr (Instr.indexAt 22 (Sl.v t0) (.int .i64 s32.2)) fun t198 =>
                  Rn Try.prog Sl.v (Instr.loadAt 46 (Ptr (t198.add 5))) w fun t200 w =>
                  RnP Try.prog Ptr (Instr.indexAt 46 (Sl.v t200) (.int .i64 s36.2)) fun t202 =>
                  Rn Try.prog TRule.v (Instr.loadAt 91 (Ptr t202)) w fun t203 w =>
                  New 91 (TRule.cells (⟨⟨#[]⟩, ⟨#[]⟩, ⟨#[]⟩, false⟩ : TRule)) w fun b20 w =>
                  RnU Try.prog (Instr.storeAt 91 (Ptr (⟨b20, 0, none⟩ : Addr)) (TRule.v t203)) w fun w =>
                  Lp (σ := Sl × Int) (fun s39 w n39 =>
                   if s39.2 < s36.2 then
                    RnP Try.prog Ptr (Instr.indexAt 22 (Sl.v t0) (.int .i64 s32.2)) fun t211 =>
                    Rn Try.prog Sl.v (Instr.loadAt 46 (Ptr (t211.add 5))) w fun t213 w =>
                    RnP Try.prog Ptr (Instr.indexAt 46 (Sl.v t213) (.int .i64 s39.2)) fun t215 =>
                    Rn Try.prog TRule.v (Instr.loadAt 91 (Ptr t215)) w fun t216 w =>
                    New 91 (TRule.cells (⟨⟨#[]⟩, ⟨#[]⟩, ⟨#[]⟩, false⟩ : TRule)) w fun b22 w =>
                    RnU Try.prog (Instr.storeAt 91 (Ptr (⟨b22, 0, none⟩ : Addr)) (TRule.v t216)) w fun w =>
                    Jn (σ := Bool) (fun k41 =>
                     Rn Try.prog Value.string (Instr.loadAt 9 (Ptr ((⟨b22, 0, none⟩ : Addr).add 1))) w fun t218 w =>
                     if t218 = (⟨#[42]⟩ : ByteArray) then
                      Rn Try.prog Value.string (Instr.loadAt 9 (Ptr ((⟨b22, 0, none⟩ : Addr).add 0))) w fun t229 w =>
                      Rn Try.prog Value.string (Instr.loadAt 9 (Ptr ((⟨b20, 0, none⟩ : Addr).add 0))) w fun t231 w =>
                      Cal Try.prog Value.bool 103 #[(.string t229), (.string t231)] w fun t232 w =>
                      k41 t232 w
                     else
                      Rn Try.prog Value.string (Instr.loadAt 9 (Ptr ((⟨b22, 0, none⟩ : Addr).add 1))) w fun t222 w =>
                      Rn Try.prog Value.string (Instr.loadAt 9 (Ptr ((⟨b20, 0, none⟩ : Addr).add 1))) w fun t224 w =>
                      if t222 = t224 then
                       Rn Try.prog Value.string (Instr.loadAt 9 (Ptr ((⟨b22, 0, none⟩ : Addr).add 0))) w fun t229_1 w =>
                       Rn Try.prog Value.string (Instr.loadAt 9 (Ptr ((⟨b20, 0, none⟩ : Addr).add 0))) w fun t231_1 w =>
                       Cal Try.prog Value.bool 103 #[(.string t229_1), (.string t231_1)] w fun t232_1 w =>
                       k41 t232_1 w
                      else
                       k41 false w
                    ) fun s41 w =>
                     if s41 = true then
                      New 160 ((TWarning14.cells (⟨s32.2, s36.2, s39.2⟩ : TWarning14))) w fun b239 w =>
                      Rn Try.prog Sl.v (Builtin.append_ #[99, 99] 99 #[(Sl.v s39.1), (Sl.v (⟨some ⟨b239, 0, none⟩, 1, 1⟩ : Sl))]) w fun t240 w =>
                      k38 t240 w
                     else
                      n39 (s39.1, (IntKind.i64.wrap (s39.2 + 1))) w
                   else
                    k38 s39.1 w
                  ) (s36.1, 0) w
                 ) fun s38 w =>
                  n36 (s38, (IntKind.i64.wrap (s36.2 + 1))) w
                else
                 k34 s36.1 w
               ) (s32.1, 0) w
             ) fun s34 w =>
              n32 (s34, (IntKind.i64.wrap (s32.2 + 1))) w
            else
             RnU Try.prog (Instr.storeAt 101 (Ptr (⟨b3, 0, none⟩ : Addr)) (TFault14.v (⟨0, 0, 0⟩ : TFault14))) w fun w =>
             RnR Try.prog TFault14.v (loadVar 101 (⟨b3, 0, none⟩ : Addr)) w fun r1_6 =>
             R (s32.1, r1_6) w
           ) (Sl.nil, 0) w
         ) 0 w
       ) 0 w
     ) 0 w
   ) 0 w
theorem c58 {t0 : Sl} {R : (Sl × TFault14) → World → Prop} {w : World} (h : f58 t0 R w) :
  Cal Try.prog (fun x : Sl × TFault14 => Value.tuple #[(Sl.v x.1), (TFault14.v x.2)]) 58 #[(Sl.v t0)] w R := by
 unfold f58 at h
 refine calls_ Try.func58 Try.ntmps58 rfl rfl <| seq_ <| region_ <| asg (Sl.v Sl.nil) rfl ?_
 refine st_new (f := (fun b => Ptr ⟨b, 0, none⟩)) (ex_allocN zero101 rfl) h ?_; clear h; intro b3 w h
 refine wl_nil <| then_n <| seq_ <| region_ <| mv (Sl.v t0) rfl ?_
 refine st_cal en65 rfl h ?_; clear h; intro t24 w h
 refine asg (.int .i64 t24) rfl <| wl_nil <| then_n <| seq_ <| seq_ <| region_ <| mv (.int .i64 t24) rfl <| st_val (ex_geq (a := t24) (b := 0) rfl rfl) <| wl_nil <| then_n ?_
 by_cases hc1 : 0 ≤ t24
 ·rw [if_pos hc1] at h; refine cond_1 (b := (decide (0 ≤ t24))) rfl (decide_eq_true hc1) ?_
  refine seq_ <| region_ <| mv (.int .i64 t24) rfl <| st_val (ex_build (a' := [(0, (.int .i64 t24)), (2, (.int .i64 2))]) (v := TFault14.v (⟨t24, 0, 2⟩ : TFault14)) rfl (e_build Try.underlying101 zero101 rfl pl101 rfl _)) <| asg (Sl.v Sl.nil) rfl ?_
  refine st_rnu (fun r => ex_store rfl rfl r) h ?_; clear h; intro w h
  refine wl_nil <| then_n <| wp_ret <| then_r ?_
  obtain ⟨r1, hr1, h⟩ := h
  refine ret_tc rfl rfl rfl hr1 ⟨(Sl.nil, r1), rfl, h⟩
 ·rw [if_neg hc1] at h; refine cond_0 (b := (decide (0 ≤ t24))) rfl (decide_eq_false hc1) ?_
  refine wp_skip <| then_n <| seq_ <| seq_ <| region_ <| mv (Sl.v t0) rfl <| st_val (ex_len (s := t0) Try.underlying22 rfl) <| st_val (ex_gtr (a := (t0.n : Int)) (b := 64) rfl rfl) <| wl_nil <| then_n ?_
  by_cases hc2 : 64 < (t0.n : Int)
  ·rw [if_pos hc2] at h; refine cond_1 (b := (decide (64 < (t0.n : Int)))) rfl (decide_eq_true hc2) ?_
   refine seq_ <| region_ <| st_val (ex_build (a' := [(2, (.int .i64 124))]) (v := TFault14.v (⟨0, 0, 124⟩ : TFault14)) rfl (e_build Try.underlying101 zero101 rfl pl101 rfl _)) <| asg (Sl.v Sl.nil) rfl ?_
   refine st_rnu (fun r => ex_store rfl rfl r) h ?_; clear h; intro w h
   refine wl_nil <| then_n <| wp_ret <| then_r ?_
   obtain ⟨r1_1, hr1_1, h⟩ := h
   refine ret_tc rfl rfl rfl hr1_1 ⟨(Sl.nil, r1_1), rfl, h⟩
  ·rw [if_neg hc2] at h; refine cond_0 (b := (decide (64 < (t0.n : Int)))) rfl (decide_eq_false hc2) ?_
   refine wp_skip <| then_n <| seq_ <| seq_ <| region_ <| asg (.int .i64 0) rfl <| wl_nil <| then_n <| wp_block <| wp_lp (σ := Int) (fun s3 a => ∃ j, a = F 243 (upds j [(0, (Sl.v t0)), (3, (Ptr (⟨b3, 0, none⟩ : Addr))), (5, (.int .i64 s3))])) h (mk_upds (ae rfl (ae rfl (ae rfl ae0)))) ?_
   clear h; rintro s3 _ w n3 ⟨j, rfl⟩ h
   refine seq_ <| seq_ <| region_ <| mv (.int .i64 s3) rfl <| mv (Sl.v t0) rfl <| st_val (ex_len (s := t0) Try.underlying22 rfl) <| st_val (ex_lss (a := s3) (b := (t0.n : Int)) rfl rfl) <| wl_nil <| then_n ?_
   by_cases hc4 : s3 < (t0.n : Int)
   ·rw [if_pos hc4] at h; refine cond_1 (b := (decide (s3 < (t0.n : Int)))) rfl (decide_eq_true hc4) ?_
    refine wp_skip <| then_n <| seq_ <| wp_block <| seq_ <| region_ <| mv (Sl.v t0) rfl <| mv (Sl.v t0) rfl <| mv (.int .i64 s3) rfl ?_
    refine st_rnp (fun r => ex_indexAddr rfl rfl r) h ?_; clear h; intro t42 h
    refine st_rn (fun r => ex_load rfl r) h ?_; clear h; intro t43 w h
    refine st_cal en101 rfl h ?_; clear h; intro t44 w h
    refine asg (.int .i64 t44) rfl <| wl_nil <| then_n <| seq_ <| region_ <| mv (.int .i64 t44) rfl <| st_val (ex_geq (a := t44) (b := 0) rfl rfl) <| wl_nil <| then_n ?_
    by_cases hc5 : 0 ≤ t44
    ·rw [if_pos hc5] at h; refine cond_1 (b := (decide (0 ≤ t44))) rfl (decide_eq_true hc5) ?_
     refine seq_ <| region_ <| mv (.int .i64 s3) rfl <| mv (.int .i64 t44) rfl <| st_val (ex_build (a' := [(0, (.int .i64 s3)), (1, (.int .i64 t44)), (2, (.int .i64 140))]) (v := TFault14.v (⟨s3, t44, 140⟩ : TFault14)) rfl (e_build Try.underlying101 zero101 rfl pl101 rfl _)) <| asg (Sl.v Sl.nil) rfl ?_
     refine st_rnu (fun r => ex_store rfl rfl r) h ?_; clear h; intro w h
     refine wl_nil <| then_n <| wp_ret <| inb_r <| then_r <| then_r <| inb_r <| then_r ?_
     obtain ⟨r1_2, hr1_2, h⟩ := h
     refine ret_tc rfl rfl rfl hr1_2 ⟨(Sl.nil, r1_2), rfl, h⟩
    ·rw [if_neg hc5] at h; refine cond_0 (b := (decide (0 ≤ t44))) rfl (decide_eq_false hc5) ?_
     refine wp_skip <| inb_n <| then_n <| region_ <| mv (.int .i64 s3) rfl <| st_val (ex_add (a := s3) (b := 1) rfl rfl) <| asg (.int .i64 (IntKind.i64.wrap (s3 + 1))) rfl <| wl_nil ?_
     exact then_n ⟨(IntKind.i64.wrap (s3 + 1)), mk_upds (ae rfl (ae rfl (ae rfl ae0))), h⟩
   ·rw [if_neg hc4] at h; refine cond_0 (b := (decide (s3 < (t0.n : Int)))) rfl (decide_eq_false hc4) ?_
    refine wp_exit <| then_e <| then_e <| inb_e <| then_n <| seq_ <| seq_ <| region_ <| asg (.int .i64 0) rfl <| wl_nil ?_
    refine then_n <| wp_block <| wp_lp (σ := Int) (fun s6 a => ∃ j, a = F 243 (upds j [(0, (Sl.v t0)), (3, (Ptr (⟨b3, 0, none⟩ : Addr))), (7, (.int .i64 s6))])) h (mk_upds (ae rfl (ae rfl (ae rfl ae0)))) ?_
    clear h; rintro s6 _ w n6 ⟨j, rfl⟩ h
    refine seq_ <| seq_ <| region_ <| mv (.int .i64 s6) rfl <| mv (Sl.v t0) rfl <| st_val (ex_len (s := t0) Try.underlying22 rfl) <| st_val (ex_lss (a := s6) (b := (t0.n : Int)) rfl rfl) <| wl_nil <| then_n ?_
    by_cases hc7 : s6 < (t0.n : Int)
    ·rw [if_pos hc7] at h; refine cond_1 (b := (decide (s6 < (t0.n : Int)))) rfl (decide_eq_true hc7) ?_
     refine wp_skip <| then_n <| seq_ <| wp_block <| seq_ <| region_ <| asg (.int .i64 0) rfl <| wl_nil <| then_n <| wp_block ?_
     refine wp_lp (σ := Int) (fun s8 a => ∃ j, a = F 243 (upds j [(0, (Sl.v t0)), (3, (Ptr (⟨b3, 0, none⟩ : Addr))), (7, (.int .i64 s6)), (8, (.int .i64 s8))])) h (mk_upds (ae rfl (ae rfl (ae rfl (ae rfl ae0))))) ?_
     clear h; rintro s8 _ w n8 ⟨j, rfl⟩ h
     refine seq_ <| seq_ <| region_ <| mv (.int .i64 s8) rfl <| mv (.int .i64 s6) rfl <| st_val (ex_lss (a := s8) (b := s6) rfl rfl) <| wl_nil <| then_n ?_
     by_cases hc9 : s8 < s6
     ·rw [if_pos hc9] at h; refine cond_1 (b := (decide (s8 < s6))) rfl (decide_eq_true hc9) ?_
      refine wp_skip <| then_n <| seq_ <| wp_block ?_
      refine wp_jn (σ := Bool) (fun s10 l => ∃ j, l = upds j [(0, (Sl.v t0)), (3, (Ptr (⟨b3, 0, none⟩ : Addr))), (7, (.int .i64 s6)), (8, (.int .i64 s8)), (87, (.bool s10))]) h ?_ ?_
      ·clear h; rintro s10 _ w ⟨j, rfl⟩ h
       by_cases hc14 : s10 = true
       ·rw [if_pos hc14] at h; refine cond_1 (b := s10) rfl hc14 ?_
        refine seq_ <| region_ <| mv (.int .i64 s6) rfl <| st_val (ex_build (a' := [(0, (.int .i64 s6)), (2, (.int .i64 141))]) (v := TFault14.v (⟨s6, 0, 141⟩ : TFault14)) rfl (e_build Try.underlying101 zero101 rfl pl101 rfl _)) <| asg (Sl.v Sl.nil) rfl ?_
        refine st_rnu (fun r => ex_store rfl rfl r) h ?_; clear h; intro w h
        refine wl_nil <| then_n <| wp_ret <| inb_r <| then_r <| then_r <| inb_r <| inb_r <| then_r <| then_r ?_
        refine inb_r <| then_r ?_
        obtain ⟨r1_3, hr1_3, h⟩ := h
        refine ret_tc rfl rfl rfl hr1_3 ⟨(Sl.nil, r1_3), rfl, h⟩
       ·rw [if_neg hc14] at h; refine cond_0 (b := s10) rfl (Bool.eq_false_iff.2 hc14) ?_
        refine wp_skip <| inb_n <| then_n <| region_ <| mv (.int .i64 s8) rfl <| st_val (ex_add (a := s8) (b := 1) rfl rfl) <| asg (.int .i64 (IntKind.i64.wrap (s8 + 1))) rfl <| wl_nil ?_
        exact then_n ⟨(IntKind.i64.wrap (s8 + 1)), mk_upds (ae rfl (ae rfl (ae rfl (ae rfl ae0)))), h⟩
      ·clear h; intro k10 h
       refine dr_begin mixed [] (listed := #[false, false, false, false, false, false, false, false, false, false, false, false, false, false, false, false, false, false, false, false, false, false, false, false, false, false, false]) rfl (n := 27) rfl h ?_; clear h; intro w11 h
       have hE : Ext w11 w11 := Ext.refl _
       refine tP 0 rfl (fun _ => hE) (fun _ => ex_move (v := (Sl.v t0)) rfl) <| tP 1 rfl (fun _ => hE) (fun _ => ex_move (v := (.int .i64 s6)) rfl) ?_
       obtain ⟨t63, ht63, h⟩ := h
       refine tP 2 rfl (fun _ => hE) (fun _ => (fun r => ex_indexAddr rfl rfl r) (ht63 _)) <| tP 3 rfl (fun _ => hE) (fun _ => ex_fa fa48_0 (p := t63) rfl) ?_
       obtain ⟨t65, ht65, h⟩ := h
       refine tK 4 rfl hE (fun _ hw => (fun r => ex_load rfl r) (ht65 _ hw)) <| tP 5 rfl (fun _ => hE) (fun _ => ex_eql (a := t65) (b := 3) rfl rfl) <| tP 6 rfl (fun _ => hE) (fun _ => ex_move (v := (.bool (decide (t65 = 3)))) rfl) ?_
       by_cases hc12 : t65 = 3
       ·rw [if_pos hc12] at h
        refine tPo 7 67 rfl (decide_eq_true hc12) rfl rfl (fun _ => hE) (fun _ => ex_move (v := (Sl.v t0)) rfl) <| tPo 8 67 rfl (decide_eq_true hc12) rfl rfl (fun _ => hE) (fun _ => ex_move (v := (.int .i64 s8)) rfl) ?_
        obtain ⟨t70, ht70, h⟩ := h
        refine tPo 9 67 rfl (decide_eq_true hc12) rfl rfl (fun _ => hE) (fun _ => (fun r => ex_indexAddr rfl rfl r) (ht70 _)) <| tPo 10 67 rfl (decide_eq_true hc12) rfl rfl (fun _ => hE) (fun _ => ex_fa fa48_0 (p := t70) rfl) ?_
        obtain ⟨t72, ht72, h⟩ := h
        refine tKo 11 67 rfl (decide_eq_true hc12) rfl rfl hE (fun _ hw => (fun r => ex_load rfl r) (ht72 _ hw)) <| tPo 12 67 rfl (decide_eq_true hc12) rfl rfl (fun _ => hE) (fun _ => ex_eql (a := t72) (b := 3) rfl rfl) <| tP 13 rfl (fun _ => hE) (fun _ => ex_pick1 (b := (decide (t65 = 3))) rfl (decide_eq_true hc12) (v := (.bool (decide (t72 = 3)))) rfl) <| tP 14 rfl (fun _ => hE) (fun _ => ex_move (v := (.bool (decide (t72 = 3)))) rfl) ?_
        by_cases hc13 : t72 = 3
        ·rw [if_pos hc13] at h
         refine tPo 15 75 rfl (decide_eq_true hc13) rfl rfl (fun _ => hE) (fun _ => ex_move (v := (Sl.v t0)) rfl) <| tPo 16 75 rfl (decide_eq_true hc13) rfl rfl (fun _ => hE) (fun _ => ex_move (v := (.int .i64 s6)) rfl) ?_
         obtain ⟨t78, ht78, h⟩ := h
         refine tPo 17 75 rfl (decide_eq_true hc13) rfl rfl (fun _ => hE) (fun _ => (fun r => ex_indexAddr rfl rfl r) (ht78 _)) <| tPo 18 75 rfl (decide_eq_true hc13) rfl rfl (fun _ => hE) (fun _ => ex_fa fa48_4 (p := t78) rfl) ?_
         obtain ⟨t80, ht80, h⟩ := h
         refine tKo 19 75 rfl (decide_eq_true hc13) rfl rfl hE (fun _ hw => (fun r => ex_load rfl r) (ht80 _ hw)) <| tPo 20 75 rfl (decide_eq_true hc13) rfl rfl (fun _ => hE) (fun _ => ex_move (v := (Sl.v t0)) rfl) <| tPo 21 75 rfl (decide_eq_true hc13) rfl rfl (fun _ => hE) (fun _ => ex_move (v := (.int .i64 s8)) rfl) ?_
         obtain ⟨t83, ht83, h⟩ := h
         refine tPo 22 75 rfl (decide_eq_true hc13) rfl rfl (fun _ => hE) (fun _ => (fun r => ex_indexAddr rfl rfl r) (ht83 _)) <| tPo 23 75 rfl (decide_eq_true hc13) rfl rfl (fun _ => hE) (fun _ => ex_fa fa48_4 (p := t83) rfl) ?_
         obtain ⟨t85, ht85, h⟩ := h
         refine tKo 24 75 rfl (decide_eq_true hc13) rfl rfl hE (fun _ hw => (fun r => ex_load rfl r) (ht85 _ hw)) <| tPo 25 75 rfl (decide_eq_true hc13) rfl rfl (fun _ => hE) (fun _ => ex_eqlS (a := t80) (b := t85) rfl rfl) <| tP 26 rfl (fun _ => hE) (fun _ => ex_pick1 (b := (decide (t72 = 3))) rfl (decide_eq_true hc13) (v := (.bool (decide (t80 = t85)))) rfl) <| dr_end (by kernel_rfl) ?_
         exact then_n ⟨(decide (t80 = t85)), _, rfl, mk_upds' (ae rfl (ae rfl (ae rfl (ae rfl (ae rfl ae0))))), h⟩
        ·rw [if_neg hc13] at h
         refine tF 15 75 rfl (decide_eq_false hc13) rfl rfl (fun _ => hE) <| tF 16 75 rfl (decide_eq_false hc13) rfl rfl (fun _ => hE) <| tF 17 75 rfl (decide_eq_false hc13) rfl rfl (fun _ => hE) <| tF 18 75 rfl (decide_eq_false hc13) rfl rfl (fun _ => hE) <| tF 19 75 rfl (decide_eq_false hc13) rfl rfl (fun _ => hE) <| tF 20 75 rfl (decide_eq_false hc13) rfl rfl (fun _ => hE) <| tF 21 75 rfl (decide_eq_false hc13) rfl rfl (fun _ => hE) <| tF 22 75 rfl (decide_eq_false hc13) rfl rfl (fun _ => hE) <| tF 23 75 rfl (decide_eq_false hc13) rfl rfl (fun _ => hE) <| tF 24 75 rfl (decide_eq_false hc13) rfl rfl (fun _ => hE) ?_
         refine tF 25 75 rfl (decide_eq_false hc13) rfl rfl (fun _ => hE) <| tP 26 rfl (fun _ => hE) (fun _ => ex_pick0 (b := (decide (t72 = 3))) rfl (decide_eq_false hc13) (v := (.bool false)) rfl) <| dr_end (by kernel_rfl) ?_
         exact then_n ⟨false, _, rfl, mk_upds' (ae rfl (ae rfl (ae rfl (ae rfl (ae rfl ae0))))), h⟩
       ·rw [if_neg hc12] at h
        refine tF 7 67 rfl (decide_eq_false hc12) rfl rfl (fun _ => hE) <| tF 8 67 rfl (decide_eq_false hc12) rfl rfl (fun _ => hE) <| tF 9 67 rfl (decide_eq_false hc12) rfl rfl (fun _ => hE) <| tF 10 67 rfl (decide_eq_false hc12) rfl rfl (fun _ => hE) <| tF 11 67 rfl (decide_eq_false hc12) rfl rfl (fun _ => hE) <| tF 12 67 rfl (decide_eq_false hc12) rfl rfl (fun _ => hE) <| tP 13 rfl (fun _ => hE) (fun _ => ex_pick0 (b := (decide (t65 = 3))) rfl (decide_eq_false hc12) (v := (.bool false)) rfl) <| tP 14 rfl (fun _ => hE) (fun _ => ex_move (v := (.bool false)) rfl) <| tF 15 75 rfl (rfl : false = !true) rfl rfl (fun _ => hE) <| tF 16 75 rfl (rfl : false = !true) rfl rfl (fun _ => hE) ?_
        refine tF 17 75 rfl (rfl : false = !true) rfl rfl (fun _ => hE) <| tF 18 75 rfl (rfl : false = !true) rfl rfl (fun _ => hE) <| tF 19 75 rfl (rfl : false = !true) rfl rfl (fun _ => hE) <| tF 20 75 rfl (rfl : false = !true) rfl rfl (fun _ => hE) <| tF 21 75 rfl (rfl : false = !true) rfl rfl (fun _ => hE) <| tF 22 75 rfl (rfl : false = !true) rfl rfl (fun _ => hE) <| tF 23 75 rfl (rfl : false = !true) rfl rfl (fun _ => hE) <| tF 24 75 rfl (rfl : false = !true) rfl rfl (fun _ => hE) <| tF 25 75 rfl (rfl : false = !true) rfl rfl (fun _ => hE) <| tP 26 rfl (fun _ => hE) (fun _ => ex_pick0 (b := false) rfl (rfl : false = false) (v := (.bool false)) rfl) ?_
        refine dr_end (by kernel_rfl) ?_
        exact then_n ⟨false, _, rfl, mk_upds' (ae rfl (ae rfl (ae rfl (ae rfl (ae rfl ae0))))), h⟩
     ·rw [if_neg hc9] at h; refine cond_0 (b := (decide (s8 < s6))) rfl (decide_eq_false hc9) ?_
      refine wp_exit <| then_e <| then_e <| inb_e <| inb_n <| then_n <| region_ <| mv (.int .i64 s6) rfl <| st_val (ex_add (a := s6) (b := 1) rfl rfl) <| asg (.int .i64 (IntKind.i64.wrap (s6 + 1))) rfl ?_
      refine wl_nil ?_
      exact then_n ⟨(IntKind.i64.wrap (s6 + 1)), mk_upds (ae rfl (ae rfl (ae rfl ae0))), h⟩
    ·rw [if_neg hc7] at h; refine cond_0 (b := (decide (s6 < (t0.n : Int)))) rfl (decide_eq_false hc7) ?_
     refine wp_exit <| then_e <| then_e <| inb_e <| then_n <| seq_ <| seq_ <| region_ <| asg (.int .i64 0) rfl <| wl_nil ?_
     refine then_n <| wp_block <| wp_lp (σ := Int) (fun s15 a => ∃ j, a = F 243 (upds j [(0, (Sl.v t0)), (3, (Ptr (⟨b3, 0, none⟩ : Addr))), (9, (.int .i64 s15))])) h (mk_upds (ae rfl (ae rfl (ae rfl ae0)))) ?_
     clear h; rintro s15 _ w n15 ⟨j, rfl⟩ h
     refine seq_ <| seq_ <| region_ <| mv (.int .i64 s15) rfl <| mv (Sl.v t0) rfl <| st_val (ex_len (s := t0) Try.underlying22 rfl) <| st_val (ex_lss (a := s15) (b := (t0.n : Int)) rfl rfl) <| wl_nil <| then_n ?_
     by_cases hc16 : s15 < (t0.n : Int)
     ·rw [if_pos hc16] at h; refine cond_1 (b := (decide (s15 < (t0.n : Int)))) rfl (decide_eq_true hc16) ?_
      refine wp_skip <| then_n <| seq_ <| wp_block <| seq_ <| region_ <| asg (.float .f64 0) rfl <| wl_nil <| then_n <| seq_ ?_
      refine region_ <| asg (.bool true) rfl <| wl_nil <| then_n <| seq_ <| seq_ <| region_ <| asg (.int .i64 0) rfl <| wl_nil <| then_n ?_
      refine wp_block <| wp_lp (σ := Nat × Bool × Int) (fun s17 a => ∃ j, a = F 243 (upds j [(0, (Sl.v t0)), (3, (Ptr (⟨b3, 0, none⟩ : Addr))), (9, (.int .i64 s15)), (10, (.float .f64 s17.1)), (11, (.bool s17.2.1)), (12, (.int .i64 s17.2.2))])) h (mk_upds (ae rfl (ae rfl (ae rfl (ae rfl (ae rfl (ae rfl ae0))))))) ?_
      clear h; rintro s17 _ w n17 ⟨j, rfl⟩ h
      refine seq_ <| seq_ <| region_ <| mv (.int .i64 s17.2.2) rfl <| mv (Sl.v t0) rfl <| mv (.int .i64 s15) rfl ?_
      refine st_rnp (fun r => ex_indexAddr rfl rfl r) h ?_; clear h; intro t99 h
      refine st_val (ex_fa fa48_3 (p := t99) rfl) ?_
      refine st_rn (fun r => ex_load rfl r) h ?_; clear h; intro t101 w h
      refine st_val (ex_len (s := t101) Try.underlying45 rfl) <| st_val (ex_lss (a := s17.2.2) (b := (t101.n : Int)) rfl rfl) <| wl_nil <| then_n ?_
      by_cases hc18 : s17.2.2 < (t101.n : Int)
      ·rw [if_pos hc18] at h; refine cond_1 (b := (decide (s17.2.2 < (t101.n : Int)))) rfl (decide_eq_true hc18) ?_
       refine wp_skip <| then_n <| seq_ <| wp_block <| seq_ <| region_ <| mv (Sl.v t0) rfl <| mv (.int .i64 s15) rfl ?_
       refine st_rnp (fun r => ex_indexAddr rfl rfl r) h ?_; clear h; intro t108 h
       refine st_val (ex_fa fa48_3 (p := t108) rfl) ?_
       refine st_rn (fun r => ex_load rfl r) h ?_; clear h; intro t110 w h
       refine mv (.int .i64 s17.2.2) rfl ?_
       refine st_rnp (fun r => ex_indexAddr rfl rfl r) h ?_; clear h; intro t112 h
       refine st_val (ex_fa fa84_2 (p := t112) rfl) ?_
       refine st_rn (fun r => ex_load rfl r) h ?_; clear h; intro t114 w h
       refine asg (.float .f64 t114) rfl <| wl_nil <| then_n ?_
       refine wp_jn (σ := Bool) (fun s19 l => ∃ j, l = upds j [(0, (Sl.v t0)), (3, (Ptr (⟨b3, 0, none⟩ : Addr))), (9, (.int .i64 s15)), (10, (.float .f64 s17.1)), (11, (.bool s19)), (12, (.int .i64 s17.2.2)), (13, (.float .f64 t114))]) h ?_ ?_
       ·clear h; rintro s19 _ w ⟨j, rfl⟩ h
        refine region_ <| mv (.float .f64 s17.1) rfl <| mv (.float .f64 t114) rfl ?_
        refine st_rn (fun r => ex_addF (a := s17.1) (b := t114) rfl rfl r) h ?_; clear h; intro t126 w h
        refine asg (.float .f64 t126) rfl <| wl_nil <| inb_n <| then_n <| region_ <| mv (.int .i64 s17.2.2) rfl <| st_val (ex_add (a := s17.2.2) (b := 1) rfl rfl) <| asg (.int .i64 (IntKind.i64.wrap (s17.2.2 + 1))) rfl <| wl_nil ?_
        exact then_n ⟨(t126, s19, (IntKind.i64.wrap (s17.2.2 + 1))), mk_upds (ae rfl (ae rfl (ae rfl (ae rfl (ae rfl (ae rfl ae0)))))), h⟩
       ·clear h; intro k19 h
        refine region_ <| mv (.bool s17.2.1) rfl <| mv (.bool s17.2.1) rfl ?_
        by_cases hc20 : s17.2.1 = true
        ·rw [if_pos hc20] at h
         refine sOn 116 hc20 rfl rfl <| mv (.float .f64 t114) rfl <| sOn 116 hc20 rfl rfl <| st_val (ex_geqF (a := t114) (b := 0) rfl rfl) <| st_val (ex_pick1 (b := s17.2.1) rfl hc20 (v := (.bool (fGe t114 0))) rfl) <| mv (.bool (fGe t114 0)) rfl ?_
         by_cases hc21 : (fGe t114 0) = true
         ·rw [if_pos hc21] at h
          refine sOn 120 hc21 rfl rfl <| mv (.float .f64 t114) rfl <| sOn 120 hc21 rfl rfl <| st_val (ex_leqF (a := t114) (b := 4636737291354636288) rfl rfl) <| st_val (ex_pick1 (b := (fGe t114 0)) rfl hc21 (v := (.bool (fLe t114 4636737291354636288))) rfl) <| asg (.bool (fLe t114 4636737291354636288)) rfl <| wl_nil ?_
          exact then_n ⟨(fLe t114 4636737291354636288), _, rfl, mk_upds' (ae rfl (ae rfl (ae rfl (ae rfl (ae rfl (ae rfl (ae rfl ae0))))))), h⟩
         ·rw [if_neg hc21] at h
          refine sOff 120 (Bool.eq_false_iff.2 hc21) rfl rfl <| sOff 120 (Bool.eq_false_iff.2 hc21) rfl rfl <| st_val (ex_pick0 (b := (fGe t114 0)) rfl (Bool.eq_false_iff.2 hc21) (v := (.bool false)) rfl) <| asg (.bool false) rfl <| wl_nil ?_
          exact then_n ⟨false, _, rfl, mk_upds' (ae rfl (ae rfl (ae rfl (ae rfl (ae rfl (ae rfl (ae rfl ae0))))))), h⟩
        ·rw [if_neg hc20] at h
         refine sOff 116 (Bool.eq_false_iff.2 hc20) rfl rfl <| sOff 116 (Bool.eq_false_iff.2 hc20) rfl rfl <| st_val (ex_pick0 (b := s17.2.1) rfl (Bool.eq_false_iff.2 hc20) (v := (.bool false)) rfl) <| mv (.bool false) rfl <| sOff 120 (rfl : false = !true) rfl rfl <| sOff 120 (rfl : false = !true) rfl rfl <| st_val (ex_pick0 (b := false) rfl (rfl : false = false) (v := (.bool false)) rfl) <| asg (.bool false) rfl <| wl_nil ?_
         exact then_n ⟨false, _, rfl, mk_upds' (ae rfl (ae rfl (ae rfl (ae rfl (ae rfl (ae rfl (ae rfl ae0))))))), h⟩
      ·rw [if_neg hc18] at h; refine cond_0 (b := (decide (s17.2.2 < (t101.n : Int)))) rfl (decide_eq_false hc18) ?_
       refine wp_exit <| then_e <| then_e <| inb_e <| then_n <| seq_ <| region_ <| asg (.float .f64 4517110426252607488) rfl <| wl_nil <| then_n ?_
       refine wp_jn (σ := Bool) (fun s22 l => ∃ j, l = upds j [(0, (Sl.v t0)), (3, (Ptr (⟨b3, 0, none⟩ : Addr))), (9, (.int .i64 s15)), (148, (.bool s22))]) h ?_ ?_
       ·clear h; rintro s22 _ w ⟨j, rfl⟩ h
        by_cases hc26 : s22 = true
        ·rw [if_pos hc26] at h; refine cond_1 (b := s22) rfl hc26 ?_
         refine seq_ <| region_ <| mv (.int .i64 s15) rfl <| st_val (ex_build (a' := [(0, (.int .i64 s15)), (2, (.int .i64 142))]) (v := TFault14.v (⟨s15, 0, 142⟩ : TFault14)) rfl (e_build Try.underlying101 zero101 rfl pl101 rfl _)) <| asg (Sl.v Sl.nil) rfl ?_
         refine st_rnu (fun r => ex_store rfl rfl r) h ?_; clear h; intro w h
         refine wl_nil <| then_n <| wp_ret <| inb_r <| then_r <| then_r <| inb_r <| then_r ?_
         obtain ⟨r1_4, hr1_4, h⟩ := h
         refine ret_tc rfl rfl rfl hr1_4 ⟨(Sl.nil, r1_4), rfl, h⟩
        ·rw [if_neg hc26] at h; refine cond_0 (b := s22) rfl (Bool.eq_false_iff.2 hc26) ?_
         refine wp_skip <| inb_n <| then_n <| region_ <| mv (.int .i64 s15) rfl <| st_val (ex_add (a := s15) (b := 1) rfl rfl) <| asg (.int .i64 (IntKind.i64.wrap (s15 + 1))) rfl <| wl_nil ?_
         exact then_n ⟨(IntKind.i64.wrap (s15 + 1)), mk_upds (ae rfl (ae rfl (ae rfl ae0))), h⟩
       ·clear h; intro k22 h
        refine region_ <| mv (Sl.v t0) rfl <| mv (.int .i64 s15) rfl ?_
        refine st_rnp (fun r => ex_indexAddr rfl rfl r) h ?_; clear h; intro t129 h
        refine st_val (ex_fa fa48_0 (p := t129) rfl) ?_
        refine st_rn (fun r => ex_load rfl r) h ?_; clear h; intro t131 w h
        refine st_val (ex_eql (a := t131) (b := 2) rfl rfl) <| mv (.bool (decide (t131 = 2))) rfl ?_
        by_cases hc23 : t131 = 2
        ·rw [if_pos hc23] at h
         refine sOn 133 (decide_eq_true hc23) rfl rfl <| mv (.bool s17.2.1) rfl <| sOn 133 (decide_eq_true hc23) rfl rfl <| mv (.bool s17.2.1) rfl ?_
         by_cases hc24 : s17.2.1 = true
         ·rw [if_pos hc24] at h
          refine sOn 135 hc24 rfl rfl <| mv (.float .f64 s17.1) rfl <| sOn 135 hc24 rfl rfl <| mv (.float .f64 4517110426252607488) rfl <| sOn 135 hc24 rfl rfl ?_
          refine st_rn (fun r => ex_subF (a := 4636737291354636288) (b := 4517110426252607488) rfl rfl r) h ?_; clear h; intro t138 w h
          refine sOn 135 hc24 rfl rfl <| st_val (ex_geqF (a := s17.1) (b := t138) rfl rfl) <| sOn 133 (decide_eq_true hc23) rfl rfl <| st_val (ex_pick1 (b := s17.2.1) rfl hc24 (v := (.bool (fGe s17.1 t138))) rfl) <| sOn 133 (decide_eq_true hc23) rfl rfl <| mv (.bool (fGe s17.1 t138)) rfl ?_
          by_cases hc25 : (fGe s17.1 t138) = true
          ·rw [if_pos hc25] at h
           refine sOn 141 hc25 rfl rfl <| mv (.float .f64 s17.1) rfl <| sOn 141 hc25 rfl rfl <| mv (.float .f64 4517110426252607488) rfl <| sOn 141 hc25 rfl rfl ?_
           refine st_rn (fun r => ex_addF (a := 4636737291354636288) (b := 4517110426252607488) rfl rfl r) h ?_; clear h; intro t144 w h
           refine sOn 141 hc25 rfl rfl <| st_val (ex_leqF (a := s17.1) (b := t144) rfl rfl) <| sOn 133 (decide_eq_true hc23) rfl rfl <| st_val (ex_pick1 (b := (fGe s17.1 t138)) rfl hc25 (v := (.bool (fLe s17.1 t144))) rfl) <| sOn 133 (decide_eq_true hc23) rfl rfl <| st_val (ex_not (b := (fLe s17.1 t144)) rfl) <| st_val (ex_pick1 (b := (decide (t131 = 2))) rfl (decide_eq_true hc23) (v := (.bool (!(fLe s17.1 t144)))) rfl) <| wl_nil ?_
           exact then_n ⟨(!(fLe s17.1 t144)), _, rfl, mk_upds' (ae rfl (ae rfl (ae rfl (ae rfl ae0)))), h⟩
          ·rw [if_neg hc25] at h
           refine sOff 141 (Bool.eq_false_iff.2 hc25) rfl rfl <| sOff 141 (Bool.eq_false_iff.2 hc25) rfl rfl <| sOff 141 (Bool.eq_false_iff.2 hc25) rfl rfl <| sOff 141 (Bool.eq_false_iff.2 hc25) rfl rfl <| sOn 133 (decide_eq_true hc23) rfl rfl <| st_val (ex_pick0 (b := (fGe s17.1 t138)) rfl (Bool.eq_false_iff.2 hc25) (v := (.bool false)) rfl) <| sOn 133 (decide_eq_true hc23) rfl rfl <| st_val (ex_not (b := false) rfl) <| st_val (ex_pick1 (b := (decide (t131 = 2))) rfl (decide_eq_true hc23) (v := (.bool (!false))) rfl) <| wl_nil ?_
           exact then_n ⟨(!false), _, rfl, mk_upds' (ae rfl (ae rfl (ae rfl (ae rfl ae0)))), h⟩
         ·rw [if_neg hc24] at h
          refine sOff 135 (Bool.eq_false_iff.2 hc24) rfl rfl <| sOff 135 (Bool.eq_false_iff.2 hc24) rfl rfl <| sOff 135 (Bool.eq_false_iff.2 hc24) rfl rfl <| sOff 135 (Bool.eq_false_iff.2 hc24) rfl rfl <| sOn 133 (decide_eq_true hc23) rfl rfl <| st_val (ex_pick0 (b := s17.2.1) rfl (Bool.eq_false_iff.2 hc24) (v := (.bool false)) rfl) <| sOn 133 (decide_eq_true hc23) rfl rfl <| mv (.bool false) rfl <| sOff 141 (rfl : false = !true) rfl rfl <| sOff 141 (rfl : false = !true) rfl rfl ?_
          refine sOff 141 (rfl : false = !true) rfl rfl <| sOff 141 (rfl : false = !true) rfl rfl <| sOn 133 (decide_eq_true hc23) rfl rfl <| st_val (ex_pick0 (b := false) rfl (rfl : false = false) (v := (.bool false)) rfl) <| sOn 133 (decide_eq_true hc23) rfl rfl <| st_val (ex_not (b := false) rfl) <| st_val (ex_pick1 (b := (decide (t131 = 2))) rfl (decide_eq_true hc23) (v := (.bool (!false))) rfl) <| wl_nil ?_
          exact then_n ⟨(!false), _, rfl, mk_upds' (ae rfl (ae rfl (ae rfl (ae rfl ae0)))), h⟩
        ·rw [if_neg hc23] at h
         refine sOff 133 (decide_eq_false hc23) rfl rfl <| sOff 133 (decide_eq_false hc23) rfl rfl <| st_offu (t := 135) rfl rfl <| st_offu (t := 135) rfl rfl <| st_offu (t := 135) rfl rfl <| st_offu (t := 135) rfl rfl <| sOff 133 (decide_eq_false hc23) rfl rfl <| sOff 133 (decide_eq_false hc23) rfl rfl <| st_offu (t := 141) rfl rfl <| st_offu (t := 141) rfl rfl ?_
         refine st_offu (t := 141) rfl rfl <| st_offu (t := 141) rfl rfl <| sOff 133 (decide_eq_false hc23) rfl rfl <| sOff 133 (decide_eq_false hc23) rfl rfl <| st_val (ex_pick0 (b := (decide (t131 = 2))) rfl (decide_eq_false hc23) (v := (.bool false)) rfl) <| wl_nil ?_
         exact then_n ⟨false, _, rfl, mk_upds' (ae rfl (ae rfl (ae rfl (ae rfl ae0)))), h⟩
     ·rw [if_neg hc16] at h; refine cond_0 (b := (decide (s15 < (t0.n : Int)))) rfl (decide_eq_false hc16) ?_
      refine wp_exit <| then_e <| then_e <| inb_e <| then_n <| seq_ <| region_ <| mv (Sl.v t0) rfl ?_
      refine st_cal en102 rfl h ?_; clear h; intro t152 w h
      refine asg (Sl.v t152) rfl <| wl_nil <| then_n <| seq_ <| seq_ <| region_ <| asg (.int .i64 0) rfl <| wl_nil <| then_n <| wp_block ?_
      refine wp_lp (σ := Int) (fun s27 a => ∃ j, a = F 243 (upds j [(0, (Sl.v t0)), (3, (Ptr (⟨b3, 0, none⟩ : Addr))), (15, (Sl.v t152)), (16, (.int .i64 s27))])) h (mk_upds (ae rfl (ae rfl (ae rfl (ae rfl ae0))))) ?_
      clear h; rintro s27 _ w n27 ⟨j, rfl⟩ h
      refine seq_ <| seq_ <| region_ <| mv (.int .i64 s27) rfl <| mv (Sl.v t0) rfl <| st_val (ex_len (s := t0) Try.underlying22 rfl) <| st_val (ex_lss (a := s27) (b := (t0.n : Int)) rfl rfl) <| wl_nil <| then_n ?_
      by_cases hc28 : s27 < (t0.n : Int)
      ·rw [if_pos hc28] at h; refine cond_1 (b := (decide (s27 < (t0.n : Int)))) rfl (decide_eq_true hc28) ?_
       refine wp_skip <| then_n <| seq_ <| wp_block ?_
       refine wp_jn (σ := Bool) (fun s29 l => ∃ j, l = upds j [(0, (Sl.v t0)), (3, (Ptr (⟨b3, 0, none⟩ : Addr))), (15, (Sl.v t152)), (16, (.int .i64 s27)), (171, (.bool s29))]) h ?_ ?_
       ·clear h; rintro s29 _ w ⟨j, rfl⟩ h
        by_cases hc31 : s29 = true
        ·rw [if_pos hc31] at h; refine cond_1 (b := s29) rfl hc31 ?_
         refine seq_ <| region_ <| mv (.int .i64 s27) rfl <| st_val (ex_build (a' := [(0, (.int .i64 s27)), (2, (.int .i64 143))]) (v := TFault14.v (⟨s27, 0, 143⟩ : TFault14)) rfl (e_build Try.underlying101 zero101 rfl pl101 rfl _)) <| asg (Sl.v Sl.nil) rfl ?_
         refine st_rnu (fun r => ex_store rfl rfl r) h ?_; clear h; intro w h
         refine wl_nil <| then_n <| wp_ret <| inb_r <| then_r <| then_r <| inb_r <| then_r ?_
         obtain ⟨r1_5, hr1_5, h⟩ := h
         refine ret_tc rfl rfl rfl hr1_5 ⟨(Sl.nil, r1_5), rfl, h⟩
        ·rw [if_neg hc31] at h; refine cond_0 (b := s29) rfl (Bool.eq_false_iff.2 hc31) ?_
         refine wp_skip <| inb_n <| then_n <| region_ <| mv (.int .i64 s27) rfl <| st_val (ex_add (a := s27) (b := 1) rfl rfl) <| asg (.int .i64 (IntKind.i64.wrap (s27 + 1))) rfl <| wl_nil ?_
         exact then_n ⟨(IntKind.i64.wrap (s27 + 1)), mk_upds (ae rfl (ae rfl (ae rfl (ae rfl ae0)))), h⟩
       ·clear h; intro k29 h
        refine region_ <| mv (Sl.v t0) rfl <| mv (.int .i64 s27) rfl ?_
        refine st_rnp (fun r => ex_indexAddr rfl rfl r) h ?_; clear h; intro t161 h
        refine st_val (ex_fa fa48_0 (p := t161) rfl) ?_
        refine st_rn (fun r => ex_load rfl r) h ?_; clear h; intro t163 w h
        refine st_val (ex_eql (a := t163) (b := 2) rfl rfl) <| mv (.bool (decide (t163 = 2))) rfl ?_
        by_cases hc30 : t163 = 2
        ·rw [if_pos hc30] at h
         refine sOn 165 (decide_eq_true hc30) rfl rfl <| mv (Sl.v t152) rfl <| sOn 165 (decide_eq_true hc30) rfl rfl <| mv (.int .i64 s27) rfl <| sOn 165 (decide_eq_true hc30) rfl rfl ?_
         refine st_rnp (fun r => ex_indexAddr rfl rfl r) h ?_; clear h; intro t168 h
         refine sOn 165 (decide_eq_true hc30) rfl rfl ?_
         refine st_rn (fun r => ex_load rfl r) h ?_; clear h; intro t169 w h
         refine sOn 165 (decide_eq_true hc30) rfl rfl <| st_val (ex_eql (a := t169) (b := 0) rfl rfl) <| st_val (ex_pick1 (b := (decide (t163 = 2))) rfl (decide_eq_true hc30) (v := (.bool (decide (t169 = 0)))) rfl) <| wl_nil ?_
         exact then_n ⟨(decide (t169 = 0)), _, rfl, mk_upds' (ae rfl (ae rfl (ae rfl (ae rfl (ae rfl ae0))))), h⟩
        ·rw [if_neg hc30] at h
         refine sOff 165 (decide_eq_false hc30) rfl rfl <| sOff 165 (decide_eq_false hc30) rfl rfl <| sOff 165 (decide_eq_false hc30) rfl rfl <| sOff 165 (decide_eq_false hc30) rfl rfl <| sOff 165 (decide_eq_false hc30) rfl rfl <| st_val (ex_pick0 (b := (decide (t163 = 2))) rfl (decide_eq_false hc30) (v := (.bool false)) rfl) <| wl_nil ?_
         exact then_n ⟨false, _, rfl, mk_upds' (ae rfl (ae rfl (ae rfl (ae rfl (ae rfl ae0))))), h⟩
      ·rw [if_neg hc28] at h; refine cond_0 (b := (decide (s27 < (t0.n : Int)))) rfl (decide_eq_false hc28) ?_
       refine wp_exit <| then_e <| then_e <| inb_e <| then_n <| seq_ <| region_ <| asg (Sl.v Sl.nil) rfl <| wl_nil <| then_n ?_
       refine seq_ <| seq_ <| region_ <| asg (.int .i64 0) rfl <| wl_nil <| then_n <| wp_block <| wp_lp (σ := Sl × Int) (fun s32 a => ∃ j, a = F 243 (upds j [(0, (Sl.v t0)), (3, (Ptr (⟨b3, 0, none⟩ : Addr))), (17, (Sl.v s32.1)), (18, (.int .i64 s32.2))])) h (mk_upds (ae rfl (ae rfl (ae rfl (ae rfl ae0))))) ?_
       clear h; rintro s32 _ w n32 ⟨j, rfl⟩ h
       refine seq_ <| seq_ <| region_ <| mv (.int .i64 s32.2) rfl <| mv (Sl.v t0) rfl <| st_val (ex_len (s := t0) Try.underlying22 rfl) <| st_val (ex_lss (a := s32.2) (b := (t0.n : Int)) rfl rfl) <| wl_nil <| then_n ?_
       by_cases hc33 : s32.2 < (t0.n : Int)
       ·rw [if_pos hc33] at h; refine cond_1 (b := (decide (s32.2 < (t0.n : Int)))) rfl (decide_eq_true hc33) ?_
        refine wp_skip <| then_n ?_
        refine wp_jn (σ := Sl) (fun s34 l => ∃ j, l = upds j [(0, (Sl.v t0)), (3, (Ptr (⟨b3, 0, none⟩ : Addr))), (17, (Sl.v s34)), (18, (.int .i64 s32.2))]) h ?_ ?_
        ·clear h; rintro s34 _ w ⟨j, rfl⟩ h
         refine region_ <| mv (.int .i64 s32.2) rfl <| st_val (ex_add (a := s32.2) (b := 1) rfl rfl) <| asg (.int .i64 (IntKind.i64.wrap (s32.2 + 1))) rfl <| wl_nil ?_
         exact then_n ⟨(s34, (IntKind.i64.wrap (s32.2 + 1))), mk_upds (ae rfl (ae rfl (ae rfl (ae rfl ae0)))), h⟩
        ·clear h; intro k34 h
         refine wp_block <| seq_ <| seq_ <| region_ <| mv (Sl.v t0) rfl <| mv (.int .i64 s32.2) rfl ?_
         refine st_rnp (fun r => ex_indexAddr rfl rfl r) h ?_; clear h; intro t182 h
         refine st_val (ex_fa fa48_0 (p := t182) rfl) ?_
         refine st_rn (fun r => ex_load rfl r) h ?_; clear h; intro t184 w h
         refine st_val (ex_lss (a := t184) (b := 3) rfl rfl) <| wl_nil <| then_n ?_
         by_cases hc35 : t184 < 3
         ·rw [if_pos hc35] at h; refine cond_1 (b := (decide (t184 < 3))) rfl (decide_eq_true hc35) ?_
          refine wp_exit <| then_e <| inb_e ?_
          exact then_n ⟨s32.1, _, rfl, mk_upds' (ae rfl (ae rfl (ae rfl (ae rfl ae0)))), h⟩
         ·rw [if_neg hc35] at h; refine cond_0 (b := (decide (t184 < 3))) rfl (decide_eq_false hc35) ?_
          refine wp_skip <| then_n <| seq_ <| region_ <| asg (.int .i64 0) rfl <| wl_nil <| then_n <| wp_block <| wp_lp (σ := Sl × Int) (fun s36 a => ∃ j, a = F 243 (upds j [(0, (Sl.v t0)), (3, (Ptr (⟨b3, 0, none⟩ : Addr))), (17, (Sl.v s36.1)), (18, (.int .i64 s32.2)), (19, (.int .i64 s36.2))])) h (mk_upds (ae rfl (ae rfl (ae rfl (ae rfl (ae rfl ae0)))))) ?_
          clear h; rintro s36 _ w n36 ⟨j, rfl⟩ h
          refine seq_ <| seq_ <| region_ <| mv (.int .i64 s36.2) rfl <| mv (Sl.v t0) rfl <| mv (.int .i64 s32.2) rfl ?_
          refine st_rnp (fun r => ex_indexAddr rfl rfl r) h ?_; clear h; intro t189 h
          refine st_val (ex_fa fa48_5 (p := t189) rfl) ?_
          refine st_rn (fun r => ex_load rfl r) h ?_; clear h; intro t191 w h
          refine st_val (ex_len (s := t191) Try.underlying46 rfl) <| st_val (ex_lss (a := s36.2) (b := (t191.n : Int)) rfl rfl) <| wl_nil <| then_n ?_
          by_cases hc37 : s36.2 < (t191.n : Int)
          ·rw [if_pos hc37] at h; refine cond_1 (b := (decide (s36.2 < (t191.n : Int)))) rfl (decide_eq_true hc37) ?_
           refine wp_skip <| then_n ?_
           refine wp_jn (σ := Sl) (fun s38 l => ∃ j, l = upds j [(0, (Sl.v t0)), (3, (Ptr (⟨b3, 0, none⟩ : Addr))), (17, (Sl.v s38)), (18, (.int .i64 s32.2)), (19, (.int .i64 s36.2))]) h ?_ ?_
           ·clear h; rintro s38 _ w ⟨j, rfl⟩ h
            refine region_ <| mv (.int .i64 s36.2) rfl <| st_val (ex_add (a := s36.2) (b := 1) rfl rfl) <| asg (.int .i64 (IntKind.i64.wrap (s36.2 + 1))) rfl <| wl_nil ?_
            exact then_n ⟨(s38, (IntKind.i64.wrap (s36.2 + 1))), mk_upds (ae rfl (ae rfl (ae rfl (ae rfl (ae rfl ae0))))), h⟩
           ·clear h; intro k38 h
            refine wp_block <| seq_ <| region_ <| mv (Sl.v t0) rfl <| mv (.int .i64 s32.2) rfl ?_
            refine st_rnp (fun r => ex_indexAddr rfl rfl r) h ?_; clear h; intro t198 h
            refine st_val (ex_fa fa48_5 (p := t198) rfl) ?_
            refine st_rn (fun r => ex_load rfl r) h ?_; clear h; intro t200 w h
            refine mv (.int .i64 s36.2) rfl ?_
            refine st_rnp (fun r => ex_indexAddr rfl rfl r) h ?_; clear h; intro t202 h
            refine st_rn (fun r => ex_load rfl r) h ?_; clear h; intro t203 w h
            refine st_new (f := (fun b => Ptr ⟨b, 0, none⟩)) (ex_allocN zero91 rfl) h ?_; clear h; intro b20 w h
            refine st_rnu (fun r => ex_store rfl rfl r) h ?_; clear h; intro w h
            refine wl_nil <| then_n <| seq_ <| region_ <| asg (.int .i64 0) rfl <| wl_nil <| then_n <| wp_block <| wp_lp (σ := Sl × Int) (fun s39 a => ∃ j, a = F 243 (upds j [(0, (Sl.v t0)), (3, (Ptr (⟨b3, 0, none⟩ : Addr))), (17, (Sl.v s39.1)), (18, (.int .i64 s32.2)), (19, (.int .i64 s36.2)), (20, (Ptr (⟨b20, 0, none⟩ : Addr))), (21, (.int .i64 s39.2))])) h (mk_upds (ae rfl (ae rfl (ae rfl (ae rfl (ae rfl (ae rfl (ae rfl ae0)))))))) ?_
            clear h; rintro s39 _ w n39 ⟨j, rfl⟩ h
            refine seq_ <| seq_ <| region_ <| mv (.int .i64 s39.2) rfl <| mv (.int .i64 s36.2) rfl <| st_val (ex_lss (a := s39.2) (b := s36.2) rfl rfl) <| wl_nil <| then_n ?_
            by_cases hc40 : s39.2 < s36.2
            ·rw [if_pos hc40] at h; refine cond_1 (b := (decide (s39.2 < s36.2))) rfl (decide_eq_true hc40) ?_
             refine wp_skip <| then_n <| seq_ <| wp_block <| seq_ <| region_ <| mv (Sl.v t0) rfl <| mv (.int .i64 s32.2) rfl ?_
             refine st_rnp (fun r => ex_indexAddr rfl rfl r) h ?_; clear h; intro t211 h
             refine st_val (ex_fa fa48_5 (p := t211) rfl) ?_
             refine st_rn (fun r => ex_load rfl r) h ?_; clear h; intro t213 w h
             refine mv (.int .i64 s39.2) rfl ?_
             refine st_rnp (fun r => ex_indexAddr rfl rfl r) h ?_; clear h; intro t215 h
             refine st_rn (fun r => ex_load rfl r) h ?_; clear h; intro t216 w h
             refine st_new (f := (fun b => Ptr ⟨b, 0, none⟩)) (ex_allocN zero91 rfl) h ?_; clear h; intro b22 w h
             refine st_rnu (fun r => ex_store rfl rfl r) h ?_; clear h; intro w h
             refine wl_nil <| then_n ?_
             refine wp_jn (σ := Bool) (fun s41 l => ∃ j, l = upds j [(0, (Sl.v t0)), (3, (Ptr (⟨b3, 0, none⟩ : Addr))), (17, (Sl.v s39.1)), (18, (.int .i64 s32.2)), (19, (.int .i64 s36.2)), (20, (Ptr (⟨b20, 0, none⟩ : Addr))), (21, (.int .i64 s39.2)), (233, (.bool s41))]) h ?_ ?_
             ·clear h; rintro s41 _ w ⟨j, rfl⟩ h
              by_cases hc44 : s41 = true
              ·rw [if_pos hc44] at h; refine cond_1 (b := s41) rfl hc44 ?_
               refine seq_ <| region_ <| mv (Sl.v s39.1) rfl <| mv (.int .i64 s32.2) rfl <| mv (.int .i64 s36.2) rfl <| mv (.int .i64 s39.2) rfl <| st_val (ex_build (a' := [(0, (.int .i64 s32.2)), (1, (.int .i64 s36.2)), (2, (.int .i64 s39.2))]) (v := TWarning14.v (⟨s32.2, s36.2, s39.2⟩ : TWarning14)) rfl (e_build Try.underlying160 zero160 rfl pl160 rfl _)) ?_
               refine st_new (f := (fun b => Sl.v ⟨some ⟨b, 0, none⟩, 1, 1⟩)) (ex_buildSlice (a' := [(0, (TWarning14.v (⟨s32.2, s36.2, s39.2⟩ : TWarning14)))]) rfl (e_buildSlice (cs := ((TWarning14.cells (⟨s32.2, s36.2, s39.2⟩ : TWarning14)))) Try.underlying99 info160 iz160 (by decide +kernel) (by decide +kernel) (by kernel_rfl) _)) h ?_; clear h; intro b239 w h
               refine st_rn (fun r => ex_builtin rfl (fun _ => rfl) r) h ?_; clear h; intro t240 w h
               refine asg (Sl.v t240) rfl <| wl_nil <| then_n <| wp_exit <| inb_o rfl <| then_e <| then_e <| inb_e <| inb_n ?_
               exact then_n ⟨t240, _, rfl, mk_upds' (ae rfl (ae rfl (ae rfl (ae rfl (ae rfl ae0))))), h⟩
              ·rw [if_neg hc44] at h; refine cond_0 (b := s41) rfl (Bool.eq_false_iff.2 hc44) ?_
               refine wp_skip <| inb_n <| then_n <| region_ <| mv (.int .i64 s39.2) rfl <| st_val (ex_add (a := s39.2) (b := 1) rfl rfl) <| asg (.int .i64 (IntKind.i64.wrap (s39.2 + 1))) rfl <| wl_nil ?_
               exact then_n ⟨(s39.1, (IntKind.i64.wrap (s39.2 + 1))), mk_upds (ae rfl (ae rfl (ae rfl (ae rfl (ae rfl (ae rfl (ae rfl ae0))))))), h⟩
             ·clear h; intro k41 h
              refine region_ <| st_val (ex_fa fa91_1 (p := (⟨b22, 0, none⟩ : Addr)) rfl) ?_
              refine st_rn (fun r => ex_load rfl r) h ?_; clear h; intro t218 w h
              refine st_val (ex_eqlS (a := t218) (b := (⟨#[42]⟩ : ByteArray)) rfl rfl) <| mv (.bool (decide (t218 = (⟨#[42]⟩ : ByteArray)))) rfl ?_
              by_cases hc42 : t218 = (⟨#[42]⟩ : ByteArray)
              ·rw [if_pos hc42] at h
               refine sOff 220 (decide_eq_true hc42) rfl rfl <| sOff 220 (decide_eq_true hc42) rfl rfl <| sOff 220 (decide_eq_true hc42) rfl rfl <| sOff 220 (decide_eq_true hc42) rfl rfl <| sOff 220 (decide_eq_true hc42) rfl rfl <| st_val (ex_pick1 (b := (decide (t218 = (⟨#[42]⟩ : ByteArray)))) rfl (decide_eq_true hc42) (v := (.bool true)) rfl) <| mv (.bool true) rfl <| sOn 227 (rfl : true = true) rfl rfl <| st_val (ex_fa fa91_0 (p := (⟨b22, 0, none⟩ : Addr)) rfl) <| sOn 227 (rfl : true = true) rfl rfl ?_
               refine st_rn (fun r => ex_load rfl r) h ?_; clear h; intro t229 w h
               refine sOn 227 (rfl : true = true) rfl rfl <| st_val (ex_fa fa91_0 (p := (⟨b20, 0, none⟩ : Addr)) rfl) <| sOn 227 (rfl : true = true) rfl rfl ?_
               refine st_rn (fun r => ex_load rfl r) h ?_; clear h; intro t231 w h
               refine sOn 227 (rfl : true = true) rfl rfl ?_
               refine st_cal en103 rfl h ?_; clear h; intro t232 w h
               refine st_val (ex_pick1 (b := true) rfl (rfl : true = true) (v := (.bool t232)) rfl) <| wl_nil ?_
               exact then_n ⟨t232, _, rfl, mk_upds' (ae rfl (ae rfl (ae rfl (ae rfl (ae rfl (ae rfl (ae rfl (ae rfl ae0)))))))), h⟩
              ·rw [if_neg hc42] at h
               refine sOn 220 (decide_eq_false hc42) rfl rfl <| st_val (ex_fa fa91_1 (p := (⟨b22, 0, none⟩ : Addr)) rfl) <| sOn 220 (decide_eq_false hc42) rfl rfl ?_
               refine st_rn (fun r => ex_load rfl r) h ?_; clear h; intro t222 w h
               refine sOn 220 (decide_eq_false hc42) rfl rfl <| st_val (ex_fa fa91_1 (p := (⟨b20, 0, none⟩ : Addr)) rfl) <| sOn 220 (decide_eq_false hc42) rfl rfl ?_
               refine st_rn (fun r => ex_load rfl r) h ?_; clear h; intro t224 w h
               refine sOn 220 (decide_eq_false hc42) rfl rfl <| st_val (ex_eqlS (a := t222) (b := t224) rfl rfl) <| st_val (ex_pick0 (b := (decide (t218 = (⟨#[42]⟩ : ByteArray)))) rfl (decide_eq_false hc42) (v := (.bool (decide (t222 = t224)))) rfl) <| mv (.bool (decide (t222 = t224))) rfl ?_
               by_cases hc43 : t222 = t224
               ·rw [if_pos hc43] at h
                refine sOn 227 (decide_eq_true hc43) rfl rfl <| st_val (ex_fa fa91_0 (p := (⟨b22, 0, none⟩ : Addr)) rfl) <| sOn 227 (decide_eq_true hc43) rfl rfl ?_
                refine st_rn (fun r => ex_load rfl r) h ?_; clear h; intro t229_1 w h
                refine sOn 227 (decide_eq_true hc43) rfl rfl <| st_val (ex_fa fa91_0 (p := (⟨b20, 0, none⟩ : Addr)) rfl) <| sOn 227 (decide_eq_true hc43) rfl rfl ?_
                refine st_rn (fun r => ex_load rfl r) h ?_; clear h; intro t231_1 w h
                refine sOn 227 (decide_eq_true hc43) rfl rfl ?_
                refine st_cal en103 rfl h ?_; clear h; intro t232_1 w h
                refine st_val (ex_pick1 (b := (decide (t222 = t224))) rfl (decide_eq_true hc43) (v := (.bool t232_1)) rfl) <| wl_nil ?_
                exact then_n ⟨t232_1, _, rfl, mk_upds' (ae rfl (ae rfl (ae rfl (ae rfl (ae rfl (ae rfl (ae rfl (ae rfl ae0)))))))), h⟩
               ·rw [if_neg hc43] at h
                refine sOff 227 (decide_eq_false hc43) rfl rfl <| sOff 227 (decide_eq_false hc43) rfl rfl <| sOff 227 (decide_eq_false hc43) rfl rfl <| sOff 227 (decide_eq_false hc43) rfl rfl <| sOff 227 (decide_eq_false hc43) rfl rfl <| st_val (ex_pick0 (b := (decide (t222 = t224))) rfl (decide_eq_false hc43) (v := (.bool false)) rfl) <| wl_nil ?_
                exact then_n ⟨false, _, rfl, mk_upds' (ae rfl (ae rfl (ae rfl (ae rfl (ae rfl (ae rfl (ae rfl (ae rfl ae0)))))))), h⟩
            ·rw [if_neg hc40] at h; refine cond_0 (b := (decide (s39.2 < s36.2))) rfl (decide_eq_false hc40) ?_
             refine wp_exit <| then_e <| then_e <| inb_e <| inb_n ?_
             exact then_n ⟨s39.1, _, rfl, mk_upds' (ae rfl (ae rfl (ae rfl (ae rfl (ae rfl ae0))))), h⟩
          ·rw [if_neg hc37] at h; refine cond_0 (b := (decide (s36.2 < (t191.n : Int)))) rfl (decide_eq_false hc37) ?_
           refine wp_exit <| then_e <| then_e <| inb_e <| inb_n ?_
           exact then_n ⟨s36.1, _, rfl, mk_upds' (ae rfl (ae rfl (ae rfl (ae rfl ae0)))), h⟩
       ·rw [if_neg hc33] at h; refine cond_0 (b := (decide (s32.2 < (t0.n : Int)))) rfl (decide_eq_false hc33) ?_
        refine wp_exit <| then_e <| then_e <| inb_e <| then_n <| seq_ <| region_ <| mv (Sl.v s32.1) rfl <| st_val (ex_build (a' := []) (v := TFault14.v (⟨0, 0, 0⟩ : TFault14)) rfl (e_build Try.underlying101 zero101 rfl pl101 rfl _)) <| asg (Sl.v s32.1) rfl ?_
        refine st_rnu (fun r => ex_store rfl rfl r) h ?_; clear h; intro w h
        refine wl_nil <| then_n <| wp_ret ?_
        obtain ⟨r1_6, hr1_6, h⟩ := h
        refine ret_tc rfl rfl rfl hr1_6 ⟨(s32.1, r1_6), rfl, h⟩


end Go.Proofs.Ytdoeegfcmbcbkaa.Tr


namespace Go.Proofs.Ytdoeegfcmbcbkaa.Tr
open Go Go.Eng
set_option linter.unusedVariables false
set_option maxRecDepth 100000
set_option maxHeartbeats 4000000
def f59 (t0 : Sl) (R : ((Option Addr)) → World → Prop) (w : World) : Prop :=
 New 109 (TKnown15.cells (⟨Sl.nil, Sl.nil⟩ : TKnown15)) w fun b9 w =>
 Lp (σ := Int) (fun s1 w n1 =>
  if s1 < (t0.n : Int) then
   Lp (σ := Int) (fun s3 w n3 =>
    if s3 < (t0.n : Int) then
     Jn (σ := Unit) (fun k5 =>
      Jn (σ := Bool) (fun k6 =>
       RnP Try.prog Ptr (Instr.indexAt 22 (Sl.v t0) (.int .i64 s3)) fun t24 =>
       Rn Try.prog (Value.int .i64) (Instr.loadAt 3 (Ptr (t24.add 0))) w fun t26 w =>
       if t26 ≠ 2 then
        k6 true w
       else
        RnP Try.prog Ptr (Instr.indexAt 22 (Sl.v t0) (.int .i64 s3)) fun t32 =>
        Rn Try.prog Value.string (Instr.loadAt 9 (Ptr (t32.add 1))) w fun t34 w =>
        Cal Try.prog (Value.int .i64) 60 #[(Ptr (⟨b9, 0, none⟩ : Addr)), (.string t34)] w fun t35 w =>
        k6 (decide (0 ≤ t35)) w
      ) fun s6 w =>
       if s6 = true then
        k5 () w
       else
        RnP Try.prog Ptr (Instr.indexAt 22 (Sl.v t0) (.int .i64 s3)) fun t42 =>
        Rn Try.prog TResource.v (Instr.loadAt 48 (Ptr t42)) w fun t43 w =>
        Cal Try.prog (fun x : Sl × Bool => Value.tuple #[(Sl.v x.1), (.bool x.2)]) 104 #[(Ptr (⟨b9, 0, none⟩ : Addr)), (TResource.v t43)] w fun t44 w =>
        if t44.2 = true then
         Dr w fun w10 w =>
          RnL Try.prog Sl.v (Instr.loadAt 44 (Ptr ((⟨b9, 0, none⟩ : Addr).add 0))) w10 fun t52 =>
          RnP Try.prog Ptr (Instr.indexAt 22 (Sl.v t0) (.int .i64 s3)) fun t55 =>
          RnL Try.prog Value.string (Instr.loadAt 9 (Ptr (t55.add 1))) w10 fun t57 =>
          New 9 ([(.string t57)]) w fun b58 w =>
          Rn Try.prog Sl.v (Builtin.append_ #[44, 44] 44 #[(Sl.v t52), (Sl.v (⟨some ⟨b58, 0, none⟩, 1, 1⟩ : Sl))]) w fun t59 w =>
          RnU Try.prog (Instr.storeAt 44 (Ptr ((⟨b9, 0, none⟩ : Addr).add 0)) (Sl.v t59)) w fun w =>
          Rn Try.prog Sl.v (Instr.loadAt 107 (Ptr ((⟨b9, 0, none⟩ : Addr).add 1))) w fun t66 w =>
          New 23 ([(Sl.v t44.1)]) w fun b68 w =>
          Rn Try.prog Sl.v (Builtin.append_ #[107, 107] 107 #[(Sl.v t66), (Sl.v (⟨some ⟨b68, 0, none⟩, 1, 1⟩ : Sl))]) w fun t69 w =>
          RnU Try.prog (Instr.storeAt 107 (Ptr ((⟨b9, 0, none⟩ : Addr).add 1)) (Sl.v t69)) w fun w =>
          k5 () w
        else
         k5 () w
     ) fun s5 w =>
      n3 (IntKind.i64.wrap (s3 + 1)) w
    else
     n1 (IntKind.i64.wrap (s1 + 1)) w
   ) 0 w
  else
   R (some (⟨b9, 0, none⟩ : Addr)) w
 ) 0 w
theorem c59 {t0 : Sl} {R : ((Option Addr)) → World → Prop} {w : World} (h : f59 t0 R w) :
  Cal Try.prog Value.pointer 59 #[(Sl.v t0)] w R := by
 unfold f59 at h
 refine calls_ Try.func59 Try.ntmps59 rfl rfl <| seq_ <| region_ <| asg (.pointer none) rfl <| wl_nil <| then_n <| seq_ <| region_ <| st_val (ex_build (a' := []) (v := TKnown15.v (⟨Sl.nil, Sl.nil⟩ : TKnown15)) rfl (e_build Try.underlying109 zero109 rfl pl109 rfl _)) ?_
 refine st_new (f := (fun b => Ptr ⟨b, 0, none⟩)) (ex_boxN rfl rfl) h ?_; clear h; intro b9 w h
 refine asg (Ptr (⟨b9, 0, none⟩ : Addr)) rfl <| wl_nil <| then_n <| seq_ <| seq_ <| region_ <| asg (.int .i64 0) rfl <| wl_nil <| then_n <| wp_block ?_
 refine wp_lp (σ := Int) (fun s1 a => ∃ j, a = F 73 (upds j [(0, (Sl.v t0)), (3, (Ptr (⟨b9, 0, none⟩ : Addr))), (4, (.int .i64 s1))])) h (mk_upds (ae rfl (ae rfl (ae rfl ae0)))) ?_
 clear h; rintro s1 _ w n1 ⟨j, rfl⟩ h
 refine seq_ <| seq_ <| region_ <| mv (.int .i64 s1) rfl <| mv (Sl.v t0) rfl <| st_val (ex_len (s := t0) Try.underlying22 rfl) <| st_val (ex_lss (a := s1) (b := (t0.n : Int)) rfl rfl) <| wl_nil <| then_n ?_
 by_cases hc2 : s1 < (t0.n : Int)
 ·rw [if_pos hc2] at h; refine cond_1 (b := (decide (s1 < (t0.n : Int)))) rfl (decide_eq_true hc2) ?_
  refine wp_skip <| then_n <| seq_ <| wp_block <| seq_ <| region_ <| asg (.int .i64 0) rfl <| wl_nil <| then_n <| wp_block ?_
  refine wp_lp (σ := Int) (fun s3 a => ∃ j, a = F 73 (upds j [(0, (Sl.v t0)), (3, (Ptr (⟨b9, 0, none⟩ : Addr))), (4, (.int .i64 s1)), (5, (.int .i64 s3))])) h (mk_upds (ae rfl (ae rfl (ae rfl (ae rfl ae0))))) ?_
  clear h; rintro s3 _ w n3 ⟨j, rfl⟩ h
  refine seq_ <| seq_ <| region_ <| mv (.int .i64 s3) rfl <| mv (Sl.v t0) rfl <| st_val (ex_len (s := t0) Try.underlying22 rfl) <| st_val (ex_lss (a := s3) (b := (t0.n : Int)) rfl rfl) <| wl_nil <| then_n ?_
  by_cases hc4 : s3 < (t0.n : Int)
  ·rw [if_pos hc4] at h; refine cond_1 (b := (decide (s3 < (t0.n : Int)))) rfl (decide_eq_true hc4) ?_
   refine wp_skip <| then_n ?_
   refine wp_jn (σ := Unit) (fun s5 l => ∃ j, l = upds j [(0, (Sl.v t0)), (3, (Ptr (⟨b9, 0, none⟩ : Addr))), (4, (.int .i64 s1)), (5, (.int .i64 s3))]) h ?_ ?_
   ·clear h; rintro s5 _ w ⟨j, rfl⟩ h
    refine region_ <| mv (.int .i64 s3) rfl <| st_val (ex_add (a := s3) (b := 1) rfl rfl) <| asg (.int .i64 (IntKind.i64.wrap (s3 + 1))) rfl <| wl_nil ?_
    exact then_n ⟨(IntKind.i64.wrap (s3 + 1)), mk_upds (ae rfl (ae rfl (ae rfl (ae rfl ae0)))), h⟩
   ·clear h; intro k5 h
    refine wp_block <| seq_ ?_
    refine wp_jn (σ := Bool) (fun s6 l => ∃ j, l = upds j [(0, (Sl.v t0)), (3, (Ptr (⟨b9, 0, none⟩ : Addr))), (4, (.int .i64 s1)), (5, (.int .i64 s3)), (37, (.bool s6))]) h ?_ ?_
    ·clear h; rintro s6 _ w ⟨j, rfl⟩ h
     by_cases hc8 : s6 = true
     ·rw [if_pos hc8] at h; refine cond_1 (b := s6) rfl hc8 ?_
      refine wp_exit <| then_e <| inb_e ?_
      exact then_n ⟨(), _, rfl, mk_upds' (ae rfl (ae rfl (ae rfl (ae rfl ae0)))), h⟩
     ·rw [if_neg hc8] at h; refine cond_0 (b := s6) rfl (Bool.eq_false_iff.2 hc8) ?_
      refine wp_skip <| then_n <| seq_ <| region_ <| mv (Ptr (⟨b9, 0, none⟩ : Addr)) rfl <| mv (Sl.v t0) rfl <| mv (.int .i64 s3) rfl ?_
      refine st_rnp (fun r => ex_indexAddr rfl rfl r) h ?_; clear h; intro t42 h
      refine st_rn (fun r => ex_load rfl r) h ?_; clear h; intro t43 w h
      refine st_cal en104 rfl h ?_; clear h; intro t44 w h
      refine mv (.tuple #[(Sl.v t44.1), (.bool t44.2)]) rfl <| st_val (ex_extract (u := (.tuple #[(Sl.v t44.1), (.bool t44.2)])) rfl (v := (Sl.v t44.1)) rfl) <| st_val (ex_extract (u := (.tuple #[(Sl.v t44.1), (.bool t44.2)])) rfl (v := (.bool t44.2)) rfl) <| asg (Sl.v t44.1) rfl <| asg (.bool t44.2) rfl <| wl_nil <| then_n <| seq_ <| region_ <| mv (.bool t44.2) rfl ?_
      refine wl_nil <| then_n ?_
      by_cases hc9 : t44.2 = true
      ·rw [if_pos hc9] at h; refine cond_1 (b := t44.2) rfl hc9 ?_
       refine seq_ ?_
       refine dr_begin mixed [11, 14] (listed := #[false, false, false, false, false, false, false, false, false, false, false, false, false, false, false]) rfl (n := 15) rfl h ?_; clear h; intro w10 h
       have hE : Ext w10 w10 := Ext.refl _
       refine tP 0 rfl (fun _ => hE) (fun _ => ex_move (v := (Ptr (⟨b9, 0, none⟩ : Addr))) rfl) <| tP 1 rfl (fun _ => hE) (fun _ => ex_move (v := (Ptr (⟨b9, 0, none⟩ : Addr))) rfl) <| tP 2 rfl (fun _ => hE) (fun _ => ex_nilCheck (p := (⟨b9, 0, none⟩ : Addr)) rfl) <| tP 3 rfl (fun _ => hE) (fun _ => ex_fa fa109_0 (p := (⟨b9, 0, none⟩ : Addr)) rfl) ?_
       obtain ⟨t52, ht52, h⟩ := h
       refine tK 4 rfl hE (fun _ hw => (fun r => ex_load rfl r) (ht52 _ hw)) <| tP 5 rfl (fun _ => hE) (fun _ => ex_move (v := (Sl.v t0)) rfl) <| tP 6 rfl (fun _ => hE) (fun _ => ex_move (v := (.int .i64 s3)) rfl) ?_
       obtain ⟨t55, ht55, h⟩ := h
       refine tP 7 rfl (fun _ => hE) (fun _ => (fun r => ex_indexAddr rfl rfl r) (ht55 _)) <| tP 8 rfl (fun _ => hE) (fun _ => ex_fa fa48_1 (p := t55) rfl) ?_
       obtain ⟨t57, ht57, h⟩ := h
       refine tK 9 rfl hE (fun _ hw => (fun r => ex_load rfl r) (ht57 _ hw)) <| dr_only (i := 10) (by kernel_rfl) rfl rfl ?_
       refine o_new (f := (fun b => Sl.v ⟨some ⟨b, 0, none⟩, 1, 1⟩)) (ex_buildSlice (a' := [(0, (.string t57))]) rfl (e_buildSlice (cs := ([(.string t57)])) Try.underlying44 info9 iz9 (by decide +kernel) (by decide +kernel) (by kernel_rfl) _)) h ?_; clear h; intro b58 w hx h; replace hE := hE.trans hx; clear hx; refine ⟨fun _ => hE, ?_⟩
       refine dr_only (i := 11) (by kernel_rfl) rfl rfl ?_
       refine o_rn (fun r => ex_builtin rfl (fun _ => rfl) r) h ?_; clear h; intro t59 w h; refine ⟨noG (by kernel_rfl), ?_⟩
       refine tP 12 rfl (noG (by kernel_rfl)) (fun _ => ex_nilCheck (p := (⟨b9, 0, none⟩ : Addr)) rfl) <| tP 13 rfl (noG (by kernel_rfl)) (fun _ => ex_fa fa109_0 (p := (⟨b9, 0, none⟩ : Addr)) rfl) <| dr_only (i := 14) (by kernel_rfl) rfl rfl ?_
       refine o_rnu (fun r => ex_store rfl rfl r) h ?_; clear h; intro w h; refine ⟨noG (by kernel_rfl), ?_⟩
       refine dr_end (by kernel_rfl) <| then_n <| region_ <| mv (Ptr (⟨b9, 0, none⟩ : Addr)) rfl <| mv (Ptr (⟨b9, 0, none⟩ : Addr)) rfl <| st_val (ex_nilCheck (p := (⟨b9, 0, none⟩ : Addr)) rfl) <| st_val (ex_fa fa109_1 (p := (⟨b9, 0, none⟩ : Addr)) rfl) ?_
       refine st_rn (fun r => ex_load rfl r) h ?_; clear h; intro t66 w h
       refine mv (Sl.v t44.1) rfl ?_
       refine st_new (f := (fun b => Sl.v ⟨some ⟨b, 0, none⟩, 1, 1⟩)) (ex_buildSlice (a' := [(0, (Sl.v t44.1))]) rfl (e_buildSlice (cs := ([(Sl.v t44.1)])) Try.underlying107 info23 iz23 (by decide +kernel) (by decide +kernel) (by kernel_rfl) _)) h ?_; clear h; intro b68 w h
       refine st_rn (fun r => ex_builtin rfl (fun _ => rfl) r) h ?_; clear h; intro t69 w h
       refine st_val (ex_nilCheck (p := (⟨b9, 0, none⟩ : Addr)) rfl) <| st_val (ex_fa fa109_1 (p := (⟨b9, 0, none⟩ : Addr)) rfl) ?_
       refine st_rnu (fun r => ex_store rfl rfl r) h ?_; clear h; intro w h
       refine wl_nil <| inb_n ?_
       exact then_n ⟨(), _, rfl, mk_upds' (ae rfl (ae rfl (ae rfl (ae rfl ae0)))), h⟩
      ·rw [if_neg hc9] at h; refine cond_0 (b := t44.2) rfl (Bool.eq_false_iff.2 hc9) ?_
       refine wp_skip <| inb_n ?_
       exact then_n ⟨(), _, rfl, mk_upds' (ae rfl (ae rfl (ae rfl (ae rfl ae0)))), h⟩
    ·clear h; intro k6 h
     refine region_ <| mv (Sl.v t0) rfl <| mv (.int .i64 s3) rfl ?_
     refine st_rnp (fun r => ex_indexAddr rfl rfl r) h ?_; clear h; intro t24 h
     refine st_val (ex_fa fa48_0 (p := t24) rfl) ?_
     refine st_rn (fun r => ex_load rfl r) h ?_; clear h; intro t26 w h
     refine st_val (ex_neq (a := t26) (b := 2) rfl rfl) <| mv (.bool (decide (t26 ≠ 2))) rfl ?_
     by_cases hc7 : t26 ≠ 2
     ·rw [if_pos hc7] at h
      refine sOff 28 (decide_eq_true hc7) rfl rfl <| sOff 28 (decide_eq_true hc7) rfl rfl <| sOff 28 (decide_eq_true hc7) rfl rfl <| sOff 28 (decide_eq_true hc7) rfl rfl <| sOff 28 (decide_eq_true hc7) rfl rfl <| sOff 28 (decide_eq_true hc7) rfl rfl <| sOff 28 (decide_eq_true hc7) rfl rfl <| sOff 28 (decide_eq_true hc7) rfl rfl <| st_val (ex_pick1 (b := (decide (t26 ≠ 2))) rfl (decide_eq_true hc7) (v := (.bool true)) rfl) <| wl_nil ?_
      exact then_n ⟨true, _, rfl, mk_upds' (ae rfl (ae rfl (ae rfl (ae rfl (ae rfl ae0))))), h⟩
     ·rw [if_neg hc7] at h
      refine sOn 28 (decide_eq_false hc7) rfl rfl <| mv (Ptr (⟨b9, 0, none⟩ : Addr)) rfl <| sOn 28 (decide_eq_false hc7) rfl rfl <| mv (Sl.v t0) rfl <| sOn 28 (decide_eq_false hc7) rfl rfl <| mv (.int .i64 s3) rfl <| sOn 28 (decide_eq_false hc7) rfl rfl ?_
      refine st_rnp (fun r => ex_indexAddr rfl rfl r) h ?_; clear h; intro t32 h
      refine sOn 28 (decide_eq_false hc7) rfl rfl <| st_val (ex_fa fa48_1 (p := t32) rfl) <| sOn 28 (decide_eq_false hc7) rfl rfl ?_
      refine st_rn (fun r => ex_load rfl r) h ?_; clear h; intro t34 w h
      refine sOn 28 (decide_eq_false hc7) rfl rfl ?_
      refine st_cal en60 rfl h ?_; clear h; intro t35 w h
      refine sOn 28 (decide_eq_false hc7) rfl rfl <| st_val (ex_geq (a := t35) (b := 0) rfl rfl) <| st_val (ex_pick0 (b := (decide (t26 ≠ 2))) rfl (decide_eq_false hc7) (v := (.bool (decide (0 ≤ t35)))) rfl) <| wl_nil ?_
      exact then_n ⟨(decide (0 ≤ t35)), _, rfl, mk_upds' (ae rfl (ae rfl (ae rfl (ae rfl (ae rfl ae0))))), h⟩
  ·rw [if_neg hc4] at h; refine cond_0 (b := (decide (s3 < (t0.n : Int)))) rfl (decide_eq_false hc4) ?_
   refine wp_exit <| then_e <| then_e <| inb_e <| inb_n <| then_n <| region_ <| mv (.int .i64 s1) rfl <| st_val (ex_add (a := s1) (b := 1) rfl rfl) <| asg (.int .i64 (IntKind.i64.wrap (s1 + 1))) rfl ?_
   refine wl_nil ?_
   exact then_n ⟨(IntKind.i64.wrap (s1 + 1)), mk_upds (ae rfl (ae rfl (ae rfl ae0))), h⟩
 ·rw [if_neg hc2] at h; refine cond_0 (b := (decide (s1 < (t0.n : Int)))) rfl (decide_eq_false hc2) ?_
  refine wp_exit <| then_e <| then_e <| inb_e <| then_n <| seq_ <| region_ <| mv (Ptr (⟨b9, 0, none⟩ : Addr)) rfl <| asg (Ptr (⟨b9, 0, none⟩ : Addr)) rfl <| wl_nil ?_
  refine then_n <| wp_ret ?_
  refine ret_1 rfl rfl ⟨(some (⟨b9, 0, none⟩ : Addr)), rfl, h⟩

def f60 (t0 : (Option Addr)) (t1 : ByteArray) (R : (Int) → World → Prop) (w : World) : Prop :=
 Lp (σ := Int) (fun s1 w n1 =>
  NotNil t0 fun t8 =>
  Rn Try.prog Sl.v (Instr.loadAt 44 (Ptr (t8.add 0))) w fun t10 w =>
  if s1 < (t10.n : Int) then
   NotNil t0 fun t16 =>
   Rn Try.prog Sl.v (Instr.loadAt 44 (Ptr (t16.add 0))) w fun t18 w =>
   RnP Try.prog Ptr (Instr.indexAt 44 (Sl.v t18) (.int .i64 s1)) fun t20 =>
   Rn Try.prog Value.string (Instr.loadAt 9 (Ptr t20)) w fun t21 w =>
   if t21 = t1 then
    R s1 w
   else
    n1 (IntKind.i64.wrap (s1 + 1)) w
  else
   R (-1) w
 ) 0 w
theorem c60 {t0 : (Option Addr)} {t1 : ByteArray} {R : (Int) → World → Prop} {w : World} (h : f60 t0 t1 R w) :
  Cal Try.prog (Value.int .i64) 60 #[(.pointer t0), (.string t1)] w R := by
 unfold f60 at h
 refine calls_ Try.func60 Try.ntmps60 rfl rfl <| seq_ <| region_ <| asg (.int .i64 0) rfl <| wl_nil <| then_n <| seq_ <| seq_ <| region_ <| asg (.int .i64 0) rfl ?_
 refine wl_nil <| then_n <| wp_block <| wp_lp (σ := Int) (fun s1 a => ∃ j, a = F 25 (upds j [(0, (.pointer t0)), (1, (.string t1)), (5, (.int .i64 s1))])) h (mk_upds (ae rfl (ae rfl (ae rfl ae0)))) ?_
 clear h; rintro s1 _ w n1 ⟨j, rfl⟩ h
 refine seq_ <| seq_ <| region_ <| mv (.int .i64 s1) rfl <| mv (.pointer t0) rfl ?_
 obtain ⟨t8, ht8, h⟩ := h
 refine st_val (ex_nilCheckP (p := t0) rfl ht8) <| st_val (ex_fa fa109_0 (p := t8) rfl) ?_
 refine st_rn (fun r => ex_load rfl r) h ?_; clear h; intro t10 w h
 refine st_val (ex_len (s := t10) Try.underlying44 rfl) <| st_val (ex_lss (a := s1) (b := (t10.n : Int)) rfl rfl) <| wl_nil <| then_n ?_
 by_cases hc2 : s1 < (t10.n : Int)
 ·rw [if_pos hc2] at h; refine cond_1 (b := (decide (s1 < (t10.n : Int)))) rfl (decide_eq_true hc2) ?_
  refine wp_skip <| then_n <| seq_ <| wp_block <| seq_ <| region_ <| mv (.pointer t0) rfl ?_
  obtain ⟨t16, ht16, h⟩ := h
  refine st_val (ex_nilCheckP (p := t0) rfl ht16) <| st_val (ex_fa fa109_0 (p := t16) rfl) ?_
  refine st_rn (fun r => ex_load rfl r) h ?_; clear h; intro t18 w h
  refine mv (.int .i64 s1) rfl ?_
  refine st_rnp (fun r => ex_indexAddr rfl rfl r) h ?_; clear h; intro t20 h
  refine st_rn (fun r => ex_load rfl r) h ?_; clear h; intro t21 w h
  refine mv (.string t1) rfl <| st_val (ex_eqlS (a := t21) (b := t1) rfl rfl) <| wl_nil <| then_n ?_
  by_cases hc3 : t21 = t1
  ·rw [if_pos hc3] at h; refine cond_1 (b := (decide (t21 = t1))) rfl (decide_eq_true hc3) ?_
   refine seq_ <| region_ <| mv (.int .i64 s1) rfl <| asg (.int .i64 s1) rfl <| wl_nil <| then_n <| wp_ret <| inb_r <| then_r <| then_r ?_
   refine inb_r <| then_r ?_
   refine ret_1 rfl rfl ⟨s1, rfl, h⟩
  ·rw [if_neg hc3] at h; refine cond_0 (b := (decide (t21 = t1))) rfl (decide_eq_false hc3) ?_
   refine wp_skip <| inb_n <| then_n <| region_ <| mv (.int .i64 s1) rfl <| st_val (ex_add (a := s1) (b := 1) rfl rfl) <| asg (.int .i64 (IntKind.i64.wrap (s1 + 1))) rfl <| wl_nil ?_
   exact then_n ⟨(IntKind.i64.wrap (s1 + 1)), mk_upds (ae rfl (ae rfl (ae rfl ae0))), h⟩
 ·rw [if_neg hc2] at h; refine cond_0 (b := (decide (s1 < (t10.n : Int)))) rfl (decide_eq_false hc2) ?_
  refine wp_exit <| then_e <| then_e <| inb_e <| then_n <| seq_ <| region_ <| asg (.int .i64 (-1)) rfl <| wl_nil <| then_n ?_
  refine wp_ret ?_
  refine ret_1 rfl rfl ⟨(-1), rfl, h⟩

def f61 (t0 : Nat) (t1 : Nat) (R : (Bool) → World → Prop) (w : World) : Prop :=
 Jn (σ := Bool) (fun k1 =>
  Rx Try.prog (Value.int .u64) 105 #[(.float .f64 t0)] w fun t6 w =>
  Rx Try.prog (Value.int .u64) 105 #[(.float .f64 t1)] w fun t8 w =>
  if t6 = t8 then
   k1 true w
  else
   if (fNe t0 t0) = true then
    k1 (fNe t1 t1) w
   else
    k1 false w
 ) fun s1 w =>
  R s1 w
theorem c61 {t0 : Nat} {t1 : Nat} {R : (Bool) → World → Prop} {w : World} (h : f61 t0 t1 R w) :
  Cal Try.prog Value.bool 61 #[(.float .f64 t0), (.float .f64 t1)] w R := by
 unfold f61 at h
 refine calls_ Try.func61 Try.ntmps61 rfl rfl <| seq_ <| region_ <| asg (.bool false) rfl <| wl_nil <| then_n ?_
 refine wp_jn (σ := Bool) (fun s1 l => ∃ j, l = upds j [(4, (.bool s1))]) h ?_ ?_
 ·clear h; rintro s1 _ w ⟨j, rfl⟩ h
  refine wp_ret ?_
  refine ret_1 rfl rfl ⟨s1, rfl, h⟩
 ·clear h; intro k1 h
  refine region_ <| mv (.float .f64 t0) rfl ?_
  refine st_rx rfl h ?_; clear h; intro t6 w h
  refine mv (.float .f64 t1) rfl ?_
  refine st_rx rfl h ?_; clear h; intro t8 w h
  refine st_val (ex_eql (a := t6) (b := t8) rfl rfl) <| mv (.bool (decide (t6 = t8))) rfl ?_
  by_cases hc2 : t6 = t8
  ·rw [if_pos hc2] at h
   refine sOff 10 (decide_eq_true hc2) rfl rfl <| sOff 10 (decide_eq_true hc2) rfl rfl <| sOff 10 (decide_eq_true hc2) rfl rfl <| sOff 10 (decide_eq_true hc2) rfl rfl <| st_offu (t := 14) rfl rfl <| st_offu (t := 14) rfl rfl <| st_offu (t := 14) rfl rfl <| sOff 10 (decide_eq_true hc2) rfl rfl <| st_val (ex_pick1 (b := (decide (t6 = t8))) rfl (decide_eq_true hc2) (v := (.bool true)) rfl) <| asg (.bool true) rfl ?_
   refine wl_nil ?_
   exact then_n ⟨true, _, rfl, mk_upds' (ae rfl ae0), h⟩
  ·rw [if_neg hc2] at h
   refine sOn 10 (decide_eq_false hc2) rfl rfl <| mv (.float .f64 t0) rfl <| sOn 10 (decide_eq_false hc2) rfl rfl <| mv (.float .f64 t0) rfl <| sOn 10 (decide_eq_false hc2) rfl rfl <| st_val (ex_neqF (a := t0) (b := t0) rfl rfl) <| sOn 10 (decide_eq_false hc2) rfl rfl <| mv (.bool (fNe t0 t0)) rfl ?_
   by_cases hc3 : (fNe t0 t0) = true
   ·rw [if_pos hc3] at h
    refine sOn 14 hc3 rfl rfl <| mv (.float .f64 t1) rfl <| sOn 14 hc3 rfl rfl <| mv (.float .f64 t1) rfl <| sOn 14 hc3 rfl rfl <| st_val (ex_neqF (a := t1) (b := t1) rfl rfl) <| sOn 10 (decide_eq_false hc2) rfl rfl <| st_val (ex_pick1 (b := (fNe t0 t0)) rfl hc3 (v := (.bool (fNe t1 t1))) rfl) <| st_val (ex_pick0 (b := (decide (t6 = t8))) rfl (decide_eq_false hc2) (v := (.bool (fNe t1 t1))) rfl) <| asg (.bool (fNe t1 t1)) rfl ?_
    refine wl_nil ?_
    exact then_n ⟨(fNe t1 t1), _, rfl, mk_upds' (ae rfl ae0), h⟩
   ·rw [if_neg hc3] at h
    refine sOff 14 (Bool.eq_false_iff.2 hc3) rfl rfl <| sOff 14 (Bool.eq_false_iff.2 hc3) rfl rfl <| sOff 14 (Bool.eq_false_iff.2 hc3) rfl rfl <| sOn 10 (decide_eq_false hc2) rfl rfl <| st_val (ex_pick0 (b := (fNe t0 t0)) rfl (Bool.eq_false_iff.2 hc3) (v := (.bool false)) rfl) <| st_val (ex_pick0 (b := (decide (t6 = t8))) rfl (decide_eq_false hc2) (v := (.bool false)) rfl) <| asg (.bool false) rfl <| wl_nil ?_
    exact then_n ⟨false, _, rfl, mk_upds' (ae rfl ae0), h⟩

def f62 (t0 : TResource) (t1 : TResource) (R : (Bool) → World → Prop) (w : World) : Prop :=
 New 48 (TResource.cells t0) w fun b2 w =>
 New 48 (TResource.cells t1) w fun b3 w =>
 Jn (σ := Bool) (fun k1 =>
  Rn Try.prog (Value.int .i64) (Instr.loadAt 3 (Ptr ((⟨b2, 0, none⟩ : Addr).add 0))) w fun t6 w =>
  Rn Try.prog (Value.int .i64) (Instr.loadAt 3 (Ptr ((⟨b3, 0, none⟩ : Addr).add 0))) w fun t8 w =>
  if t6 = t8 then
   Rn Try.prog Value.string (Instr.loadAt 9 (Ptr ((⟨b2, 0, none⟩ : Addr).add 1))) w fun t12 w =>
   Rn Try.prog Value.string (Instr.loadAt 9 (Ptr ((⟨b3, 0, none⟩ : Addr).add 1))) w fun t14 w =>
   if t12 = t14 then
    Rn Try.prog Sl.v (Instr.loadAt 44 (Ptr ((⟨b2, 0, none⟩ : Addr).add 2))) w fun t19 w =>
    Rn Try.prog Sl.v (Instr.loadAt 44 (Ptr ((⟨b3, 0, none⟩ : Addr).add 2))) w fun t21 w =>
    Cal Try.prog Value.bool 80 #[(Sl.v t19), (Sl.v t21)] w fun t22 w =>
    if t22 = true then
     Rn Try.prog Sl.v (Instr.loadAt 45 (Ptr ((⟨b2, 0, none⟩ : Addr).add 3))) w fun t26 w =>
     Rn Try.prog Sl.v (Instr.loadAt 45 (Ptr ((⟨b3, 0, none⟩ : Addr).add 3))) w fun t28 w =>
     Cal Try.prog Value.bool 106 #[(Sl.v t26), (Sl.v t28)] w fun t29 w =>
     if t29 = true then
      Rn Try.prog Value.string (Instr.loadAt 9 (Ptr ((⟨b2, 0, none⟩ : Addr).add 4))) w fun t33 w =>
      Rn Try.prog Value.string (Instr.loadAt 9 (Ptr ((⟨b3, 0, none⟩ : Addr).add 4))) w fun t35 w =>
      if t33 = t35 then
       Rn Try.prog Sl.v (Instr.loadAt 46 (Ptr ((⟨b2, 0, none⟩ : Addr).add 5))) w fun t40 w =>
       Rn Try.prog Sl.v (Instr.loadAt 46 (Ptr ((⟨b3, 0, none⟩ : Addr).add 5))) w fun t42 w =>
       Cal Try.prog Value.bool 107 #[(Sl.v t40), (Sl.v t42)] w fun t43 w =>
       if t43 = true then
        Rn Try.prog Value.string (Instr.loadAt 9 (Ptr ((⟨b2, 0, none⟩ : Addr).add 6))) w fun t47 w =>
        Rn Try.prog Value.string (Instr.loadAt 9 (Ptr ((⟨b3, 0, none⟩ : Addr).add 6))) w fun t49 w =>
        if t47 = t49 then
         Rn Try.prog Value.bool (Instr.loadAt 4 (Ptr ((⟨b2, 0, none⟩ : Addr).add 7))) w fun t54 w =>
         Rn Try.prog Value.bool (Instr.loadAt 4 (Ptr ((⟨b3, 0, none⟩ : Addr).add 7))) w fun t56 w =>
         k1 (t54 == t56) w
        else
         k1 false w
       else
        k1 false w
      else
       k1 false w
     else
      k1 false w
    else
     k1 false w
   else
    k1 false w
  else
   k1 false w
 ) fun s1 w =>
  R s1 w
theorem c62 {t0 : TResource} {t1 : TResource} {R : (Bool) → World → Prop} {w : World} (h : f62 t0 t1 R w) :
  Cal Try.prog Value.bool 62 #[(TResource.v t0), (TResource.v t1)] w R := by
 unfold f62 at h
 refine calls_ Try.func62 Try.ntmps62 rfl rfl <| seq_ <| region_ ?_
 refine st_new (f := (fun b => Ptr ⟨b, 0, none⟩)) (ex_boxN rfl rfl) h ?_; clear h; intro b2 w h
 refine st_new (f := (fun b => Ptr ⟨b, 0, none⟩)) (ex_boxN rfl rfl) h ?_; clear h; intro b3 w h
 refine asg (.bool false) rfl <| wl_nil <| then_n ?_
 refine wp_jn (σ := Bool) (fun s1 l => ∃ j, l = upds j [(4, (.bool s1))]) h ?_ ?_
 ·clear h; rintro s1 _ w ⟨j, rfl⟩ h
  refine wp_ret ?_
  refine ret_1 rfl rfl ⟨s1, rfl, h⟩
 ·clear h; intro k1 h
  refine region_ <| st_val (ex_fa fa48_0 (p := (⟨b2, 0, none⟩ : Addr)) rfl) ?_
  refine st_rn (fun r => ex_load rfl r) h ?_; clear h; intro t6 w h
  refine st_val (ex_fa fa48_0 (p := (⟨b3, 0, none⟩ : Addr)) rfl) ?_
  refine st_rn (fun r => ex_load rfl r) h ?_; clear h; intro t8 w h
  refine st_val (ex_eql (a := t6) (b := t8) rfl rfl) <| mv (.bool (decide (t6 = t8))) rfl ?_
  by_cases hc2 : t6 = t8
  ·rw [if_pos hc2] at h
   refine sOn 10 (decide_eq_true hc2) rfl rfl <| st_val (ex_fa fa48_1 (p := (⟨b2, 0, none⟩ : Addr)) rfl) <| sOn 10 (decide_eq_true hc2) rfl rfl ?_
   refine st_rn (fun r => ex_load rfl r) h ?_; clear h; intro t12 w h
   refine sOn 10 (decide_eq_true hc2) rfl rfl <| st_val (ex_fa fa48_1 (p := (⟨b3, 0, none⟩ : Addr)) rfl) <| sOn 10 (decide_eq_true hc2) rfl rfl ?_
   refine st_rn (fun r => ex_load rfl r) h ?_; clear h; intro t14 w h
   refine sOn 10 (decide_eq_true hc2) rfl rfl <| st_val (ex_eqlS (a := t12) (b := t14) rfl rfl) <| st_val (ex_pick1 (b := (decide (t6 = t8))) rfl (decide_eq_true hc2) (v := (.bool (decide (t12 = t14)))) rfl) <| mv (.bool (decide (t12 = t14))) rfl ?_
   by_cases hc3 : t12 = t14
   ·rw [if_pos hc3] at h
    refine sOn 17 (decide_eq_true hc3) rfl rfl <| st_val (ex_fa fa48_2 (p := (⟨b2, 0, none⟩ : Addr)) rfl) <| sOn 17 (decide_eq_true hc3) rfl rfl ?_
    refine st_rn (fun r => ex_load rfl r) h ?_; clear h; intro t19 w h
    refine sOn 17 (decide_eq_true hc3) rfl rfl <| st_val (ex_fa fa48_2 (p := (⟨b3, 0, none⟩ : Addr)) rfl) <| sOn 17 (decide_eq_true hc3) rfl rfl ?_
    refine st_rn (fun r => ex_load rfl r) h ?_; clear h; intro t21 w h
    refine sOn 17 (decide_eq_true hc3) rfl rfl ?_
    refine st_cal en80 rfl h ?_; clear h; intro t22 w h
    refine st_val (ex_pick1 (b := (decide (t12 = t14))) rfl (decide_eq_true hc3) (v := (.bool t22)) rfl) <| mv (.bool t22) rfl ?_
    by_cases hc4 : t22 = true
    ·rw [if_pos hc4] at h
     refine sOn 24 hc4 rfl rfl <| st_val (ex_fa fa48_3 (p := (⟨b2, 0, none⟩ : Addr)) rfl) <| sOn 24 hc4 rfl rfl ?_
     refine st_rn (fun r => ex_load rfl r) h ?_; clear h; intro t26 w h
     refine sOn 24 hc4 rfl rfl <| st_val (ex_fa fa48_3 (p := (⟨b3, 0, none⟩ : Addr)) rfl) <| sOn 24 hc4 rfl rfl ?_
     refine st_rn (fun r => ex_load rfl r) h ?_; clear h; intro t28 w h
     refine sOn 24 hc4 rfl rfl ?_
     refine st_cal en106 rfl h ?_; clear h; intro t29 w h
     refine st_val (ex_pick1 (b := t22) rfl hc4 (v := (.bool t29)) rfl) <| mv (.bool t29) rfl ?_
     by_cases hc5 : t29 = true
     ·rw [if_pos hc5] at h
      refine sOn 31 hc5 rfl rfl <| st_val (ex_fa fa48_4 (p := (⟨b2, 0, none⟩ : Addr)) rfl) <| sOn 31 hc5 rfl rfl ?_
      refine st_rn (fun r => ex_load rfl r) h ?_; clear h; intro t33 w h
      refine sOn 31 hc5 rfl rfl <| st_val (ex_fa fa48_4 (p := (⟨b3, 0, none⟩ : Addr)) rfl) <| sOn 31 hc5 rfl rfl ?_
      refine st_rn (fun r => ex_load rfl r) h ?_; clear h; intro t35 w h
      refine sOn 31 hc5 rfl rfl <| st_val (ex_eqlS (a := t33) (b := t35) rfl rfl) <| st_val (ex_pick1 (b := t29) rfl hc5 (v := (.bool (decide (t33 = t35)))) rfl) <| mv (.bool (decide (t33 = t35))) rfl ?_
      by_cases hc6 : t33 = t35
      ·rw [if_pos hc6] at h
       refine sOn 38 (decide_eq_true hc6) rfl rfl <| st_val (ex_fa fa48_5 (p := (⟨b2, 0, none⟩ : Addr)) rfl) <| sOn 38 (decide_eq_true hc6) rfl rfl ?_
       refine st_rn (fun r => ex_load rfl r) h ?_; clear h; intro t40 w h
       refine sOn 38 (decide_eq_true hc6) rfl rfl <| st_val (ex_fa fa48_5 (p := (⟨b3, 0, none⟩ : Addr)) rfl) <| sOn 38 (decide_eq_true hc6) rfl rfl ?_
       refine st_rn (fun r => ex_load rfl r) h ?_; clear h; intro t42 w h
       refine sOn 38 (decide_eq_true hc6) rfl rfl ?_
       refine st_cal en107 rfl h ?_; clear h; intro t43 w h
       refine st_val (ex_pick1 (b := (decide (t33 = t35))) rfl (decide_eq_true hc6) (v := (.bool t43)) rfl) <| mv (.bool t43) rfl ?_
       by_cases hc7 : t43 = true
       ·rw [if_pos hc7] at h
        refine sOn 45 hc7 rfl rfl <| st_val (ex_fa fa48_6 (p := (⟨b2, 0, none⟩ : Addr)) rfl) <| sOn 45 hc7 rfl rfl ?_
        refine st_rn (fun r => ex_load rfl r) h ?_; clear h; intro t47 w h
        refine sOn 45 hc7 rfl rfl <| st_val (ex_fa fa48_6 (p := (⟨b3, 0, none⟩ : Addr)) rfl) <| sOn 45 hc7 rfl rfl ?_
        refine st_rn (fun r => ex_load rfl r) h ?_; clear h; intro t49 w h
        refine sOn 45 hc7 rfl rfl <| st_val (ex_eqlS (a := t47) (b := t49) rfl rfl) <| st_val (ex_pick1 (b := t43) rfl hc7 (v := (.bool (decide (t47 = t49)))) rfl) <| mv (.bool (decide (t47 = t49))) rfl ?_
        by_cases hc8 : t47 = t49
        ·rw [if_pos hc8] at h
         refine sOn 52 (decide_eq_true hc8) rfl rfl <| st_val (ex_fa fa48_7 (p := (⟨b2, 0, none⟩ : Addr)) rfl) <| sOn 52 (decide_eq_true hc8) rfl rfl ?_
         refine st_rn (fun r => ex_load rfl r) h ?_; clear h; intro t54 w h
         refine sOn 52 (decide_eq_true hc8) rfl rfl <| st_val (ex_fa fa48_7 (p := (⟨b3, 0, none⟩ : Addr)) rfl) <| sOn 52 (decide_eq_true hc8) rfl rfl ?_
         refine st_rn (fun r => ex_load rfl r) h ?_; clear h; intro t56 w h
         refine sOn 52 (decide_eq_true hc8) rfl rfl <| st_val (ex_eqlB Try.underlying4 (a := t54) (b := t56) rfl rfl) <| st_val (ex_pick1 (b := (decide (t47 = t49))) rfl (decide_eq_true hc8) (v := (.bool (t54 == t56))) rfl) <| asg (.bool (t54 == t56)) rfl <| wl_nil ?_
         exact then_n ⟨(t54 == t56), _, rfl, mk_upds' (ae rfl ae0), h⟩
        ·rw [if_neg hc8] at h
         refine sOff 52 (decide_eq_false hc8) rfl rfl <| sOff 52 (decide_eq_false hc8) rfl rfl <| sOff 52 (decide_eq_false hc8) rfl rfl <| sOff 52 (decide_eq_false hc8) rfl rfl <| sOff 52 (decide_eq_false hc8) rfl rfl <| st_val (ex_pick0 (b := (decide (t47 = t49))) rfl (decide_eq_false hc8) (v := (.bool false)) rfl) <| asg (.bool false) rfl <| wl_nil ?_
         exact then_n ⟨false, _, rfl, mk_upds' (ae rfl ae0), h⟩
       ·rw [if_neg hc7] at h
        refine sOff 45 (Bool.eq_false_iff.2 hc7) rfl rfl <| sOff 45 (Bool.eq_false_iff.2 hc7) rfl rfl <| sOff 45 (Bool.eq_false_iff.2 hc7) rfl rfl <| sOff 45 (Bool.eq_false_iff.2 hc7) rfl rfl <| sOff 45 (Bool.eq_false_iff.2 hc7) rfl rfl <| st_val (ex_pick0 (b := t43) rfl (Bool.eq_false_iff.2 hc7) (v := (.bool false)) rfl) <| mv (.bool false) rfl <| sOff 52 (rfl : false = !true) rfl rfl <| sOff 52 (rfl : false = !true) rfl rfl <| sOff 52 (rfl : false = !true) rfl rfl ?_
        refine sOff 52 (rfl : false = !true) rfl rfl <| sOff 52 (rfl : false = !true) rfl rfl <| st_val (ex_pick0 (b := false) rfl (rfl : false = false) (v := (.bool false)) rfl) <| asg (.bool false) rfl <| wl_nil ?_
        exact then_n ⟨false, _, rfl, mk_upds' (ae rfl ae0), h⟩
      ·rw [if_neg hc6] at h
       refine sOff 38 (decide_eq_false hc6) rfl rfl <| sOff 38 (decide_eq_false hc6) rfl rfl <| sOff 38 (decide_eq_false hc6) rfl rfl <| sOff 38 (decide_eq_false hc6) rfl rfl <| sOff 38 (decide_eq_false hc6) rfl rfl <| st_val (ex_pick0 (b := (decide (t33 = t35))) rfl (decide_eq_false hc6) (v := (.bool false)) rfl) <| mv (.bool false) rfl <| sOff 45 (rfl : false = !true) rfl rfl <| sOff 45 (rfl : false = !true) rfl rfl <| sOff 45 (rfl : false = !true) rfl rfl ?_
       refine sOff 45 (rfl : false = !true) rfl rfl <| sOff 45 (rfl : false = !true) rfl rfl <| st_val (ex_pick0 (b := false) rfl (rfl : false = false) (v := (.bool false)) rfl) <| mv (.bool false) rfl <| sOff 52 (rfl : false = !true) rfl rfl <| sOff 52 (rfl : false = !true) rfl rfl <| sOff 52 (rfl : false = !true) rfl rfl <| sOff 52 (rfl : false = !true) rfl rfl <| sOff 52 (rfl : false = !true) rfl rfl <| st_val (ex_pick0 (b := false) rfl (rfl : false = false) (v := (.bool false)) rfl) ?_
       refine asg (.bool false) rfl <| wl_nil ?_
       exact then_n ⟨false, _, rfl, mk_upds' (ae rfl ae0), h⟩
     ·rw [if_neg hc5] at h
      refine sOff 31 (Bool.eq_false_iff.2 hc5) rfl rfl <| sOff 31 (Bool.eq_false_iff.2 hc5) rfl rfl <| sOff 31 (Bool.eq_false_iff.2 hc5) rfl rfl <| sOff 31 (Bool.eq_false_iff.2 hc5) rfl rfl <| sOff 31 (Bool.eq_false_iff.2 hc5) rfl rfl <| st_val (ex_pick0 (b := t29) rfl (Bool.eq_false_iff.2 hc5) (v := (.bool false)) rfl) <| mv (.bool false) rfl <| sOff 38 (rfl : false = !true) rfl rfl <| sOff 38 (rfl : false = !true) rfl rfl <| sOff 38 (rfl : false = !true) rfl rfl ?_
      refine sOff 38 (rfl : false = !true) rfl rfl <| sOff 38 (rfl : false = !true) rfl rfl <| st_val (ex_pick0 (b := false) rfl (rfl : false = false) (v := (.bool false)) rfl) <| mv (.bool false) rfl <| sOff 45 (rfl : false = !true) rfl rfl <| sOff 45 (rfl : false = !true) rfl rfl <| sOff 45 (rfl : false = !true) rfl rfl <| sOff 45 (rfl : false = !true) rfl rfl <| sOff 45 (rfl : false = !true) rfl rfl <| st_val (ex_pick0 (b := false) rfl (rfl : false = false) (v := (.bool false)) rfl) ?_
      refine mv (.bool false) rfl <| sOff 52 (rfl : false = !true) rfl rfl <| sOff 52 (rfl : false = !true) rfl rfl <| sOff 52 (rfl : false = !true) rfl rfl <| sOff 52 (rfl : false = !true) rfl rfl <| sOff 52 (rfl : false = !true) rfl rfl <| st_val (ex_pick0 (b := false) rfl (rfl : false = false) (v := (.bool false)) rfl) <| asg (.bool false) rfl <| wl_nil ?_
      exact then_n ⟨false, _, rfl, mk_upds' (ae rfl ae0), h⟩
    ·rw [if_neg hc4] at h
     refine sOff 24 (Bool.eq_false_iff.2 hc4) rfl rfl <| sOff 24 (Bool.eq_false_iff.2 hc4) rfl rfl <| sOff 24 (Bool.eq_false_iff.2 hc4) rfl rfl <| sOff 24 (Bool.eq_false_iff.2 hc4) rfl rfl <| sOff 24 (Bool.eq_false_iff.2 hc4) rfl rfl <| st_val (ex_pick0 (b := t22) rfl (Bool.eq_false_iff.2 hc4) (v := (.bool false)) rfl) <| mv (.bool false) rfl <| sOff 31 (rfl : false = !true) rfl rfl <| sOff 31 (rfl : false = !true) rfl rfl <| sOff 31 (rfl : false = !true) rfl rfl ?_
     refine sOff 31 (rfl : false = !true) rfl rfl <| sOff 31 (rfl : false = !true) rfl rfl <| st_val (ex_pick0 (b := false) rfl (rfl : false = false) (v := (.bool false)) rfl) <| mv (.bool false) rfl <| sOff 38 (rfl : false = !true) rfl rfl <| sOff 38 (rfl : false = !true) rfl rfl <| sOff 38 (rfl : false = !true) rfl rfl <| sOff 38 (rfl : false = !true) rfl rfl <| sOff 38 (rfl : false = !true) rfl rfl <| st_val (ex_pick0 (b := false) rfl (rfl : false = false) (v := (.bool false)) rfl) ?_
     refine mv (.bool false) rfl <| sOff 45 (rfl : false = !true) rfl rfl <| sOff 45 (rfl : false = !true) rfl rfl <| sOff 45 (rfl : false = !true) rfl rfl <| sOff 45 (rfl : false = !true) rfl rfl <| sOff 45 (rfl : false = !true) rfl rfl <| st_val (ex_pick0 (b := false) rfl (rfl : false = false) (v := (.bool false)) rfl) <| mv (.bool false) rfl <| sOff 52 (rfl : false = !true) rfl rfl <| sOff 52 (rfl : false = !true) rfl rfl ?_
     refine sOff 52 (rfl : false = !true) rfl rfl <| sOff 52 (rfl : false = !true) rfl rfl <| sOff 52 (rfl : false = !true) rfl rfl <| st_val (ex_pick0 (b := false) rfl (rfl : false = false) (v := (.bool false)) rfl) <| asg (.bool false) rfl <| wl_nil ?_
     exact then_n ⟨false, _, rfl, mk_upds' (ae rfl ae0), h⟩
   ·rw [if_neg hc3] at h
    refine sOff 17 (decide_eq_false hc3) rfl rfl <| sOff 17 (decide_eq_false hc3) rfl rfl <| sOff 17 (decide_eq_false hc3) rfl rfl <| sOff 17 (decide_eq_false hc3) rfl rfl <| sOff 17 (decide_eq_false hc3) rfl rfl <| st_val (ex_pick0 (b := (decide (t12 = t14))) rfl (decide_eq_false hc3) (v := (.bool false)) rfl) <| mv (.bool false) rfl <| sOff 24 (rfl : false = !true) rfl rfl <| sOff 24 (rfl : false = !true) rfl rfl <| sOff 24 (rfl : false = !true) rfl rfl ?_
    refine sOff 24 (rfl : false = !true) rfl rfl <| sOff 24 (rfl : false = !true) rfl rfl <| st_val (ex_pick0 (b := false) rfl (rfl : false = false) (v := (.bool false)) rfl) <| mv (.bool false) rfl <| sOff 31 (rfl : false = !true) rfl rfl <| sOff 31 (rfl : false = !true) rfl rfl <| sOff 31 (rfl : false = !true) rfl rfl <| sOff 31 (rfl : false = !true) rfl rfl <| sOff 31 (rfl : false = !true) rfl rfl <| st_val (ex_pick0 (b := false) rfl (rfl : false = false) (v := (.bool false)) rfl) ?_
    refine mv (.bool false) rfl <| sOff 38 (rfl : false = !true) rfl rfl <| sOff 38 (rfl : false = !true) rfl rfl <| sOff 38 (rfl : false = !true) rfl rfl <| sOff 38 (rfl : false = !true) rfl rfl <| sOff 38 (rfl : false = !true) rfl rfl <| st_val (ex_pick0 (b := false) rfl (rfl : false = false) (v := (.bool false)) rfl) <| mv (.bool false) rfl <| sOff 45 (rfl : false = !true) rfl rfl <| sOff 45 (rfl : false = !true) rfl rfl ?_
    refine sOff 45 (rfl : false = !true) rfl rfl <| sOff 45 (rfl : false = !true) rfl rfl <| sOff 45 (rfl : false = !true) rfl rfl <| st_val (ex_pick0 (b := false) rfl (rfl : false = false) (v := (.bool false)) rfl) <| mv (.bool false) rfl <| sOff 52 (rfl : false = !true) rfl rfl <| sOff 52 (rfl : false = !true) rfl rfl <| sOff 52 (rfl : false = !true) rfl rfl <| sOff 52 (rfl : false = !true) rfl rfl <| sOff 52 (rfl : false = !true) rfl rfl ?_
    refine st_val (ex_pick0 (b := false) rfl (rfl : false = false) (v := (.bool false)) rfl) <| asg (.bool false) rfl <| wl_nil ?_
    exact then_n ⟨false, _, rfl, mk_upds' (ae rfl ae0), h⟩
  ·rw [if_neg hc2] at h
   refine sOff 10 (decide_eq_false hc2) rfl rfl <| sOff 10 (decide_eq_false hc2) rfl rfl <| sOff 10 (decide_eq_false hc2) rfl rfl <| sOff 10 (decide_eq_false hc2) rfl rfl <| sOff 10 (decide_eq_false hc2) rfl rfl <| st_val (ex_pick0 (b := (decide (t6 = t8))) rfl (decide_eq_false hc2) (v := (.bool false)) rfl) <| mv (.bool false) rfl <| sOff 17 (rfl : false = !true) rfl rfl <| sOff 17 (rfl : false = !true) rfl rfl <| sOff 17 (rfl : false = !true) rfl rfl ?_
   refine sOff 17 (rfl : false = !true) rfl rfl <| sOff 17 (rfl : false = !true) rfl rfl <| st_val (ex_pick0 (b := false) rfl (rfl : false = false) (v := (.bool false)) rfl) <| mv (.bool false) rfl <| sOff 24 (rfl : false = !true) rfl rfl <| sOff 24 (rfl : false = !true) rfl rfl <| sOff 24 (rfl : false = !true) rfl rfl <| sOff 24 (rfl : false = !true) rfl rfl <| sOff 24 (rfl : false = !true) rfl rfl <| st_val (ex_pick0 (b := false) rfl (rfl : false = false) (v := (.bool false)) rfl) ?_
   refine mv (.bool false) rfl <| sOff 31 (rfl : false = !true) rfl rfl <| sOff 31 (rfl : false = !true) rfl rfl <| sOff 31 (rfl : false = !true) rfl rfl <| sOff 31 (rfl : false = !true) rfl rfl <| sOff 31 (rfl : false = !true) rfl rfl <| st_val (ex_pick0 (b := false) rfl (rfl : false = false) (v := (.bool false)) rfl) <| mv (.bool false) rfl <| sOff 38 (rfl : false = !true) rfl rfl <| sOff 38 (rfl : false = !true) rfl rfl ?_
   refine sOff 38 (rfl : false = !true) rfl rfl <| sOff 38 (rfl : false = !true) rfl rfl <| sOff 38 (rfl : false = !true) rfl rfl <| st_val (ex_pick0 (b := false) rfl (rfl : false = false) (v := (.bool false)) rfl) <| mv (.bool false) rfl <| sOff 45 (rfl : false = !true) rfl rfl <| sOff 45 (rfl : false = !true) rfl rfl <| sOff 45 (rfl : false = !true) rfl rfl <| sOff 45 (rfl : false = !true) rfl rfl <| sOff 45 (rfl : false = !true) rfl rfl ?_
   refine st_val (ex_pick0 (b := false) rfl (rfl : false = false) (v := (.bool false)) rfl) <| mv (.bool false) rfl <| sOff 52 (rfl : false = !true) rfl rfl <| sOff 52 (rfl : false = !true) rfl rfl <| sOff 52 (rfl : false = !true) rfl rfl <| sOff 52 (rfl : false = !true) rfl rfl <| sOff 52 (rfl : false = !true) rfl rfl <| st_val (ex_pick0 (b := false) rfl (rfl : false = false) (v := (.bool false)) rfl) <| asg (.bool false) rfl <| wl_nil ?_
   exact then_n ⟨false, _, rfl, mk_upds' (ae rfl ae0), h⟩

def f63 (t0 : TResource) (R : (TKey) → World → Prop) (w : World) : Prop :=
 New 48 (TResource.cells t0) w fun b1 w =>
 New 113 (TKey.cells (⟨0, ⟨#[]⟩⟩ : TKey)) w fun b2 w =>
 Rn Try.prog (Value.int .i64) (Instr.loadAt 3 (Ptr ((⟨b1, 0, none⟩ : Addr).add 0))) w fun t4 w =>
 Rn Try.prog Value.string (Instr.loadAt 9 (Ptr ((⟨b1, 0, none⟩ : Addr).add 1))) w fun t6 w =>
 RnU Try.prog (Instr.storeAt 113 (Ptr (⟨b2, 0, none⟩ : Addr)) (TKey.v (⟨t4, t6⟩ : TKey))) w fun w =>
 RnR Try.prog TKey.v (loadVar 113 (⟨b2, 0, none⟩ : Addr)) w fun r0 =>
 R r0 w
theorem c63 {t0 : TResource} {R : (TKey) → World → Prop} {w : World} (h : f63 t0 R w) :
  Cal Try.prog TKey.v 63 #[(TResource.v t0)] w R := by
 unfold f63 at h
 refine calls_ Try.func63 Try.ntmps63 rfl rfl <| seq_ <| region_ ?_
 refine st_new (f := (fun b => Ptr ⟨b, 0, none⟩)) (ex_boxN rfl rfl) h ?_; clear h; intro b1 w h
 refine st_new (f := (fun b => Ptr ⟨b, 0, none⟩)) (ex_allocN zero113 rfl) h ?_; clear h; intro b2 w h
 refine wl_nil <| then_n <| seq_ <| region_ <| st_val (ex_fa fa48_0 (p := (⟨b1, 0, none⟩ : Addr)) rfl) ?_
 refine st_rn (fun r => ex_load rfl r) h ?_; clear h; intro t4 w h
 refine st_val (ex_fa fa48_1 (p := (⟨b1, 0, none⟩ : Addr)) rfl) ?_
 refine st_rn (fun r => ex_load rfl r) h ?_; clear h; intro t6 w h
 refine st_val (ex_build (a' := [(0, (.int .i64 t4)), (1, (.string t6))]) (v := TKey.v (⟨t4, t6⟩ : TKey)) rfl (e_build Try.underlying113 zero113 rfl pl113 rfl _)) ?_
 refine st_rnu (fun r => ex_store rfl rfl r) h ?_; clear h; intro w h
 refine wl_nil <| then_n <| wp_ret ?_
 obtain ⟨r0, hr0, h⟩ := h
 refine ret_c rfl rfl hr0 ⟨r0, rfl, h⟩

def f65 (t0 : Sl) (R : (Int) → World → Prop) (w : World) : Prop :=
 Lp (σ := Int) (fun s1 w n1 =>
  if s1 < (t0.n : Int) then
   Jn (σ := Bool) (fun k3 =>
    Dr w fun w4 w =>
     RnP Try.prog Ptr (Instr.indexAt 22 (Sl.v t0) (.int .i64 s1)) fun t12 =>
     RnL Try.prog (Value.int .i64) (Instr.loadAt 3 (Ptr (t12.add 0))) w4 fun t14 =>
     if t14 < 1 then
      k3 true w
     else
      RnP Try.prog Ptr (Instr.indexAt 22 (Sl.v t0) (.int .i64 s1)) fun t19 =>
      RnL Try.prog (Value.int .i64) (Instr.loadAt 3 (Ptr (t19.add 0))) w4 fun t21 =>
      if 4 < t21 then
       k3 true w
      else
       RnP Try.prog Ptr (Instr.indexAt 22 (Sl.v t0) (.int .i64 s1)) fun t27 =>
       RnL Try.prog Value.bool (Instr.loadAt 4 (Ptr (t27.add 7))) w4 fun t29 =>
       if t29 = true then
        k3 true w
       else
        if 0 < s1 then
         RnP Try.prog Ptr (Instr.indexAt 22 (Sl.v t0) (.int .i64 (IntKind.i64.wrap (s1 - 1)))) fun t38 =>
         RnL Try.prog TResource.v (Instr.loadAt 48 (Ptr t38)) w4 fun t39 =>
         RnP Try.prog Ptr (Instr.indexAt 22 (Sl.v t0) (.int .i64 s1)) fun t42 =>
         RnL Try.prog TResource.v (Instr.loadAt 48 (Ptr t42)) w4 fun t43 =>
         Cal Try.prog Value.bool 47 #[(TResource.v t39), (TResource.v t43)] w (ExtK w4 fun t44 w =>
          k3 (!t44) w
         )
        else
         k3 false w
   ) fun s3 w =>
    if s3 = true then
     R s1 w
    else
     n1 (IntKind.i64.wrap (s1 + 1)) w
  else
   R (-1) w
 ) 0 w
theorem c65 {t0 : Sl} {R : (Int) → World → Prop} {w : World} (h : f65 t0 R w) :
  Cal Try.prog (Value.int .i64) 65 #[(Sl.v t0)] w R := by
 unfold f65 at h
 refine calls_ Try.func65 Try.ntmps65 rfl rfl <| seq_ <| region_ <| asg (.int .i64 0) rfl <| wl_nil <| then_n <| seq_ <| seq_ <| region_ <| asg (.int .i64 0) rfl ?_
 refine wl_nil <| then_n <| wp_block <| wp_lp (σ := Int) (fun s1 a => ∃ j, a = F 49 (upds j [(0, (Sl.v t0)), (3, (.int .i64 s1))])) h (mk_upds (ae rfl (ae rfl ae0))) ?_
 clear h; rintro s1 _ w n1 ⟨j, rfl⟩ h
 refine seq_ <| seq_ <| region_ <| mv (.int .i64 s1) rfl <| mv (Sl.v t0) rfl <| st_val (ex_len (s := t0) Try.underlying22 rfl) <| st_val (ex_lss (a := s1) (b := (t0.n : Int)) rfl rfl) <| wl_nil <| then_n ?_
 by_cases hc2 : s1 < (t0.n : Int)
 ·rw [if_pos hc2] at h; refine cond_1 (b := (decide (s1 < (t0.n : Int)))) rfl (decide_eq_true hc2) ?_
  refine wp_skip <| then_n <| seq_ <| wp_block ?_
  refine wp_jn (σ := Bool) (fun s3 l => ∃ j, l = upds j [(0, (Sl.v t0)), (3, (.int .i64 s1)), (47, (.bool s3))]) h ?_ ?_
  ·clear h; rintro s3 _ w ⟨j, rfl⟩ h
   by_cases hc9 : s3 = true
   ·rw [if_pos hc9] at h; refine cond_1 (b := s3) rfl hc9 ?_
    refine seq_ <| region_ <| mv (.int .i64 s1) rfl <| asg (.int .i64 s1) rfl <| wl_nil <| then_n <| wp_ret <| inb_r <| then_r <| then_r ?_
    refine inb_r <| then_r ?_
    refine ret_1 rfl rfl ⟨s1, rfl, h⟩
   ·rw [if_neg hc9] at h; refine cond_0 (b := s3) rfl (Bool.eq_false_iff.2 hc9) ?_
    refine wp_skip <| inb_n <| then_n <| region_ <| mv (.int .i64 s1) rfl <| st_val (ex_add (a := s1) (b := 1) rfl rfl) <| asg (.int .i64 (IntKind.i64.wrap (s1 + 1))) rfl <| wl_nil ?_
    exact then_n ⟨(IntKind.i64.wrap (s1 + 1)), mk_upds (ae rfl (ae rfl ae0)), h⟩
  ·clear h; intro k3 h
   refine dr_begin mixed [] (listed := #[false, false, false, false, false, false, false, false, false, false, false, false, false, false, false, false, false, false, false, false, false, false, false, false, false, false, false, false, false, false, false, false, false, false, false, false, false, false]) rfl (n := 38) rfl h ?_; clear h; intro w4 h
   have hE : Ext w4 w4 := Ext.refl _
   refine tP 0 rfl (fun _ => hE) (fun _ => ex_move (v := (Sl.v t0)) rfl) <| tP 1 rfl (fun _ => hE) (fun _ => ex_move (v := (.int .i64 s1)) rfl) ?_
   obtain ⟨t12, ht12, h⟩ := h
   refine tP 2 rfl (fun _ => hE) (fun _ => (fun r => ex_indexAddr rfl rfl r) (ht12 _)) <| tP 3 rfl (fun _ => hE) (fun _ => ex_fa fa48_0 (p := t12) rfl) ?_
   obtain ⟨t14, ht14, h⟩ := h
   refine tK 4 rfl hE (fun _ hw => (fun r => ex_load rfl r) (ht14 _ hw)) <| tP 5 rfl (fun _ => hE) (fun _ => ex_lss (a := t14) (b := 1) rfl rfl) <| tP 6 rfl (fun _ => hE) (fun _ => ex_move (v := (.bool (decide (t14 < 1)))) rfl) ?_
   by_cases hc5 : t14 < 1
   ·rw [if_pos hc5] at h
    refine tF 7 16 rfl (decide_eq_true hc5) rfl rfl (fun _ => hE) <| tF 8 16 rfl (decide_eq_true hc5) rfl rfl (fun _ => hE) <| tF 9 16 rfl (decide_eq_true hc5) rfl rfl (fun _ => hE) <| tF 10 16 rfl (decide_eq_true hc5) rfl rfl (fun _ => hE) <| tF 11 16 rfl (decide_eq_true hc5) rfl rfl (fun _ => hE) <| tF 12 16 rfl (decide_eq_true hc5) rfl rfl (fun _ => hE) <| tP 13 rfl (fun _ => hE) (fun _ => ex_pick1 (b := (decide (t14 < 1))) rfl (decide_eq_true hc5) (v := (.bool true)) rfl) <| tP 14 rfl (fun _ => hE) (fun _ => ex_move (v := (.bool true)) rfl) <| tF 15 24 rfl (rfl : true = !false) rfl rfl (fun _ => hE) <| tF 16 24 rfl (rfl : true = !false) rfl rfl (fun _ => hE) ?_
    refine tF 17 24 rfl (rfl : true = !false) rfl rfl (fun _ => hE) <| tF 18 24 rfl (rfl : true = !false) rfl rfl (fun _ => hE) <| tF 19 24 rfl (rfl : true = !false) rfl rfl (fun _ => hE) <| tP 20 rfl (fun _ => hE) (fun _ => ex_pick1 (b := true) rfl (rfl : true = true) (v := (.bool true)) rfl) <| tP 21 rfl (fun _ => hE) (fun _ => ex_move (v := (.bool true)) rfl) <| tF 22 31 rfl (rfl : true = !false) rfl rfl (fun _ => hE) <| tF 23 31 rfl (rfl : true = !false) rfl rfl (fun _ => hE) <| tF 24 31 rfl (rfl : true = !false) rfl rfl (fun _ => hE) <| tU 25 34 rfl rfl rfl (fun _ => hE) <| tU 26 34 rfl rfl rfl (fun _ => hE) ?_
    refine tU 27 34 rfl rfl rfl (fun _ => hE) <| tU 28 34 rfl rfl rfl (fun _ => hE) <| tU 29 34 rfl rfl rfl (fun _ => hE) <| tU 30 34 rfl rfl rfl (fun _ => hE) <| tU 31 34 rfl rfl rfl (fun _ => hE) <| tU 32 34 rfl rfl rfl (fun _ => hE) <| tU 33 34 rfl rfl rfl (fun _ => hE) <| tU 34 34 rfl rfl rfl (fun _ => hE) <| tU 35 34 rfl rfl rfl (fun _ => hE) <| tF 36 31 rfl (rfl : true = !false) rfl rfl (fun _ => hE) ?_
    refine tP 37 rfl (fun _ => hE) (fun _ => ex_pick1 (b := true) rfl (rfl : true = true) (v := (.bool true)) rfl) <| dr_end (by kernel_rfl) ?_
    exact then_n ⟨true, _, rfl, mk_upds' (ae rfl (ae rfl (ae rfl ae0))), h⟩
   ·rw [if_neg hc5] at h
    refine tPo 7 16 rfl (decide_eq_false hc5) rfl rfl (fun _ => hE) (fun _ => ex_move (v := (Sl.v t0)) rfl) <| tPo 8 16 rfl (decide_eq_false hc5) rfl rfl (fun _ => hE) (fun _ => ex_move (v := (.int .i64 s1)) rfl) ?_
    obtain ⟨t19, ht19, h⟩ := h
    refine tPo 9 16 rfl (decide_eq_false hc5) rfl rfl (fun _ => hE) (fun _ => (fun r => ex_indexAddr rfl rfl r) (ht19 _)) <| tPo 10 16 rfl (decide_eq_false hc5) rfl rfl (fun _ => hE) (fun _ => ex_fa fa48_0 (p := t19) rfl) ?_
    obtain ⟨t21, ht21, h⟩ := h
    refine tKo 11 16 rfl (decide_eq_false hc5) rfl rfl hE (fun _ hw => (fun r => ex_load rfl r) (ht21 _ hw)) <| tPo 12 16 rfl (decide_eq_false hc5) rfl rfl (fun _ => hE) (fun _ => ex_gtr (a := t21) (b := 4) rfl rfl) <| tP 13 rfl (fun _ => hE) (fun _ => ex_pick0 (b := (decide (t14 < 1))) rfl (decide_eq_false hc5) (v := (.bool (decide (4 < t21)))) rfl) <| tP 14 rfl (fun _ => hE) (fun _ => ex_move (v := (.bool (decide (4 < t21)))) rfl) ?_
    by_cases hc6 : 4 < t21
    ·rw [if_pos hc6] at h
     refine tF 15 24 rfl (decide_eq_true hc6) rfl rfl (fun _ => hE) <| tF 16 24 rfl (decide_eq_true hc6) rfl rfl (fun _ => hE) <| tF 17 24 rfl (decide_eq_true hc6) rfl rfl (fun _ => hE) <| tF 18 24 rfl (decide_eq_true hc6) rfl rfl (fun _ => hE) <| tF 19 24 rfl (decide_eq_true hc6) rfl rfl (fun _ => hE) <| tP 20 rfl (fun _ => hE) (fun _ => ex_pick1 (b := (decide (4 < t21))) rfl (decide_eq_true hc6) (v := (.bool true)) rfl) <| tP 21 rfl (fun _ => hE) (fun _ => ex_move (v := (.bool true)) rfl) <| tF 22 31 rfl (rfl : true = !false) rfl rfl (fun _ => hE) <| tF 23 31 rfl (rfl : true = !false) rfl rfl (fun _ => hE) <| tF 24 31 rfl (rfl : true = !false) rfl rfl (fun _ => hE) ?_
     refine tU 25 34 rfl rfl rfl (fun _ => hE) <| tU 26 34 rfl rfl rfl (fun _ => hE) <| tU 27 34 rfl rfl rfl (fun _ => hE) <| tU 28 34 rfl rfl rfl (fun _ => hE) <| tU 29 34 rfl rfl rfl (fun _ => hE) <| tU 30 34 rfl rfl rfl (fun _ => hE) <| tU 31 34 rfl rfl rfl (fun _ => hE) <| tU 32 34 rfl rfl rfl (fun _ => hE) <| tU 33 34 rfl rfl rfl (fun _ => hE) <| tU 34 34 rfl rfl rfl (fun _ => hE) ?_
     refine tU 35 34 rfl rfl rfl (fun _ => hE) <| tF 36 31 rfl (rfl : true = !false) rfl rfl (fun _ => hE) <| tP 37 rfl (fun _ => hE) (fun _ => ex_pick1 (b := true) rfl (rfl : true = true) (v := (.bool true)) rfl) <| dr_end (by kernel_rfl) ?_
     exact then_n ⟨true, _, rfl, mk_upds' (ae rfl (ae rfl (ae rfl ae0))), h⟩
    ·rw [if_neg hc6] at h
     refine tPo 15 24 rfl (decide_eq_false hc6) rfl rfl (fun _ => hE) (fun _ => ex_move (v := (Sl.v t0)) rfl) <| tPo 16 24 rfl (decide_eq_false hc6) rfl rfl (fun _ => hE) (fun _ => ex_move (v := (.int .i64 s1)) rfl) ?_
     obtain ⟨t27, ht27, h⟩ := h
     refine tPo 17 24 rfl (decide_eq_false hc6) rfl rfl (fun _ => hE) (fun _ => (fun r => ex_indexAddr rfl rfl r) (ht27 _)) <| tPo 18 24 rfl (decide_eq_false hc6) rfl rfl (fun _ => hE) (fun _ => ex_fa fa48_7 (p := t27) rfl) ?_
     obtain ⟨t29, ht29, h⟩ := h
     refine tKo 19 24 rfl (decide_eq_false hc6) rfl rfl hE (fun _ hw => (fun r => ex_load rfl r) (ht29 _ hw)) <| tP 20 rfl (fun _ => hE) (fun _ => ex_pick0 (b := (decide (4 < t21))) rfl (decide_eq_false hc6) (v := (.bool t29)) rfl) <| tP 21 rfl (fun _ => hE) (fun _ => ex_move (v := (.bool t29)) rfl) ?_
     by_cases hc7 : t29 = true
     ·rw [if_pos hc7] at h
      refine tF 22 31 rfl hc7 rfl rfl (fun _ => hE) <| tF 23 31 rfl hc7 rfl rfl (fun _ => hE) <| tF 24 31 rfl hc7 rfl rfl (fun _ => hE) <| tU 25 34 rfl rfl rfl (fun _ => hE) <| tU 26 34 rfl rfl rfl (fun _ => hE) <| tU 27 34 rfl rfl rfl (fun _ => hE) <| tU 28 34 rfl rfl rfl (fun _ => hE) <| tU 29 34 rfl rfl rfl (fun _ => hE) <| tU 30 34 rfl rfl rfl (fun _ => hE) <| tU 31 34 rfl rfl rfl (fun _ => hE) ?_
      refine tU 32 34 rfl rfl rfl (fun _ => hE) <| tU 33 34 rfl rfl rfl (fun _ => hE) <| tU 34 34 rfl rfl rfl (fun _ => hE) <| tU 35 34 rfl rfl rfl (fun _ => hE) <| tF 36 31 rfl hc7 rfl rfl (fun _ => hE) <| tP 37 rfl (fun _ => hE) (fun _ => ex_pick1 (b := t29) rfl hc7 (v := (.bool true)) rfl) <| dr_end (by kernel_rfl) ?_
      exact then_n ⟨true, _, rfl, mk_upds' (ae rfl (ae rfl (ae rfl ae0))), h⟩
     ·rw [if_neg hc7] at h
      refine tPo 22 31 rfl (Bool.eq_false_iff.2 hc7) rfl rfl (fun _ => hE) (fun _ => ex_move (v := (.int .i64 s1)) rfl) <| tPo 23 31 rfl (Bool.eq_false_iff.2 hc7) rfl rfl (fun _ => hE) (fun _ => ex_gtr (a := s1) (b := 0) rfl rfl) <| tPo 24 31 rfl (Bool.eq_false_iff.2 hc7) rfl rfl (fun _ => hE) (fun _ => ex_move (v := (.bool (decide (0 < s1)))) rfl) ?_
      by_cases hc8 : 0 < s1
      ·rw [if_pos hc8] at h
       refine tPo 25 34 rfl (decide_eq_true hc8) rfl rfl (fun _ => hE) (fun _ => ex_move (v := (Sl.v t0)) rfl) <| tPo 26 34 rfl (decide_eq_true hc8) rfl rfl (fun _ => hE) (fun _ => ex_move (v := (.int .i64 s1)) rfl) <| tPo 27 34 rfl (decide_eq_true hc8) rfl rfl (fun _ => hE) (fun _ => ex_sub (a := s1) (b := 1) rfl rfl) ?_
       obtain ⟨t38, ht38, h⟩ := h
       refine tPo 28 34 rfl (decide_eq_true hc8) rfl rfl (fun _ => hE) (fun _ => (fun r => ex_indexAddr rfl rfl r) (ht38 _)) ?_
       obtain ⟨t39, ht39, h⟩ := h
       refine tKo 29 34 rfl (decide_eq_true hc8) rfl rfl hE (fun _ hw => (fun r => ex_load rfl r) (ht39 _ hw)) <| tPo 30 34 rfl (decide_eq_true hc8) rfl rfl (fun _ => hE) (fun _ => ex_move (v := (Sl.v t0)) rfl) <| tPo 31 34 rfl (decide_eq_true hc8) rfl rfl (fun _ => hE) (fun _ => ex_move (v := (.int .i64 s1)) rfl) ?_
       obtain ⟨t42, ht42, h⟩ := h
       refine tPo 32 34 rfl (decide_eq_true hc8) rfl rfl (fun _ => hE) (fun _ => (fun r => ex_indexAddr rfl rfl r) (ht42 _)) ?_
       obtain ⟨t43, ht43, h⟩ := h
       refine tKo 33 34 rfl (decide_eq_true hc8) rfl rfl hE (fun _ hw => (fun r => ex_load rfl r) (ht43 _ hw)) <| dr_only_on (i := 34) (t := 34) (c := (decide (0 < s1))) (by kernel_rfl) rfl rfl rfl (decide_eq_true hc8) ?_
       refine o_cal en47 rfl h ?_; clear h; intro t44 w h; obtain ⟨hx, h⟩ := h; clear hE; have hE := hx; clear hx; refine ⟨fun _ => hE, ?_⟩
       refine tPo 35 34 rfl (decide_eq_true hc8) rfl rfl (fun _ => hE) (fun _ => ex_not (b := t44) rfl) <| tPo 36 31 rfl (Bool.eq_false_iff.2 hc7) rfl rfl (fun _ => hE) (fun _ => ex_pick1 (b := (decide (0 < s1))) rfl (decide_eq_true hc8) (v := (.bool (!t44))) rfl) <| tP 37 rfl (fun _ => hE) (fun _ => ex_pick0 (b := t29) rfl (Bool.eq_false_iff.2 hc7) (v := (.bool (!t44))) rfl) <| dr_end (by kernel_rfl) ?_
       exact then_n ⟨(!t44), _, rfl, mk_upds' (ae rfl (ae rfl (ae rfl ae0))), h⟩
      ·rw [if_neg hc8] at h
       refine tF 25 34 rfl (decide_eq_false hc8) rfl rfl (fun _ => hE) <| tF 26 34 rfl (decide_eq_false hc8) rfl rfl (fun _ => hE) <| tF 27 34 rfl (decide_eq_false hc8) rfl rfl (fun _ => hE) <| tF 28 34 rfl (decide_eq_false hc8) rfl rfl (fun _ => hE) <| tF 29 34 rfl (decide_eq_false hc8) rfl rfl (fun _ => hE) <| tF 30 34 rfl (decide_eq_false hc8) rfl rfl (fun _ => hE) <| tF 31 34 rfl (decide_eq_false hc8) rfl rfl (fun _ => hE) <| tF 32 34 rfl (decide_eq_false hc8) rfl rfl (fun _ => hE) <| tF 33 34 rfl (decide_eq_false hc8) rfl rfl (fun _ => hE) <| tF 34 34 rfl (decide_eq_false hc8) rfl rfl (fun _ => hE) ?_
       refine tF 35 34 rfl (decide_eq_false hc8) rfl rfl (fun _ => hE) <| tPo 36 31 rfl (Bool.eq_false_iff.2 hc7) rfl rfl (fun _ => hE) (fun _ => ex_pick0 (b := (decide (0 < s1))) rfl (decide_eq_false hc8) (v := (.bool false)) rfl) <| tP 37 rfl (fun _ => hE) (fun _ => ex_pick0 (b := t29) rfl (Bool.eq_false_iff.2 hc7) (v := (.bool false)) rfl) <| dr_end (by kernel_rfl) ?_
       exact then_n ⟨false, _, rfl, mk_upds' (ae rfl (ae rfl (ae rfl ae0))), h⟩
 ·rw [if_neg hc2] at h; refine cond_0 (b := (decide (s1 < (t0.n : Int)))) rfl (decide_eq_false hc2) ?_
  refine wp_exit <| then_e <| then_e <| inb_e <| then_n <| seq_ <| region_ <| asg (.int .i64 (-1)) rfl <| wl_nil <| then_n ?_
  refine wp_ret ?_
  refine ret_1 rfl rfl ⟨(-1), rfl, h⟩

end Go.Proofs.Ytdoeegfcmbcbkaa.Tr


namespace Go.Proofs.Ytdoeegfcmbcbkaa.Tr
open Go Go.Eng
set_option linter.unusedVariables false
set_option maxRecDepth 100000
set_option maxHeartbeats 4000000
def f66 (t0 : Sl) (t1 : Int) (t2 : ByteArray) (R : (Int) → World → Prop) (w : World) : Prop :=
 Lp (σ := Int) (fun s1 w n1 =>
  if s1 < (t0.n : Int) then
   Jn (σ := Bool) (fun k3 =>
    RnP Try.prog Ptr (Instr.indexAt 22 (Sl.v t0) (.int .i64 s1)) fun t16 =>
    Rn Try.prog (Value.int .i64) (Instr.loadAt 3 (Ptr (t16.add 0))) w fun t18 w =>
    if t18 = t1 then
     RnP Try.prog Ptr (Instr.indexAt 22 (Sl.v t0) (.int .i64 s1)) fun t24 =>
     Rn Try.prog Value.string (Instr.loadAt 9 (Ptr (t24.add 1))) w fun t26 w =>
     k3 (decide (t26 = t2)) w
    else
     k3 false w
   ) fun s3 w =>
    if s3 = true then
     R s1 w
    else
     n1 (IntKind.i64.wrap (s1 + 1)) w
  else
   R (-1) w
 ) 0 w
theorem c66 {t0 : Sl} {t1 : Int} {t2 : ByteArray} {R : (Int) → World → Prop} {w : World} (h : f66 t0 t1 t2 R w) :
  Cal Try.prog (Value.int .i64) 66 #[(Sl.v t0), (.int .i64 t1), (.string t2)] w R := by
 unfold f66 at h
 refine calls_ Try.func66 Try.ntmps66 rfl rfl <| seq_ <| region_ <| asg (.int .i64 0) rfl <| wl_nil <| then_n <| seq_ <| seq_ <| region_ <| asg (.int .i64 0) rfl ?_
 refine wl_nil <| then_n <| wp_block <| wp_lp (σ := Int) (fun s1 a => ∃ j, a = F 31 (upds j [(0, (Sl.v t0)), (1, (.int .i64 t1)), (2, (.string t2)), (7, (.int .i64 s1))])) h (mk_upds (ae rfl (ae rfl (ae rfl (ae rfl ae0))))) ?_
 clear h; rintro s1 _ w n1 ⟨j, rfl⟩ h
 refine seq_ <| seq_ <| region_ <| mv (.int .i64 s1) rfl <| mv (Sl.v t0) rfl <| st_val (ex_len (s := t0) Try.underlying22 rfl) <| st_val (ex_lss (a := s1) (b := (t0.n : Int)) rfl rfl) <| wl_nil <| then_n ?_
 by_cases hc2 : s1 < (t0.n : Int)
 ·rw [if_pos hc2] at h; refine cond_1 (b := (decide (s1 < (t0.n : Int)))) rfl (decide_eq_true hc2) ?_
  refine wp_skip <| then_n <| seq_ <| wp_block ?_
  refine wp_jn (σ := Bool) (fun s3 l => ∃ j, l = upds j [(0, (Sl.v t0)), (1, (.int .i64 t1)), (2, (.string t2)), (7, (.int .i64 s1)), (29, (.bool s3))]) h ?_ ?_
  ·clear h; rintro s3 _ w ⟨j, rfl⟩ h
   by_cases hc5 : s3 = true
   ·rw [if_pos hc5] at h; refine cond_1 (b := s3) rfl hc5 ?_
    refine seq_ <| region_ <| mv (.int .i64 s1) rfl <| asg (.int .i64 s1) rfl <| wl_nil <| then_n <| wp_ret <| inb_r <| then_r <| then_r ?_
    refine inb_r <| then_r ?_
    refine ret_1 rfl rfl ⟨s1, rfl, h⟩
   ·rw [if_neg hc5] at h; refine cond_0 (b := s3) rfl (Bool.eq_false_iff.2 hc5) ?_
    refine wp_skip <| inb_n <| then_n <| region_ <| mv (.int .i64 s1) rfl <| st_val (ex_add (a := s1) (b := 1) rfl rfl) <| asg (.int .i64 (IntKind.i64.wrap (s1 + 1))) rfl <| wl_nil ?_
    exact then_n ⟨(IntKind.i64.wrap (s1 + 1)), mk_upds (ae rfl (ae rfl (ae rfl (ae rfl ae0)))), h⟩
  ·clear h; intro k3 h
   refine region_ <| mv (Sl.v t0) rfl <| mv (.int .i64 s1) rfl ?_
   refine st_rnp (fun r => ex_indexAddr rfl rfl r) h ?_; clear h; intro t16 h
   refine st_val (ex_fa fa48_0 (p := t16) rfl) ?_
   refine st_rn (fun r => ex_load rfl r) h ?_; clear h; intro t18 w h
   refine mv (.int .i64 t1) rfl <| st_val (ex_eql (a := t18) (b := t1) rfl rfl) <| mv (.bool (decide (t18 = t1))) rfl ?_
   by_cases hc4 : t18 = t1
   ·rw [if_pos hc4] at h
    refine sOn 21 (decide_eq_true hc4) rfl rfl <| mv (Sl.v t0) rfl <| sOn 21 (decide_eq_true hc4) rfl rfl <| mv (.int .i64 s1) rfl <| sOn 21 (decide_eq_true hc4) rfl rfl ?_
    refine st_rnp (fun r => ex_indexAddr rfl rfl r) h ?_; clear h; intro t24 h
    refine sOn 21 (decide_eq_true hc4) rfl rfl <| st_val (ex_fa fa48_1 (p := t24) rfl) <| sOn 21 (decide_eq_true hc4) rfl rfl ?_
    refine st_rn (fun r => ex_load rfl r) h ?_; clear h; intro t26 w h
    refine sOn 21 (decide_eq_true hc4) rfl rfl <| mv (.string t2) rfl <| sOn 21 (decide_eq_true hc4) rfl rfl <| st_val (ex_eqlS (a := t26) (b := t2) rfl rfl) <| st_val (ex_pick1 (b := (decide (t18 = t1))) rfl (decide_eq_true hc4) (v := (.bool (decide (t26 = t2)))) rfl) <| wl_nil ?_
    exact then_n ⟨(decide (t26 = t2)), _, rfl, mk_upds' (ae rfl (ae rfl (ae rfl (ae rfl (ae rfl ae0))))), h⟩
   ·rw [if_neg hc4] at h
    refine sOff 21 (decide_eq_false hc4) rfl rfl <| sOff 21 (decide_eq_false hc4) rfl rfl <| sOff 21 (decide_eq_false hc4) rfl rfl <| sOff 21 (decide_eq_false hc4) rfl rfl <| sOff 21 (decide_eq_false hc4) rfl rfl <| sOff 21 (decide_eq_false hc4) rfl rfl <| sOff 21 (decide_eq_false hc4) rfl rfl <| st_val (ex_pick0 (b := (decide (t18 = t1))) rfl (decide_eq_false hc4) (v := (.bool false)) rfl) <| wl_nil ?_
    exact then_n ⟨false, _, rfl, mk_upds' (ae rfl (ae rfl (ae rfl (ae rfl (ae rfl ae0))))), h⟩
 ·rw [if_neg hc2] at h; refine cond_0 (b := (decide (s1 < (t0.n : Int)))) rfl (decide_eq_false hc2) ?_
  refine wp_exit <| then_e <| then_e <| inb_e <| then_n <| seq_ <| region_ <| asg (.int .i64 (-1)) rfl <| wl_nil <| then_n ?_
  refine wp_ret ?_
  refine ret_1 rfl rfl ⟨(-1), rfl, h⟩

def f76 (t0 : Sl) (t1 : (Option Nat)) (t2 : TResource) (R : (THost) → World → Prop) (w : World) : Prop :=
 New 48 (TResource.cells t2) w fun b5 w =>
 New 59 (THost.cells (⟨⟨#[]⟩, ⟨#[]⟩, Sl.nil, Sl.nil⟩ : THost)) w fun b6 w =>
 Rn Try.prog Value.string (Instr.loadAt 9 (Ptr ((⟨b5, 0, none⟩ : Addr).add 4))) w fun t15 w =>
 Rn Try.prog Value.string (Instr.loadAt 9 (Ptr ((⟨b5, 0, none⟩ : Addr).add 1))) w fun t17 w =>
 New 59 (THost.cells (⟨⟨#[]⟩, ⟨#[]⟩, Sl.nil, Sl.nil⟩ : THost)) w fun b7 w =>
 RnU Try.prog (Instr.storeAt 59 (Ptr (⟨b7, 0, none⟩ : Addr)) (THost.v (⟨t15, t17, Sl.nil, Sl.nil⟩ : THost))) w fun w =>
 Rn Try.prog Sl.v (Instr.loadAt 46 (Ptr ((⟨b5, 0, none⟩ : Addr).add 5))) w fun t20 w =>
 Lp (σ := Int) (fun s1 w n1 =>
  if s1 < (t20.n : Int) then
   RnP Try.prog Ptr (Instr.indexAt 46 (Sl.v t20) (.int .i64 s1)) fun t24 =>
   Rn Try.prog TRule.v (Instr.loadAt 91 (Ptr t24)) w fun t25 w =>
   New 91 (TRule.cells (⟨⟨#[]⟩, ⟨#[]⟩, ⟨#[]⟩, false⟩ : TRule)) w fun b9 w =>
   RnU Try.prog (Instr.storeAt 91 (Ptr (⟨b9, 0, none⟩ : Addr)) (TRule.v t25)) w fun w =>
   Dr w fun w3 w =>
    RnL Try.prog Sl.v (Instr.loadAt 56 (Ptr ((⟨b7, 0, none⟩ : Addr).add 2))) w3 fun t27 =>
    RnL Try.prog Value.string (Instr.loadAt 9 (Ptr ((⟨b9, 0, none⟩ : Addr).add 0))) w3 fun t29 =>
    RnL Try.prog Value.string (Instr.loadAt 9 (Ptr ((⟨b9, 0, none⟩ : Addr).add 1))) w3 fun t31 =>
    RnL Try.prog Value.string (Instr.loadAt 9 (Ptr ((⟨b9, 0, none⟩ : Addr).add 2))) w3 fun t34 =>
    RnL Try.prog Sl.v (Instr.lookup 97 (.map t1) (.string t34) false) w3 fun t35 =>
    Cal Try.prog Sl.v 19 #[(Sl.v t35)] w (ExtK w3 fun t36 w =>
     New 61 ((TEntry.cells (⟨t29, t31, t36⟩ : TEntry))) w fun b38 w =>
     Rn Try.prog Sl.v (Builtin.append_ #[56, 56] 56 #[(Sl.v t27), (Sl.v (⟨some ⟨b38, 0, none⟩, 1, 1⟩ : Sl))]) w fun t39 w =>
     RnU Try.prog (Instr.storeAt 56 (Ptr ((⟨b7, 0, none⟩ : Addr).add 2)) (Sl.v t39)) w fun w =>
     n1 (IntKind.i64.wrap (s1 + 1)) w
    )
  else
   Cal Try.prog Sl.v 54 #[(Sl.v t0), (.int .i64 4)] w fun t43 w =>
   Lp (σ := Int) (fun s4 w n4 =>
    if s4 < (t43.n : Int) then
     Jn (σ := Unit) (fun k6 =>
      RnP Try.prog Ptr (Instr.indexAt 22 (Sl.v t43) (.int .i64 s4)) fun t47 =>
      Rn Try.prog TResource.v (Instr.loadAt 48 (Ptr t47)) w fun t48 w =>
      New 48 (TResource.cells (⟨0, ⟨#[]⟩, Sl.nil, Sl.nil, ⟨#[]⟩, Sl.nil, ⟨#[]⟩, false⟩ : TResource)) w fun b11 w =>
      RnU Try.prog (Instr.storeAt 48 (Ptr (⟨b11, 0, none⟩ : Addr)) (TResource.v t48)) w fun w =>
      Rn Try.prog Value.string (Instr.loadAt 9 (Ptr ((⟨b11, 0, none⟩ : Addr).add 6))) w fun t50 w =>
      Rn Try.prog Value.string (Instr.loadAt 9 (Ptr ((⟨b5, 0, none⟩ : Addr).add 1))) w fun t52 w =>
      if t50 ≠ t52 then
       k6 () w
      else
       Rn Try.prog Sl.v (Instr.loadAt 46 (Ptr ((⟨b11, 0, none⟩ : Addr).add 5))) w fun t55 w =>
       Lp (σ := Int) (fun s8 w n8 =>
        if s8 < (t55.n : Int) then
         RnP Try.prog Ptr (Instr.indexAt 46 (Sl.v t55) (.int .i64 s8)) fun t59 =>
         Rn Try.prog TRule.v (Instr.loadAt 91 (Ptr t59)) w fun t60 w =>
         New 91 (TRule.cells (⟨⟨#[]⟩, ⟨#[]⟩, ⟨#[]⟩, false⟩ : TRule)) w fun b13 w =>
         RnU Try.prog (Instr.storeAt 91 (Ptr (⟨b13, 0, none⟩ : Addr)) (TRule.v t60)) w fun w =>
         Rn Try.prog Sl.v (Instr.loadAt 57 (Ptr ((⟨b7, 0, none⟩ : Addr).add 3))) w fun t62 w =>
         Rn Try.prog Value.string (Instr.loadAt 9 (Ptr ((⟨b13, 0, none⟩ : Addr).add 0))) w fun t64 w =>
         Rn Try.prog Value.string (Instr.loadAt 9 (Ptr ((⟨b13, 0, none⟩ : Addr).add 1))) w fun t66 w =>
         Rn Try.prog Value.bool (Instr.loadAt 4 (Ptr ((⟨b13, 0, none⟩ : Addr).add 3))) w fun t68 w =>
         New 89 ((TPermit.cells (⟨t64, t66, t68⟩ : TPermit))) w fun b70 w =>
         Rn Try.prog Sl.v (Builtin.append_ #[57, 57] 57 #[(Sl.v t62), (Sl.v (⟨some ⟨b70, 0, none⟩, 1, 1⟩ : Sl))]) w fun t71 w =>
         RnU Try.prog (Instr.storeAt 57 (Ptr ((⟨b7, 0, none⟩ : Addr).add 3)) (Sl.v t71)) w fun w =>
         n8 (IntKind.i64.wrap (s8 + 1)) w
        else
         k6 () w
       ) 0 w
     ) fun s6 w =>
      n4 (IntKind.i64.wrap (s4 + 1)) w
    else
     Rn Try.prog THost.v (Instr.loadAt 59 (Ptr (⟨b7, 0, none⟩ : Addr))) w fun t75 w =>
     RnU Try.prog (Instr.storeAt 59 (Ptr (⟨b6, 0, none⟩ : Addr)) (THost.v t75)) w fun w =>
     RnR Try.prog THost.v (loadVar 59 (⟨b6, 0, none⟩ : Addr)) w fun r0 =>
     R r0 w
   ) 0 w
 ) 0 w
theorem c76 {t0 : Sl} {t1 : (Option Nat)} {t2 : TResource} {R : (THost) → World → Prop} {w : World} (h : f76 t0 t1 t2 R w) :
  Cal Try.prog THost.v 76 #[(Sl.v t0), (.map t1), (TResource.v t2)] w R := by
 unfold f76 at h
 refine calls_ Try.func76 Try.ntmps76 rfl rfl <| seq_ <| region_ ?_
 refine st_new (f := (fun b => Ptr ⟨b, 0, none⟩)) (ex_boxN rfl rfl) h ?_; clear h; intro b5 w h
 refine st_new (f := (fun b => Ptr ⟨b, 0, none⟩)) (ex_allocN zero59 rfl) h ?_; clear h; intro b6 w h
 refine wl_nil <| then_n <| seq_ <| region_ <| st_val (ex_fa fa48_4 (p := (⟨b5, 0, none⟩ : Addr)) rfl) ?_
 refine st_rn (fun r => ex_load rfl r) h ?_; clear h; intro t15 w h
 refine st_val (ex_fa fa48_1 (p := (⟨b5, 0, none⟩ : Addr)) rfl) ?_
 refine st_rn (fun r => ex_load rfl r) h ?_; clear h; intro t17 w h
 refine st_val (ex_build (a' := [(0, (.string t15)), (1, (.string t17))]) (v := THost.v (⟨t15, t17, Sl.nil, Sl.nil⟩ : THost)) rfl (e_build Try.underlying59 zero59 rfl pl59 rfl _)) ?_
 refine st_new (f := (fun b => Ptr ⟨b, 0, none⟩)) (ex_allocN zero59 rfl) h ?_; clear h; intro b7 w h
 refine st_rnu (fun r => ex_store rfl rfl r) h ?_; clear h; intro w h
 refine wl_nil <| then_n <| seq_ <| seq_ <| region_ <| st_val (ex_fa fa48_5 (p := (⟨b5, 0, none⟩ : Addr)) rfl) ?_
 refine st_rn (fun r => ex_load rfl r) h ?_; clear h; intro t20 w h
 refine st_val (ex_len (s := t20) Try.underlying46 rfl) <| mv (.int .i64 0) rfl <| wl_nil <| then_n <| wp_block <| wp_lp (σ := Int) (fun s1 a => ∃ j, a = F 76 (upds j [(0, (Sl.v t0)), (1, (.map t1)), (5, (Ptr (⟨b5, 0, none⟩ : Addr))), (6, (Ptr (⟨b6, 0, none⟩ : Addr))), (7, (Ptr (⟨b7, 0, none⟩ : Addr))), (20, (Sl.v t20)), (21, (.int .i64 (t20.n : Int))), (22, (.int .i64 s1))])) h (mk_upds (ae rfl (ae rfl (ae rfl (ae rfl (ae rfl (ae rfl (ae rfl (ae rfl ae0))))))))) ?_
 clear h; rintro s1 _ w n1 ⟨j, rfl⟩ h
 refine seq_ <| region_ <| st_val (ex_lss (a := s1) (b := (t20.n : Int)) rfl rfl) <| wl_nil <| then_n <| seq_ ?_
 by_cases hc2 : s1 < (t20.n : Int)
 ·rw [if_pos hc2] at h; refine cond_1 (b := (decide (s1 < (t20.n : Int)))) rfl (decide_eq_true hc2) ?_
  refine wp_skip <| then_n <| seq_ <| wp_block <| seq_ <| region_ ?_
  refine st_rnp (fun r => ex_indexAddr rfl rfl r) h ?_; clear h; intro t24 h
  refine st_rn (fun r => ex_load rfl r) h ?_; clear h; intro t25 w h
  refine st_new (f := (fun b => Ptr ⟨b, 0, none⟩)) (ex_allocN zero91 rfl) h ?_; clear h; intro b9 w h
  refine st_rnu (fun r => ex_store rfl rfl r) h ?_; clear h; intro w h
  refine wl_nil <| then_n ?_
  refine dr_begin mixed [13, 15] (listed := #[false, false, false, false, false, false, false, false, false, false, false, false, false, false, false, false]) rfl (n := 16) rfl h ?_; clear h; intro w3 h
  have hE : Ext w3 w3 := Ext.refl _
  refine tP 0 rfl (fun _ => hE) (fun _ => ex_fa fa59_2 (p := (⟨b7, 0, none⟩ : Addr)) rfl) ?_
  obtain ⟨t27, ht27, h⟩ := h
  refine tK 1 rfl hE (fun _ hw => (fun r => ex_load rfl r) (ht27 _ hw)) <| tP 2 rfl (fun _ => hE) (fun _ => ex_fa fa91_0 (p := (⟨b9, 0, none⟩ : Addr)) rfl) ?_
  obtain ⟨t29, ht29, h⟩ := h
  refine tK 3 rfl hE (fun _ hw => (fun r => ex_load rfl r) (ht29 _ hw)) <| tP 4 rfl (fun _ => hE) (fun _ => ex_fa fa91_1 (p := (⟨b9, 0, none⟩ : Addr)) rfl) ?_
  obtain ⟨t31, ht31, h⟩ := h
  refine tK 5 rfl hE (fun _ hw => (fun r => ex_load rfl r) (ht31 _ hw)) <| tP 6 rfl (fun _ => hE) (fun _ => ex_move (v := (.map t1)) rfl) <| tP 7 rfl (fun _ => hE) (fun _ => ex_fa fa91_2 (p := (⟨b9, 0, none⟩ : Addr)) rfl) ?_
  obtain ⟨t34, ht34, h⟩ := h
  refine tK 8 rfl hE (fun _ hw => (fun r => ex_load rfl r) (ht34 _ hw)) ?_
  obtain ⟨t35, ht35, h⟩ := h
  refine tK 9 rfl hE (fun _ hw => (fun r => ex_lookup rfl rfl r) (ht35 _ hw)) <| dr_only (i := 10) (by kernel_rfl) rfl rfl ?_
  refine o_cal en19 rfl h ?_; clear h; intro t36 w h; obtain ⟨hx, h⟩ := h; clear hE; have hE := hx; clear hx; refine ⟨fun _ => hE, ?_⟩
  refine tP 11 rfl (fun _ => hE) (fun _ => ex_build (a' := [(0, (.string t29)), (1, (.string t31)), (2, (Sl.v t36))]) (v := TEntry.v (⟨t29, t31, t36⟩ : TEntry)) rfl (e_build Try.underlying61 zero61 rfl pl61 rfl _)) <| dr_only (i := 12) (by kernel_rfl) rfl rfl ?_
  refine o_new (f := (fun b => Sl.v ⟨some ⟨b, 0, none⟩, 1, 1⟩)) (ex_buildSlice (a' := [(0, (TEntry.v (⟨t29, t31, t36⟩ : TEntry)))]) rfl (e_buildSlice (cs := ((TEntry.cells (⟨t29, t31, t36⟩ : TEntry)))) Try.underlying56 info61 iz61 (by decide +kernel) (by decide +kernel) (by kernel_rfl) _)) h ?_; clear h; intro b38 w hx h; replace hE := hE.trans hx; clear hx; refine ⟨fun _ => hE, ?_⟩
  refine dr_only (i := 13) (by kernel_rfl) rfl rfl ?_
  refine o_rn (fun r => ex_builtin rfl (fun _ => rfl) r) h ?_; clear h; intro t39 w h; refine ⟨noG (by kernel_rfl), ?_⟩
  refine tP 14 rfl (noG (by kernel_rfl)) (fun _ => ex_fa fa59_2 (p := (⟨b7, 0, none⟩ : Addr)) rfl) <| dr_only (i := 15) (by kernel_rfl) rfl rfl ?_
  refine o_rnu (fun r => ex_store rfl rfl r) h ?_; clear h; intro w h; refine ⟨noG (by kernel_rfl), ?_⟩
  refine dr_end (by kernel_rfl) <| inb_n <| then_n <| region_ <| st_val (ex_add (a := s1) (b := 1) rfl rfl) <| mv (.int .i64 (IntKind.i64.wrap (s1 + 1))) rfl <| wl_nil ?_
  exact then_n ⟨(IntKind.i64.wrap (s1 + 1)), mk_upds (ae rfl (ae rfl (ae rfl (ae rfl (ae rfl (ae rfl (ae rfl (ae rfl ae0)))))))), h⟩
 ·rw [if_neg hc2] at h; refine cond_0 (b := (decide (s1 < (t20.n : Int)))) rfl (decide_eq_false hc2) ?_
  refine wp_exit <| then_e <| then_e <| inb_e <| then_n <| seq_ <| seq_ <| region_ <| mv (Sl.v t0) rfl ?_
  refine st_cal en54 rfl h ?_; clear h; intro t43 w h
  refine st_val (ex_len (s := t43) Try.underlying22 rfl) <| mv (.int .i64 0) rfl <| wl_nil <| then_n <| wp_block <| wp_lp (σ := Int) (fun s4 a => ∃ j, a = F 76 (upds j [(5, (Ptr (⟨b5, 0, none⟩ : Addr))), (6, (Ptr (⟨b6, 0, none⟩ : Addr))), (7, (Ptr (⟨b7, 0, none⟩ : Addr))), (43, (Sl.v t43)), (44, (.int .i64 (t43.n : Int))), (45, (.int .i64 s4))])) h (mk_upds (ae rfl (ae rfl (ae rfl (ae rfl (ae rfl (ae rfl ae0))))))) ?_
  clear h; rintro s4 _ w n4 ⟨j, rfl⟩ h
  refine seq_ <| region_ <| st_val (ex_lss (a := s4) (b := (t43.n : Int)) rfl rfl) <| wl_nil <| then_n <| seq_ ?_
  by_cases hc5 : s4 < (t43.n : Int)
  ·rw [if_pos hc5] at h; refine cond_1 (b := (decide (s4 < (t43.n : Int)))) rfl (decide_eq_true hc5) ?_
   refine wp_skip <| then_n ?_
   refine wp_jn (σ := Unit) (fun s6 l => ∃ j, l = upds j [(5, (Ptr (⟨b5, 0, none⟩ : Addr))), (6, (Ptr (⟨b6, 0, none⟩ : Addr))), (7, (Ptr (⟨b7, 0, none⟩ : Addr))), (43, (Sl.v t43)), (44, (.int .i64 (t43.n : Int))), (45, (.int .i64 s4))]) h ?_ ?_
   ·clear h; rintro s6 _ w ⟨j, rfl⟩ h
    refine region_ <| st_val (ex_add (a := s4) (b := 1) rfl rfl) <| mv (.int .i64 (IntKind.i64.wrap (s4 + 1))) rfl <| wl_nil ?_
    exact then_n ⟨(IntKind.i64.wrap (s4 + 1)), mk_upds (ae rfl (ae rfl (ae rfl (ae rfl (ae rfl (ae rfl ae0)))))), h⟩
   ·clear h; intro k6 h
    refine wp_block <| seq_ <| region_ ?_
    refine st_rnp (fun r => ex_indexAddr rfl rfl r) h ?_; clear h; intro t47 h
    refine st_rn (fun r => ex_load rfl r) h ?_; clear h; intro t48 w h
    refine st_new (f := (fun b => Ptr ⟨b, 0, none⟩)) (ex_allocN zero48 rfl) h ?_; clear h; intro b11 w h
    refine st_rnu (fun r => ex_store rfl rfl r) h ?_; clear h; intro w h
    refine wl_nil <| then_n <| seq_ <| seq_ <| region_ <| st_val (ex_fa fa48_6 (p := (⟨b11, 0, none⟩ : Addr)) rfl) ?_
    refine st_rn (fun r => ex_load rfl r) h ?_; clear h; intro t50 w h
    refine st_val (ex_fa fa48_1 (p := (⟨b5, 0, none⟩ : Addr)) rfl) ?_
    refine st_rn (fun r => ex_load rfl r) h ?_; clear h; intro t52 w h
    refine st_val (ex_neqS (a := t50) (b := t52) rfl rfl) <| wl_nil <| then_n ?_
    by_cases hc7 : t50 ≠ t52
    ·rw [if_pos hc7] at h; refine cond_1 (b := (decide (t50 ≠ t52))) rfl (decide_eq_true hc7) ?_
     refine wp_exit <| then_e <| inb_e ?_
     exact then_n ⟨(), _, rfl, mk_upds' (ae rfl (ae rfl (ae rfl (ae rfl (ae rfl (ae rfl ae0)))))), h⟩
    ·rw [if_neg hc7] at h; refine cond_0 (b := (decide (t50 ≠ t52))) rfl (decide_eq_false hc7) ?_
     refine wp_skip <| then_n <| seq_ <| region_ <| st_val (ex_fa fa48_5 (p := (⟨b11, 0, none⟩ : Addr)) rfl) ?_
     refine st_rn (fun r => ex_load rfl r) h ?_; clear h; intro t55 w h
     refine st_val (ex_len (s := t55) Try.underlying46 rfl) <| mv (.int .i64 0) rfl <| wl_nil <| then_n <| wp_block <| wp_lp (σ := Int) (fun s8 a => ∃ j, a = F 76 (upds j [(5, (Ptr (⟨b5, 0, none⟩ : Addr))), (6, (Ptr (⟨b6, 0, none⟩ : Addr))), (7, (Ptr (⟨b7, 0, none⟩ : Addr))), (43, (Sl.v t43)), (44, (.int .i64 (t43.n : Int))), (45, (.int .i64 s4)), (55, (Sl.v t55)), (56, (.int .i64 (t55.n : Int))), (57, (.int .i64 s8))])) h (mk_upds (ae rfl (ae rfl (ae rfl (ae rfl (ae rfl (ae rfl (ae rfl (ae rfl (ae rfl ae0)))))))))) ?_
     clear h; rintro s8 _ w n8 ⟨j, rfl⟩ h
     refine seq_ <| region_ <| st_val (ex_lss (a := s8) (b := (t55.n : Int)) rfl rfl) <| wl_nil <| then_n <| seq_ ?_
     by_cases hc9 : s8 < (t55.n : Int)
     ·rw [if_pos hc9] at h; refine cond_1 (b := (decide (s8 < (t55.n : Int)))) rfl (decide_eq_true hc9) ?_
      refine wp_skip <| then_n <| seq_ <| wp_block <| seq_ <| region_ ?_
      refine st_rnp (fun r => ex_indexAddr rfl rfl r) h ?_; clear h; intro t59 h
      refine st_rn (fun r => ex_load rfl r) h ?_; clear h; intro t60 w h
      refine st_new (f := (fun b => Ptr ⟨b, 0, none⟩)) (ex_allocN zero91 rfl) h ?_; clear h; intro b13 w h
      refine st_rnu (fun r => ex_store rfl rfl r) h ?_; clear h; intro w h
      refine wl_nil <| then_n <| region_ <| st_val (ex_fa fa59_3 (p := (⟨b7, 0, none⟩ : Addr)) rfl) ?_
      refine st_rn (fun r => ex_load rfl r) h ?_; clear h; intro t62 w h
      refine st_val (ex_fa fa91_0 (p := (⟨b13, 0, none⟩ : Addr)) rfl) ?_
      refine st_rn (fun r => ex_load rfl r) h ?_; clear h; intro t64 w h
      refine st_val (ex_fa fa91_1 (p := (⟨b13, 0, none⟩ : Addr)) rfl) ?_
      refine st_rn (fun r => ex_load rfl r) h ?_; clear h; intro t66 w h
      refine st_val (ex_fa fa91_3 (p := (⟨b13, 0, none⟩ : Addr)) rfl) ?_
      refine st_rn (fun r => ex_load rfl r) h ?_; clear h; intro t68 w h
      refine st_val (ex_build (a' := [(0, (.string t64)), (1, (.string t66)), (2, (.bool t68))]) (v := TPermit.v (⟨t64, t66, t68⟩ : TPermit)) rfl (e_build Try.underlying89 zero89 rfl pl89 rfl _)) ?_
      refine st_new (f := (fun b => Sl.v ⟨some ⟨b, 0, none⟩, 1, 1⟩)) (ex_buildSlice (a' := [(0, (TPermit.v (⟨t64, t66, t68⟩ : TPermit)))]) rfl (e_buildSlice (cs := ((TPermit.cells (⟨t64, t66, t68⟩ : TPermit)))) Try.underlying57 info89 iz89 (by decide +kernel) (by decide +kernel) (by kernel_rfl) _)) h ?_; clear h; intro b70 w h
      refine st_rn (fun r => ex_builtin rfl (fun _ => rfl) r) h ?_; clear h; intro t71 w h
      refine st_val (ex_fa fa59_3 (p := (⟨b7, 0, none⟩ : Addr)) rfl) ?_
      refine st_rnu (fun r => ex_store rfl rfl r) h ?_; clear h; intro w h
      refine wl_nil <| inb_n <| then_n <| region_ <| st_val (ex_add (a := s8) (b := 1) rfl rfl) <| mv (.int .i64 (IntKind.i64.wrap (s8 + 1))) rfl <| wl_nil ?_
      exact then_n ⟨(IntKind.i64.wrap (s8 + 1)), mk_upds (ae rfl (ae rfl (ae rfl (ae rfl (ae rfl (ae rfl (ae rfl (ae rfl (ae rfl ae0))))))))), h⟩
     ·rw [if_neg hc9] at h; refine cond_0 (b := (decide (s8 < (t55.n : Int)))) rfl (decide_eq_false hc9) ?_
      refine wp_exit <| then_e <| then_e <| inb_e <| inb_n ?_
      exact then_n ⟨(), _, rfl, mk_upds' (ae rfl (ae rfl (ae rfl (ae rfl (ae rfl (ae rfl ae0)))))), h⟩
  ·rw [if_neg hc5] at h; refine cond_0 (b := (decide (s4 < (t43.n : Int)))) rfl (decide_eq_false hc5) ?_
   refine wp_exit <| then_e <| then_e <| inb_e <| then_n <| seq_ <| region_ ?_
   refine st_rn (fun r => ex_load rfl r) h ?_; clear h; intro t75 w h
   refine st_rnu (fun r => ex_store rfl rfl r) h ?_; clear h; intro w h
   refine wl_nil <| then_n <| wp_ret ?_
   obtain ⟨r0, hr0, h⟩ := h
   refine ret_c rfl rfl hr0 ⟨r0, rfl, h⟩

def f77 (t0 : Sl) (t1 : Value) (R : (Unit) → World → Prop) (w : World) : Prop :=
 Cal Try.prog (fun _ : Unit => Value.tuple #[]) 113 #[(Sl.v t0), (.int .i64 (t0.n : Int)), t1] w fun t8 w =>
 R () w
theorem c77 {t0 : Sl} {t1 : Value} {R : (Unit) → World → Prop} {w : World} (h : f77 t0 t1 R w) :
  Cal Try.prog (fun _ : Unit => Value.tuple #[]) 77 #[(Sl.v t0), t1] w R := by
 unfold f77 at h
 refine calls_ Try.func77 Try.ntmps77 rfl rfl <| region_ <| mv (Sl.v t0) rfl <| mv (Sl.v t0) rfl <| st_val (ex_len (s := t0) Try.underlying51 rfl) <| mv t1 rfl ?_
 refine st_cal en113 rfl h ?_; clear h; intro t8 w h
 refine wl_nil ?_
 refine end_0 rfl ⟨(), rfl, h⟩

def f78 (t0 : THost) (t1 : THost) (R : (Int) → World → Prop) (w : World) : Prop :=
 New 59 (THost.cells t0) w fun b2 w =>
 New 59 (THost.cells t1) w fun b3 w =>
 Rn Try.prog Value.string (Instr.loadAt 9 (Ptr ((⟨b2, 0, none⟩ : Addr).add 0))) w fun t6 w =>
 Rn Try.prog Value.string (Instr.loadAt 9 (Ptr ((⟨b3, 0, none⟩ : Addr).add 0))) w fun t8 w =>
 Cal Try.prog (Value.int .i64) 40 #[(.string t6), (.string t8)] w fun t9 w =>
 R t9 w
theorem c78 {t0 : THost} {t1 : THost} {R : (Int) → World → Prop} {w : World} (h : f78 t0 t1 R w) :
  Cal Try.prog (Value.int .i64) 78 #[(THost.v t0), (THost.v t1)] w R := by
 unfold f78 at h
 refine calls_ Try.func78 Try.ntmps78 rfl rfl <| seq_ <| region_ ?_
 refine st_new (f := (fun b => Ptr ⟨b, 0, none⟩)) (ex_boxN rfl rfl) h ?_; clear h; intro b2 w h
 refine st_new (f := (fun b => Ptr ⟨b, 0, none⟩)) (ex_boxN rfl rfl) h ?_; clear h; intro b3 w h
 refine asg (.int .i64 0) rfl <| wl_nil <| then_n <| seq_ <| region_ <| st_val (ex_fa fa59_0 (p := (⟨b2, 0, none⟩ : Addr)) rfl) ?_
 refine st_rn (fun r => ex_load rfl r) h ?_; clear h; intro t6 w h
 refine st_val (ex_fa fa59_0 (p := (⟨b3, 0, none⟩ : Addr)) rfl) ?_
 refine st_rn (fun r => ex_load rfl r) h ?_; clear h; intro t8 w h
 refine st_cal en40 rfl h ?_; clear h; intro t9 w h
 refine asg (.int .i64 t9) rfl <| wl_nil <| then_n <| wp_ret ?_
 refine ret_1 rfl rfl ⟨t9, rfl, h⟩

def f79 (t0 : ByteArray) (t1 : ByteArray) (R : (Int) → World → Prop) (w : World) : Prop :=
 Cal Try.prog (fun x : Int × ByteArray => Value.tuple #[(.int .i64 x.1), (.string x.2)]) 114 #[(.string t0)] w fun t11 w =>
 Cal Try.prog (fun x : Int × ByteArray => Value.tuple #[(.int .i64 x.1), (.string x.2)]) 114 #[(.string t1)] w fun t16 w =>
 if t11.1 < t16.1 then
  R (-1) w
 else
  if t16.1 < t11.1 then
   R 1 w
  else
   Jn (σ := Bool) (fun k3 =>
    if t11.1 = 2 then
     k3 (decide ((t11.2.size : Int) ≠ (t16.2.size : Int))) w
    else
     k3 false w
   ) fun s3 w =>
    if s3 = true then
     if (t16.2.size : Int) < (t11.2.size : Int) then
      R (-1) w
     else
      R 1 w
    else
     Cal Try.prog (Value.int .i64) 115 #[(.string t11.2), (.string t16.2)] w fun t41 w =>
     R t41 w
theorem c79 {t0 : ByteArray} {t1 : ByteArray} {R : (Int) → World → Prop} {w : World} (h : f79 t0 t1 R w) :
  Cal Try.prog (Value.int .i64) 79 #[(.string t0), (.string t1)] w R := by
 unfold f79 at h
 refine calls_ Try.func79 Try.ntmps79 rfl rfl <| seq_ <| region_ <| asg (.int .i64 0) rfl <| wl_nil <| then_n <| seq_ <| region_ <| mv (.string t0) rfl ?_
 refine st_cal en114 rfl h ?_; clear h; intro t11 w h
 refine mv (.tuple #[(.int .i64 t11.1), (.string t11.2)]) rfl <| st_val (ex_extract (u := (.tuple #[(.int .i64 t11.1), (.string t11.2)])) rfl (v := (.int .i64 t11.1)) rfl) <| st_val (ex_extract (u := (.tuple #[(.int .i64 t11.1), (.string t11.2)])) rfl (v := (.string t11.2)) rfl) <| asg (.int .i64 t11.1) rfl <| asg (.string t11.2) rfl <| wl_nil <| then_n <| seq_ <| region_ <| mv (.string t1) rfl ?_
 refine st_cal en114 rfl h ?_; clear h; intro t16 w h
 refine mv (.tuple #[(.int .i64 t16.1), (.string t16.2)]) rfl <| st_val (ex_extract (u := (.tuple #[(.int .i64 t16.1), (.string t16.2)])) rfl (v := (.int .i64 t16.1)) rfl) <| st_val (ex_extract (u := (.tuple #[(.int .i64 t16.1), (.string t16.2)])) rfl (v := (.string t16.2)) rfl) <| asg (.int .i64 t16.1) rfl <| asg (.string t16.2) rfl <| wl_nil <| then_n <| seq_ <| seq_ <| region_ ?_
 refine mv (.int .i64 t11.1) rfl <| mv (.int .i64 t16.1) rfl <| st_val (ex_lss (a := t11.1) (b := t16.1) rfl rfl) <| wl_nil <| then_n ?_
 by_cases hc1 : t11.1 < t16.1
 ·rw [if_pos hc1] at h; refine cond_1 (b := (decide (t11.1 < t16.1))) rfl (decide_eq_true hc1) ?_
  refine seq_ <| region_ <| asg (.int .i64 (-1)) rfl <| wl_nil <| then_n <| wp_ret <| then_r ?_
  refine ret_1 rfl rfl ⟨(-1), rfl, h⟩
 ·rw [if_neg hc1] at h; refine cond_0 (b := (decide (t11.1 < t16.1))) rfl (decide_eq_false hc1) ?_
  refine wp_skip <| then_n <| seq_ <| seq_ <| region_ <| mv (.int .i64 t11.1) rfl <| mv (.int .i64 t16.1) rfl <| st_val (ex_gtr (a := t11.1) (b := t16.1) rfl rfl) <| wl_nil <| then_n ?_
  by_cases hc2 : t16.1 < t11.1
  ·rw [if_pos hc2] at h; refine cond_1 (b := (decide (t16.1 < t11.1))) rfl (decide_eq_true hc2) ?_
   refine seq_ <| region_ <| asg (.int .i64 1) rfl <| wl_nil <| then_n <| wp_ret <| then_r ?_
   refine ret_1 rfl rfl ⟨1, rfl, h⟩
  ·rw [if_neg hc2] at h; refine cond_0 (b := (decide (t16.1 < t11.1))) rfl (decide_eq_false hc2) ?_
   refine wp_skip <| then_n <| seq_ ?_
   refine wp_jn (σ := Bool) (fun s3 l => ∃ j, l = upds j [(6, (.string t11.2)), (8, (.string t16.2)), (33, (.bool s3))]) h ?_ ?_
   ·clear h; rintro s3 _ w ⟨j, rfl⟩ h
    by_cases hc5 : s3 = true
    ·rw [if_pos hc5] at h; refine cond_1 (b := s3) rfl hc5 ?_
     refine seq_ <| seq_ <| region_ <| mv (.string t11.2) rfl <| st_val (ex_lenS (s := t11.2) Try.underlying9 rfl) <| mv (.string t16.2) rfl <| st_val (ex_lenS (s := t16.2) Try.underlying9 rfl) <| st_val (ex_gtr (a := (t11.2.size : Int)) (b := (t16.2.size : Int)) rfl rfl) <| wl_nil <| then_n ?_
     by_cases hc6 : (t16.2.size : Int) < (t11.2.size : Int)
     ·rw [if_pos hc6] at h; refine cond_1 (b := (decide ((t16.2.size : Int) < (t11.2.size : Int)))) rfl (decide_eq_true hc6) ?_
      refine seq_ <| region_ <| asg (.int .i64 (-1)) rfl <| wl_nil <| then_n <| wp_ret <| then_r <| then_r ?_
      refine ret_1 rfl rfl ⟨(-1), rfl, h⟩
     ·rw [if_neg hc6] at h; refine cond_0 (b := (decide ((t16.2.size : Int) < (t11.2.size : Int)))) rfl (decide_eq_false hc6) ?_
      refine wp_skip <| then_n <| seq_ <| region_ <| asg (.int .i64 1) rfl <| wl_nil <| then_n <| wp_ret <| then_r ?_
      refine ret_1 rfl rfl ⟨1, rfl, h⟩
    ·rw [if_neg hc5] at h; refine cond_0 (b := s3) rfl (Bool.eq_false_iff.2 hc5) ?_
     refine wp_skip <| then_n <| seq_ <| region_ <| mv (.string t11.2) rfl <| mv (.string t16.2) rfl ?_
     refine st_cal en115 rfl h ?_; clear h; intro t41 w h
     refine asg (.int .i64 t41) rfl <| wl_nil <| then_n <| wp_ret ?_
     refine ret_1 rfl rfl ⟨t41, rfl, h⟩
   ·clear h; intro k3 h
    refine region_ <| mv (.int .i64 t11.1) rfl <| st_val (ex_eql (a := t11.1) (b := 2) rfl rfl) <| mv (.bool (decide (t11.1 = 2))) rfl ?_
    by_cases hc4 : t11.1 = 2
    ·rw [if_pos hc4] at h
     refine sOn 27 (decide_eq_true hc4) rfl rfl <| mv (.string t11.2) rfl <| sOn 27 (decide_eq_true hc4) rfl rfl <| st_val (ex_lenS (s := t11.2) Try.underlying9 rfl) <| sOn 27 (decide_eq_true hc4) rfl rfl <| mv (.string t16.2) rfl <| sOn 27 (decide_eq_true hc4) rfl rfl <| st_val (ex_lenS (s := t16.2) Try.underlying9 rfl) <| sOn 27 (decide_eq_true hc4) rfl rfl <| st_val (ex_neq (a := (t11.2.size : Int)) (b := (t16.2.size : Int)) rfl rfl) ?_
     refine st_val (ex_pick1 (b := (decide (t11.1 = 2))) rfl (decide_eq_true hc4) (v := (.bool (decide ((t11.2.size : Int) ≠ (t16.2.size : Int))))) rfl) <| wl_nil ?_
     exact then_n ⟨(decide ((t11.2.size : Int) ≠ (t16.2.size : Int))), _, rfl, mk_upds' (ae rfl (ae rfl (ae rfl ae0))), h⟩
    ·rw [if_neg hc4] at h
     refine sOff 27 (decide_eq_false hc4) rfl rfl <| sOff 27 (decide_eq_false hc4) rfl rfl <| sOff 27 (decide_eq_false hc4) rfl rfl <| sOff 27 (decide_eq_false hc4) rfl rfl <| sOff 27 (decide_eq_false hc4) rfl rfl <| st_val (ex_pick0 (b := (decide (t11.1 = 2))) rfl (decide_eq_false hc4) (v := (.bool false)) rfl) <| wl_nil ?_
     exact then_n ⟨false, _, rfl, mk_upds' (ae rfl (ae rfl (ae rfl ae0))), h⟩

def f80 (t0 : Sl) (t1 : Sl) (R : (Bool) → World → Prop) (w : World) : Prop :=
 if (t0.n : Int) ≠ (t1.n : Int) then
  R false w
 else
  Lp (σ := Int) (fun s2 w n2 =>
   if s2 < (t0.n : Int) then
    Dr w fun w4 w =>
     RnP Try.prog Ptr (Instr.indexAt 44 (Sl.v t0) (.int .i64 s2)) fun t19 =>
     RnL Try.prog Value.string (Instr.loadAt 9 (Ptr t19)) w4 fun t20 =>
     RnP Try.prog Ptr (Instr.indexAt 44 (Sl.v t1) (.int .i64 s2)) fun t23 =>
     RnL Try.prog Value.string (Instr.loadAt 9 (Ptr t23)) w4 fun t24 =>
     if t20 ≠ t24 then
      R false w
     else
      n2 (IntKind.i64.wrap (s2 + 1)) w
   else
    R true w
  ) 0 w
theorem c80 {t0 : Sl} {t1 : Sl} {R : (Bool) → World → Prop} {w : World} (h : f80 t0 t1 R w) :
  Cal Try.prog Value.bool 80 #[(Sl.v t0), (Sl.v t1)] w R := by
 unfold f80 at h
 refine calls_ Try.func80 Try.ntmps80 rfl rfl <| seq_ <| region_ <| asg (.bool false) rfl <| wl_nil <| then_n <| seq_ <| seq_ <| region_ <| mv (Sl.v t0) rfl ?_
 refine st_val (ex_len (s := t0) Try.underlying44 rfl) <| mv (Sl.v t1) rfl <| st_val (ex_len (s := t1) Try.underlying44 rfl) <| st_val (ex_neq (a := (t0.n : Int)) (b := (t1.n : Int)) rfl rfl) <| wl_nil <| then_n ?_
 by_cases hc1 : (t0.n : Int) ≠ (t1.n : Int)
 ·rw [if_pos hc1] at h; refine cond_1 (b := (decide ((t0.n : Int) ≠ (t1.n : Int)))) rfl (decide_eq_true hc1) ?_
  refine seq_ <| region_ <| asg (.bool false) rfl <| wl_nil <| then_n <| wp_ret <| then_r ?_
  refine ret_1 rfl rfl ⟨false, rfl, h⟩
 ·rw [if_neg hc1] at h; refine cond_0 (b := (decide ((t0.n : Int) ≠ (t1.n : Int)))) rfl (decide_eq_false hc1) ?_
  refine wp_skip <| then_n <| seq_ <| seq_ <| region_ <| asg (.int .i64 0) rfl <| wl_nil <| then_n <| wp_block <| wp_lp (σ := Int) (fun s2 a => ∃ j, a = F 26 (upds j [(0, (Sl.v t0)), (1, (Sl.v t1)), (5, (.int .i64 s2))])) h (mk_upds (ae rfl (ae rfl (ae rfl ae0)))) ?_
  clear h; rintro s2 _ w n2 ⟨j, rfl⟩ h
  refine seq_ <| seq_ <| region_ <| mv (.int .i64 s2) rfl <| mv (Sl.v t0) rfl <| st_val (ex_len (s := t0) Try.underlying44 rfl) <| st_val (ex_lss (a := s2) (b := (t0.n : Int)) rfl rfl) <| wl_nil <| then_n ?_
  by_cases hc3 : s2 < (t0.n : Int)
  ·rw [if_pos hc3] at h; refine cond_1 (b := (decide (s2 < (t0.n : Int)))) rfl (decide_eq_true hc3) ?_
   refine wp_skip <| then_n <| seq_ <| wp_block <| seq_ ?_
   refine dr_begin mixed [] (listed := #[false, false, false, false, false, false, false, false, false]) rfl (n := 9) rfl h ?_; clear h; intro w4 h
   have hE : Ext w4 w4 := Ext.refl _
   refine tP 0 rfl (fun _ => hE) (fun _ => ex_move (v := (Sl.v t0)) rfl) <| tP 1 rfl (fun _ => hE) (fun _ => ex_move (v := (.int .i64 s2)) rfl) ?_
   obtain ⟨t19, ht19, h⟩ := h
   refine tP 2 rfl (fun _ => hE) (fun _ => (fun r => ex_indexAddr rfl rfl r) (ht19 _)) ?_
   obtain ⟨t20, ht20, h⟩ := h
   refine tK 3 rfl hE (fun _ hw => (fun r => ex_load rfl r) (ht20 _ hw)) <| tP 4 rfl (fun _ => hE) (fun _ => ex_move (v := (Sl.v t1)) rfl) <| tP 5 rfl (fun _ => hE) (fun _ => ex_move (v := (.int .i64 s2)) rfl) ?_
   obtain ⟨t23, ht23, h⟩ := h
   refine tP 6 rfl (fun _ => hE) (fun _ => (fun r => ex_indexAddr rfl rfl r) (ht23 _)) ?_
   obtain ⟨t24, ht24, h⟩ := h
   refine tK 7 rfl hE (fun _ hw => (fun r => ex_load rfl r) (ht24 _ hw)) <| tP 8 rfl (fun _ => hE) (fun _ => ex_neqS (a := t20) (b := t24) rfl rfl) <| dr_end (by kernel_rfl) <| then_n ?_
   by_cases hc5 : t20 ≠ t24
   ·rw [if_pos hc5] at h; refine cond_1 (b := (decide (t20 ≠ t24))) rfl (decide_eq_true hc5) ?_
    refine seq_ <| region_ <| asg (.bool false) rfl <| wl_nil <| then_n <| wp_ret <| inb_r <| then_r <| then_r <| inb_r ?_
    refine then_r ?_
    refine ret_1 rfl rfl ⟨false, rfl, h⟩
   ·rw [if_neg hc5] at h; refine cond_0 (b := (decide (t20 ≠ t24))) rfl (decide_eq_false hc5) ?_
    refine wp_skip <| inb_n <| then_n <| region_ <| mv (.int .i64 s2) rfl <| st_val (ex_add (a := s2) (b := 1) rfl rfl) <| asg (.int .i64 (IntKind.i64.wrap (s2 + 1))) rfl <| wl_nil ?_
    exact then_n ⟨(IntKind.i64.wrap (s2 + 1)), mk_upds (ae rfl (ae rfl (ae rfl ae0))), h⟩
  ·rw [if_neg hc3] at h; refine cond_0 (b := (decide (s2 < (t0.n : Int)))) rfl (decide_eq_false hc3) ?_
   refine wp_exit <| then_e <| then_e <| inb_e <| then_n <| seq_ <| region_ <| asg (.bool true) rfl <| wl_nil <| then_n ?_
   refine wp_ret ?_
   refine ret_1 rfl rfl ⟨true, rfl, h⟩

def f81 (t0 : THost) (t1 : THost) (R : (Bool) → World → Prop) (w : World) : Prop :=
 New 59 (THost.cells t0) w fun b2 w =>
 New 59 (THost.cells t1) w fun b3 w =>
 Jn (σ := Bool) (fun k1 =>
  Rn Try.prog Value.string (Instr.loadAt 9 (Ptr ((⟨b2, 0, none⟩ : Addr).add 0))) w fun t8 w =>
  Rn Try.prog Value.string (Instr.loadAt 9 (Ptr ((⟨b3, 0, none⟩ : Addr).add 0))) w fun t10 w =>
  if t8 ≠ t10 then
   k1 true w
  else
   Rn Try.prog Value.string (Instr.loadAt 9 (Ptr ((⟨b2, 0, none⟩ : Addr).add 1))) w fun t14 w =>
   Rn Try.prog Value.string (Instr.loadAt 9 (Ptr ((⟨b3, 0, none⟩ : Addr).add 1))) w fun t16 w =>
   if t14 ≠ t16 then
    k1 true w
   else
    Rn Try.prog Sl.v (Instr.loadAt 56 (Ptr ((⟨b2, 0, none⟩ : Addr).add 2))) w fun t21 w =>
    Rn Try.prog Sl.v (Instr.loadAt 56 (Ptr ((⟨b3, 0, none⟩ : Addr).add 2))) w fun t24 w =>
    if (t21.n : Int) ≠ (t24.n : Int) then
     k1 true w
    else
     Rn Try.prog Sl.v (Instr.loadAt 57 (Ptr ((⟨b2, 0, none⟩ : Addr).add 3))) w fun t30 w =>
     Rn Try.prog Sl.v (Instr.loadAt 57 (Ptr ((⟨b3, 0, none⟩ : Addr).add 3))) w fun t33 w =>
     k1 (decide ((t30.n : Int) ≠ (t33.n : Int))) w
 ) fun s1 w =>
  if s1 = true then
   R false w
  else
   Lp (σ := Int) (fun s6 w n6 =>
    Rn Try.prog Sl.v (Instr.loadAt 56 (Ptr ((⟨b2, 0, none⟩ : Addr).add 2))) w fun t39 w =>
    if s6 < (t39.n : Int) then
     Jn (σ := Bool) (fun k8 =>
      Dr w fun w9 w =>
       RnL Try.prog Sl.v (Instr.loadAt 56 (Ptr ((⟨b2, 0, none⟩ : Addr).add 2))) w9 fun t45 =>
       RnP Try.prog Ptr (Instr.indexAt 56 (Sl.v t45) (.int .i64 s6)) fun t47 =>
       RnL Try.prog Value.string (Instr.loadAt 9 (Ptr (t47.add 0))) w9 fun t49 =>
       RnL Try.prog Sl.v (Instr.loadAt 56 (Ptr ((⟨b3, 0, none⟩ : Addr).add 2))) w9 fun t51 =>
       RnP Try.prog Ptr (Instr.indexAt 56 (Sl.v t51) (.int .i64 s6)) fun t53 =>
       RnL Try.prog Value.string (Instr.loadAt 9 (Ptr (t53.add 0))) w9 fun t55 =>
       if t49 ≠ t55 then
        k8 true w
       else
        RnL Try.prog Sl.v (Instr.loadAt 56 (Ptr ((⟨b2, 0, none⟩ : Addr).add 2))) w9 fun t59 =>
        RnP Try.prog Ptr (Instr.indexAt 56 (Sl.v t59) (.int .i64 s6)) fun t61 =>
        RnL Try.prog Value.string (Instr.loadAt 9 (Ptr (t61.add 1))) w9 fun t63 =>
        RnL Try.prog Sl.v (Instr.loadAt 56 (Ptr ((⟨b3, 0, none⟩ : Addr).add 2))) w9 fun t65 =>
        RnP Try.prog Ptr (Instr.indexAt 56 (Sl.v t65) (.int .i64 s6)) fun t67 =>
        RnL Try.prog Value.string (Instr.loadAt 9 (Ptr (t67.add 1))) w9 fun t69 =>
        if t63 ≠ t69 then
         k8 true w
        else
         RnL Try.prog Sl.v (Instr.loadAt 56 (Ptr ((⟨b2, 0, none⟩ : Addr).add 2))) w9 fun t74 =>
         RnP Try.prog Ptr (Instr.indexAt 56 (Sl.v t74) (.int .i64 s6)) fun t76 =>
         RnL Try.prog Sl.v (Instr.loadAt 23 (Ptr (t76.add 2))) w9 fun t78 =>
         RnL Try.prog Sl.v (Instr.loadAt 56 (Ptr ((⟨b3, 0, none⟩ : Addr).add 2))) w9 fun t80 =>
         RnP Try.prog Ptr (Instr.indexAt 56 (Sl.v t80) (.int .i64 s6)) fun t82 =>
         RnL Try.prog Sl.v (Instr.loadAt 23 (Ptr (t82.add 2))) w9 fun t84 =>
         Cal Try.prog Value.bool 20 #[(Sl.v t78), (Sl.v t84)] w (ExtK w9 fun t85 w =>
          k8 (!t85) w
         )
     ) fun s8 w =>
      if s8 = true then
       R false w
      else
       n6 (IntKind.i64.wrap (s6 + 1)) w
    else
     Lp (σ := Int) (fun s13 w n13 =>
      Rn Try.prog Sl.v (Instr.loadAt 57 (Ptr ((⟨b2, 0, none⟩ : Addr).add 3))) w fun t90 w =>
      if s13 < (t90.n : Int) then
       Dr w fun w15 w =>
        RnL Try.prog Sl.v (Instr.loadAt 57 (Ptr ((⟨b2, 0, none⟩ : Addr).add 3))) w15 fun t96 =>
        RnP Try.prog Ptr (Instr.indexAt 57 (Sl.v t96) (.int .i64 s13)) fun t98 =>
        RnL Try.prog TPermit.v (Instr.loadAt 89 (Ptr t98)) w15 fun t99 =>
        RnL Try.prog Sl.v (Instr.loadAt 57 (Ptr ((⟨b3, 0, none⟩ : Addr).add 3))) w15 fun t101 =>
        RnP Try.prog Ptr (Instr.indexAt 57 (Sl.v t101) (.int .i64 s13)) fun t103 =>
        RnL Try.prog TPermit.v (Instr.loadAt 89 (Ptr t103)) w15 fun t104 =>
        RnP Try.prog Value.bool (do pure (Value.bool (!(← Op.equal 89 (TPermit.v t99) (TPermit.v t104))))) fun t105 =>
        if t105 = true then
         R false w
        else
         n13 (IntKind.i64.wrap (s13 + 1)) w
      else
       R true w
     ) 0 w
   ) 0 w
theorem c81 {t0 : THost} {t1 : THost} {R : (Bool) → World → Prop} {w : World} (h : f81 t0 t1 R w) :
  Cal Try.prog Value.bool 81 #[(THost.v t0), (THost.v t1)] w R := by
 unfold f81 at h
 refine calls_ Try.func81 Try.ntmps81 rfl rfl <| seq_ <| region_ ?_
 refine st_new (f := (fun b => Ptr ⟨b, 0, none⟩)) (ex_boxN rfl rfl) h ?_; clear h; intro b2 w h
 refine st_new (f := (fun b => Ptr ⟨b, 0, none⟩)) (ex_boxN rfl rfl) h ?_; clear h; intro b3 w h
 refine asg (.bool false) rfl <| wl_nil <| then_n <| seq_ ?_
 refine wp_jn (σ := Bool) (fun s1 l => ∃ j, l = upds j [(2, (Ptr (⟨b2, 0, none⟩ : Addr))), (3, (Ptr (⟨b3, 0, none⟩ : Addr))), (36, (.bool s1))]) h ?_ ?_
 ·clear h; rintro s1 _ w ⟨j, rfl⟩ h
  by_cases hc5 : s1 = true
  ·rw [if_pos hc5] at h; refine cond_1 (b := s1) rfl hc5 ?_
   refine seq_ <| region_ <| asg (.bool false) rfl <| wl_nil <| then_n <| wp_ret <| then_r ?_
   refine ret_1 rfl rfl ⟨false, rfl, h⟩
  ·rw [if_neg hc5] at h; refine cond_0 (b := s1) rfl (Bool.eq_false_iff.2 hc5) ?_
   refine wp_skip <| then_n <| seq_ <| seq_ <| region_ <| asg (.int .i64 0) rfl <| wl_nil <| then_n <| wp_block <| wp_lp (σ := Int) (fun s6 a => ∃ j, a = F 106 (upds j [(2, (Ptr (⟨b2, 0, none⟩ : Addr))), (3, (Ptr (⟨b3, 0, none⟩ : Addr))), (5, (.int .i64 s6))])) h (mk_upds (ae rfl (ae rfl (ae rfl ae0)))) ?_
   clear h; rintro s6 _ w n6 ⟨j, rfl⟩ h
   refine seq_ <| seq_ <| region_ <| mv (.int .i64 s6) rfl <| st_val (ex_fa fa59_2 (p := (⟨b2, 0, none⟩ : Addr)) rfl) ?_
   refine st_rn (fun r => ex_load rfl r) h ?_; clear h; intro t39 w h
   refine st_val (ex_len (s := t39) Try.underlying56 rfl) <| st_val (ex_lss (a := s6) (b := (t39.n : Int)) rfl rfl) <| wl_nil <| then_n ?_
   by_cases hc7 : s6 < (t39.n : Int)
   ·rw [if_pos hc7] at h; refine cond_1 (b := (decide (s6 < (t39.n : Int)))) rfl (decide_eq_true hc7) ?_
    refine wp_skip <| then_n <| seq_ <| wp_block ?_
    refine wp_jn (σ := Bool) (fun s8 l => ∃ j, l = upds j [(2, (Ptr (⟨b2, 0, none⟩ : Addr))), (3, (Ptr (⟨b3, 0, none⟩ : Addr))), (5, (.int .i64 s6)), (87, (.bool s8))]) h ?_ ?_
    ·clear h; rintro s8 _ w ⟨j, rfl⟩ h
     by_cases hc12 : s8 = true
     ·rw [if_pos hc12] at h; refine cond_1 (b := s8) rfl hc12 ?_
      refine seq_ <| region_ <| asg (.bool false) rfl <| wl_nil <| then_n <| wp_ret <| inb_r <| then_r <| then_r <| inb_r ?_
      refine then_r ?_
      refine ret_1 rfl rfl ⟨false, rfl, h⟩
     ·rw [if_neg hc12] at h; refine cond_0 (b := s8) rfl (Bool.eq_false_iff.2 hc12) ?_
      refine wp_skip <| inb_n <| then_n <| region_ <| mv (.int .i64 s6) rfl <| st_val (ex_add (a := s6) (b := 1) rfl rfl) <| asg (.int .i64 (IntKind.i64.wrap (s6 + 1))) rfl <| wl_nil ?_
      exact then_n ⟨(IntKind.i64.wrap (s6 + 1)), mk_upds (ae rfl (ae rfl (ae rfl ae0))), h⟩
    ·clear h; intro k8 h
     refine dr_begin mixed [] (listed := #[false, false, false, false, false, false, false, false, false, false, false, false, false, false, false, false, false, false, false, false, false, false, false, false, false, false, false, false, false, false, false, false, false, false, false, false, false, false, false, false, false, false, false, false]) rfl (n := 44) rfl h ?_; clear h; intro w9 h
     have hE : Ext w9 w9 := Ext.refl _
     refine tP 0 rfl (fun _ => hE) (fun _ => ex_fa fa59_2 (p := (⟨b2, 0, none⟩ : Addr)) rfl) ?_
     obtain ⟨t45, ht45, h⟩ := h
     refine tK 1 rfl hE (fun _ hw => (fun r => ex_load rfl r) (ht45 _ hw)) <| tP 2 rfl (fun _ => hE) (fun _ => ex_move (v := (.int .i64 s6)) rfl) ?_
     obtain ⟨t47, ht47, h⟩ := h
     refine tP 3 rfl (fun _ => hE) (fun _ => (fun r => ex_indexAddr rfl rfl r) (ht47 _)) <| tP 4 rfl (fun _ => hE) (fun _ => ex_fa fa61_0 (p := t47) rfl) ?_
     obtain ⟨t49, ht49, h⟩ := h
     refine tK 5 rfl hE (fun _ hw => (fun r => ex_load rfl r) (ht49 _ hw)) <| tP 6 rfl (fun _ => hE) (fun _ => ex_fa fa59_2 (p := (⟨b3, 0, none⟩ : Addr)) rfl) ?_
     obtain ⟨t51, ht51, h⟩ := h
     refine tK 7 rfl hE (fun _ hw => (fun r => ex_load rfl r) (ht51 _ hw)) <| tP 8 rfl (fun _ => hE) (fun _ => ex_move (v := (.int .i64 s6)) rfl) ?_
     obtain ⟨t53, ht53, h⟩ := h
     refine tP 9 rfl (fun _ => hE) (fun _ => (fun r => ex_indexAddr rfl rfl r) (ht53 _)) <| tP 10 rfl (fun _ => hE) (fun _ => ex_fa fa61_0 (p := t53) rfl) ?_
     obtain ⟨t55, ht55, h⟩ := h
     refine tK 11 rfl hE (fun _ hw => (fun r => ex_load rfl r) (ht55 _ hw)) <| tP 12 rfl (fun _ => hE) (fun _ => ex_neqS (a := t49) (b := t55) rfl rfl) <| tP 13 rfl (fun _ => hE) (fun _ => ex_move (v := (.bool (decide (t49 ≠ t55)))) rfl) ?_
     by_cases hc10 : t49 ≠ t55
     ·rw [if_pos hc10] at h
      refine tF 14 57 rfl (decide_eq_true hc10) rfl rfl (fun _ => hE) <| tF 15 57 rfl (decide_eq_true hc10) rfl rfl (fun _ => hE) <| tF 16 57 rfl (decide_eq_true hc10) rfl rfl (fun _ => hE) <| tF 17 57 rfl (decide_eq_true hc10) rfl rfl (fun _ => hE) <| tF 18 57 rfl (decide_eq_true hc10) rfl rfl (fun _ => hE) <| tF 19 57 rfl (decide_eq_true hc10) rfl rfl (fun _ => hE) <| tF 20 57 rfl (decide_eq_true hc10) rfl rfl (fun _ => hE) <| tF 21 57 rfl (decide_eq_true hc10) rfl rfl (fun _ => hE) <| tF 22 57 rfl (decide_eq_true hc10) rfl rfl (fun _ => hE) <| tF 23 57 rfl (decide_eq_true hc10) rfl rfl (fun _ => hE) ?_
      refine tF 24 57 rfl (decide_eq_true hc10) rfl rfl (fun _ => hE) <| tF 25 57 rfl (decide_eq_true hc10) rfl rfl (fun _ => hE) <| tF 26 57 rfl (decide_eq_true hc10) rfl rfl (fun _ => hE) <| tP 27 rfl (fun _ => hE) (fun _ => ex_pick1 (b := (decide (t49 ≠ t55))) rfl (decide_eq_true hc10) (v := (.bool true)) rfl) <| tP 28 rfl (fun _ => hE) (fun _ => ex_move (v := (.bool true)) rfl) <| tF 29 72 rfl (rfl : true = !false) rfl rfl (fun _ => hE) <| tF 30 72 rfl (rfl : true = !false) rfl rfl (fun _ => hE) <| tF 31 72 rfl (rfl : true = !false) rfl rfl (fun _ => hE) <| tF 32 72 rfl (rfl : true = !false) rfl rfl (fun _ => hE) <| tF 33 72 rfl (rfl : true = !false) rfl rfl (fun _ => hE) ?_
      refine tF 34 72 rfl (rfl : true = !false) rfl rfl (fun _ => hE) <| tF 35 72 rfl (rfl : true = !false) rfl rfl (fun _ => hE) <| tF 36 72 rfl (rfl : true = !false) rfl rfl (fun _ => hE) <| tF 37 72 rfl (rfl : true = !false) rfl rfl (fun _ => hE) <| tF 38 72 rfl (rfl : true = !false) rfl rfl (fun _ => hE) <| tF 39 72 rfl (rfl : true = !false) rfl rfl (fun _ => hE) <| tF 40 72 rfl (rfl : true = !false) rfl rfl (fun _ => hE) <| tF 41 72 rfl (rfl : true = !false) rfl rfl (fun _ => hE) <| tF 42 72 rfl (rfl : true = !false) rfl rfl (fun _ => hE) <| tP 43 rfl (fun _ => hE) (fun _ => ex_pick1 (b := true) rfl (rfl : true = true) (v := (.bool true)) rfl) ?_
      refine dr_end (by kernel_rfl) ?_
      exact then_n ⟨true, _, rfl, mk_upds' (ae rfl (ae rfl (ae rfl (ae rfl ae0)))), h⟩
     ·rw [if_neg hc10] at h
      refine tPo 14 57 rfl (decide_eq_false hc10) rfl rfl (fun _ => hE) (fun _ => ex_fa fa59_2 (p := (⟨b2, 0, none⟩ : Addr)) rfl) ?_
      obtain ⟨t59, ht59, h⟩ := h
      refine tKo 15 57 rfl (decide_eq_false hc10) rfl rfl hE (fun _ hw => (fun r => ex_load rfl r) (ht59 _ hw)) <| tPo 16 57 rfl (decide_eq_false hc10) rfl rfl (fun _ => hE) (fun _ => ex_move (v := (.int .i64 s6)) rfl) ?_
      obtain ⟨t61, ht61, h⟩ := h
      refine tPo 17 57 rfl (decide_eq_false hc10) rfl rfl (fun _ => hE) (fun _ => (fun r => ex_indexAddr rfl rfl r) (ht61 _)) <| tPo 18 57 rfl (decide_eq_false hc10) rfl rfl (fun _ => hE) (fun _ => ex_fa fa61_1 (p := t61) rfl) ?_
      obtain ⟨t63, ht63, h⟩ := h
      refine tKo 19 57 rfl (decide_eq_false hc10) rfl rfl hE (fun _ hw => (fun r => ex_load rfl r) (ht63 _ hw)) <| tPo 20 57 rfl (decide_eq_false hc10) rfl rfl (fun _ => hE) (fun _ => ex_fa fa59_2 (p := (⟨b3, 0, none⟩ : Addr)) rfl) ?_
      obtain ⟨t65, ht65, h⟩ := h
      refine tKo 21 57 rfl (decide_eq_false hc10) rfl rfl hE (fun _ hw => (fun r => ex_load rfl r) (ht65 _ hw)) <| tPo 22 57 rfl (decide_eq_false hc10) rfl rfl (fun _ => hE) (fun _ => ex_move (v := (.int .i64 s6)) rfl) ?_
      obtain ⟨t67, ht67, h⟩ := h
      refine tPo 23 57 rfl (decide_eq_false hc10) rfl rfl (fun _ => hE) (fun _ => (fun r => ex_indexAddr rfl rfl r) (ht67 _)) <| tPo 24 57 rfl (decide_eq_false hc10) rfl rfl (fun _ => hE) (fun _ => ex_fa fa61_1 (p := t67) rfl) ?_
      obtain ⟨t69, ht69, h⟩ := h
      refine tKo 25 57 rfl (decide_eq_false hc10) rfl rfl hE (fun _ hw => (fun r => ex_load rfl r) (ht69 _ hw)) <| tPo 26 57 rfl (decide_eq_false hc10) rfl rfl (fun _ => hE) (fun _ => ex_neqS (a := t63) (b := t69) rfl rfl) <| tP 27 rfl (fun _ => hE) (fun _ => ex_pick0 (b := (decide (t49 ≠ t55))) rfl (decide_eq_false hc10) (v := (.bool (decide (t63 ≠ t69)))) rfl) <| tP 28 rfl (fun _ => hE) (fun _ => ex_move (v := (.bool (decide (t63 ≠ t69)))) rfl) ?_
      by_cases hc11 : t63 ≠ t69
      ·rw [if_pos hc11] at h
       refine tF 29 72 rfl (decide_eq_true hc11) rfl rfl (fun _ => hE) <| tF 30 72 rfl (decide_eq_true hc11) rfl rfl (fun _ => hE) <| tF 31 72 rfl (decide_eq_true hc11) rfl rfl (fun _ => hE) <| tF 32 72 rfl (decide_eq_true hc11) rfl rfl (fun _ => hE) <| tF 33 72 rfl (decide_eq_true hc11) rfl rfl (fun _ => hE) <| tF 34 72 rfl (decide_eq_true hc11) rfl rfl (fun _ => hE) <| tF 35 72 rfl (decide_eq_true hc11) rfl rfl (fun _ => hE) <| tF 36 72 rfl (decide_eq_true hc11) rfl rfl (fun _ => hE) <| tF 37 72 rfl (decide_eq_true hc11) rfl rfl (fun _ => hE) <| tF 38 72 rfl (decide_eq_true hc11) rfl rfl (fun _ => hE) ?_
       refine tF 39 72 rfl (decide_eq_true hc11) rfl rfl (fun _ => hE) <| tF 40 72 rfl (decide_eq_true hc11) rfl rfl (fun _ => hE) <| tF 41 72 rfl (decide_eq_true hc11) rfl rfl (fun _ => hE) <| tF 42 72 rfl (decide_eq_true hc11) rfl rfl (fun _ => hE) <| tP 43 rfl (fun _ => hE) (fun _ => ex_pick1 (b := (decide (t63 ≠ t69))) rfl (decide_eq_true hc11) (v := (.bool true)) rfl) <| dr_end (by kernel_rfl) ?_
       exact then_n ⟨true, _, rfl, mk_upds' (ae rfl (ae rfl (ae rfl (ae rfl ae0)))), h⟩
      ·rw [if_neg hc11] at h
       refine tPo 29 72 rfl (decide_eq_false hc11) rfl rfl (fun _ => hE) (fun _ => ex_fa fa59_2 (p := (⟨b2, 0, none⟩ : Addr)) rfl) ?_
       obtain ⟨t74, ht74, h⟩ := h
       refine tKo 30 72 rfl (decide_eq_false hc11) rfl rfl hE (fun _ hw => (fun r => ex_load rfl r) (ht74 _ hw)) <| tPo 31 72 rfl (decide_eq_false hc11) rfl rfl (fun _ => hE) (fun _ => ex_move (v := (.int .i64 s6)) rfl) ?_
       obtain ⟨t76, ht76, h⟩ := h
       refine tPo 32 72 rfl (decide_eq_false hc11) rfl rfl (fun _ => hE) (fun _ => (fun r => ex_indexAddr rfl rfl r) (ht76 _)) <| tPo 33 72 rfl (decide_eq_false hc11) rfl rfl (fun _ => hE) (fun _ => ex_fa fa61_2 (p := t76) rfl) ?_
       obtain ⟨t78, ht78, h⟩ := h
       refine tKo 34 72 rfl (decide_eq_false hc11) rfl rfl hE (fun _ hw => (fun r => ex_load rfl r) (ht78 _ hw)) <| tPo 35 72 rfl (decide_eq_false hc11) rfl rfl (fun _ => hE) (fun _ => ex_fa fa59_2 (p := (⟨b3, 0, none⟩ : Addr)) rfl) ?_
       obtain ⟨t80, ht80, h⟩ := h
       refine tKo 36 72 rfl (decide_eq_false hc11) rfl rfl hE (fun _ hw => (fun r => ex_load rfl r) (ht80 _ hw)) <| tPo 37 72 rfl (decide_eq_false hc11) rfl rfl (fun _ => hE) (fun _ => ex_move (v := (.int .i64 s6)) rfl) ?_
       obtain ⟨t82, ht82, h⟩ := h
       refine tPo 38 72 rfl (decide_eq_false hc11) rfl rfl (fun _ => hE) (fun _ => (fun r => ex_indexAddr rfl rfl r) (ht82 _)) <| tPo 39 72 rfl (decide_eq_false hc11) rfl rfl (fun _ => hE) (fun _ => ex_fa fa61_2 (p := t82) rfl) ?_
       obtain ⟨t84, ht84, h⟩ := h
       refine tKo 40 72 rfl (decide_eq_false hc11) rfl rfl hE (fun _ hw => (fun r => ex_load rfl r) (ht84 _ hw)) <| dr_only_on (i := 41) (t := 72) (c := (decide (t63 ≠ t69))) (by kernel_rfl) rfl rfl rfl (decide_eq_false hc11) ?_
       refine o_cal en20 rfl h ?_; clear h; intro t85 w h; obtain ⟨hx, h⟩ := h; clear hE; have hE := hx; clear hx; refine ⟨fun _ => hE, ?_⟩
       refine tPo 42 72 rfl (decide_eq_false hc11) rfl rfl (fun _ => hE) (fun _ => ex_not (b := t85) rfl) <| tP 43 rfl (fun _ => hE) (fun _ => ex_pick0 (b := (decide (t63 ≠ t69))) rfl (decide_eq_false hc11) (v := (.bool (!t85))) rfl) <| dr_end (by kernel_rfl) ?_
       exact then_n ⟨(!t85), _, rfl, mk_upds' (ae rfl (ae rfl (ae rfl (ae rfl ae0)))), h⟩
   ·rw [if_neg hc7] at h; refine cond_0 (b := (decide (s6 < (t39.n : Int)))) rfl (decide_eq_false hc7) ?_
    refine wp_exit <| then_e <| then_e <| inb_e <| then_n <| seq_ <| seq_ <| region_ <| asg (.int .i64 0) rfl <| wl_nil ?_
    refine then_n <| wp_block <| wp_lp (σ := Int) (fun s13 a => ∃ j, a = F 106 (upds j [(2, (Ptr (⟨b2, 0, none⟩ : Addr))), (3, (Ptr (⟨b3, 0, none⟩ : Addr))), (6, (.int .i64 s13))])) h (mk_upds (ae rfl (ae rfl (ae rfl ae0)))) ?_
    clear h; rintro s13 _ w n13 ⟨j, rfl⟩ h
    refine seq_ <| seq_ <| region_ <| mv (.int .i64 s13) rfl <| st_val (ex_fa fa59_3 (p := (⟨b2, 0, none⟩ : Addr)) rfl) ?_
    refine st_rn (fun r => ex_load rfl r) h ?_; clear h; intro t90 w h
    refine st_val (ex_len (s := t90) Try.underlying57 rfl) <| st_val (ex_lss (a := s13) (b := (t90.n : Int)) rfl rfl) <| wl_nil <| then_n ?_
    by_cases hc14 : s13 < (t90.n : Int)
    ·rw [if_pos hc14] at h; refine cond_1 (b := (decide (s13 < (t90.n : Int)))) rfl (decide_eq_true hc14) ?_
     refine wp_skip <| then_n <| seq_ <| wp_block <| seq_ ?_
     refine dr_begin mixed [] (listed := #[false, false, false, false, false, false, false, false, false, false, false]) rfl (n := 11) rfl h ?_; clear h; intro w15 h
     have hE : Ext w15 w15 := Ext.refl _
     refine tP 0 rfl (fun _ => hE) (fun _ => ex_fa fa59_3 (p := (⟨b2, 0, none⟩ : Addr)) rfl) ?_
     obtain ⟨t96, ht96, h⟩ := h
     refine tK 1 rfl hE (fun _ hw => (fun r => ex_load rfl r) (ht96 _ hw)) <| tP 2 rfl (fun _ => hE) (fun _ => ex_move (v := (.int .i64 s13)) rfl) ?_
     obtain ⟨t98, ht98, h⟩ := h
     refine tP 3 rfl (fun _ => hE) (fun _ => (fun r => ex_indexAddr rfl rfl r) (ht98 _)) ?_
     obtain ⟨t99, ht99, h⟩ := h
     refine tK 4 rfl hE (fun _ hw => (fun r => ex_load rfl r) (ht99 _ hw)) <| tP 5 rfl (fun _ => hE) (fun _ => ex_fa fa59_3 (p := (⟨b3, 0, none⟩ : Addr)) rfl) ?_
     obtain ⟨t101, ht101, h⟩ := h
     refine tK 6 rfl hE (fun _ hw => (fun r => ex_load rfl r) (ht101 _ hw)) <| tP 7 rfl (fun _ => hE) (fun _ => ex_move (v := (.int .i64 s13)) rfl) ?_
     obtain ⟨t103, ht103, h⟩ := h
     refine tP 8 rfl (fun _ => hE) (fun _ => (fun r => ex_indexAddr rfl rfl r) (ht103 _)) ?_
     obtain ⟨t104, ht104, h⟩ := h
     refine tK 9 rfl hE (fun _ hw => (fun r => ex_load rfl r) (ht104 _ hw)) ?_
     obtain ⟨t105, ht105, h⟩ := h
     refine tP 10 rfl (fun _ => hE) (fun _ => (fun r => ex_neqA eqg89 rfl rfl r) (ht105 _)) <| dr_end (by kernel_rfl) <| then_n ?_
     by_cases hc16 : t105 = true
     ·rw [if_pos hc16] at h; refine cond_1 (b := t105) rfl hc16 ?_
      refine seq_ <| region_ <| asg (.bool false) rfl <| wl_nil <| then_n <| wp_ret <| inb_r <| then_r <| then_r <| inb_r ?_
      refine then_r ?_
      refine ret_1 rfl rfl ⟨false, rfl, h⟩
     ·rw [if_neg hc16] at h; refine cond_0 (b := t105) rfl (Bool.eq_false_iff.2 hc16) ?_
      refine wp_skip <| inb_n <| then_n <| region_ <| mv (.int .i64 s13) rfl <| st_val (ex_add (a := s13) (b := 1) rfl rfl) <| asg (.int .i64 (IntKind.i64.wrap (s13 + 1))) rfl <| wl_nil ?_
      exact then_n ⟨(IntKind.i64.wrap (s13 + 1)), mk_upds (ae rfl (ae rfl (ae rfl ae0))), h⟩
    ·rw [if_neg hc14] at h; refine cond_0 (b := (decide (s13 < (t90.n : Int)))) rfl (decide_eq_false hc14) ?_
     refine wp_exit <| then_e <| then_e <| inb_e <| then_n <| seq_ <| region_ <| asg (.bool true) rfl <| wl_nil <| then_n ?_
     refine wp_ret ?_
     refine ret_1 rfl rfl ⟨true, rfl, h⟩
 ·clear h; intro k1 h
  refine region_ <| st_val (ex_fa fa59_0 (p := (⟨b2, 0, none⟩ : Addr)) rfl) ?_
  refine st_rn (fun r => ex_load rfl r) h ?_; clear h; intro t8 w h
  refine st_val (ex_fa fa59_0 (p := (⟨b3, 0, none⟩ : Addr)) rfl) ?_
  refine st_rn (fun r => ex_load rfl r) h ?_; clear h; intro t10 w h
  refine st_val (ex_neqS (a := t8) (b := t10) rfl rfl) <| mv (.bool (decide (t8 ≠ t10))) rfl ?_
  by_cases hc2 : t8 ≠ t10
  ·rw [if_pos hc2] at h
   refine sOff 12 (decide_eq_true hc2) rfl rfl <| sOff 12 (decide_eq_true hc2) rfl rfl <| sOff 12 (decide_eq_true hc2) rfl rfl <| sOff 12 (decide_eq_true hc2) rfl rfl <| sOff 12 (decide_eq_true hc2) rfl rfl <| st_val (ex_pick1 (b := (decide (t8 ≠ t10))) rfl (decide_eq_true hc2) (v := (.bool true)) rfl) <| mv (.bool true) rfl <| sOff 19 (rfl : true = !false) rfl rfl <| sOff 19 (rfl : true = !false) rfl rfl <| sOff 19 (rfl : true = !false) rfl rfl ?_
   refine sOff 19 (rfl : true = !false) rfl rfl <| sOff 19 (rfl : true = !false) rfl rfl <| sOff 19 (rfl : true = !false) rfl rfl <| sOff 19 (rfl : true = !false) rfl rfl <| st_val (ex_pick1 (b := true) rfl (rfl : true = true) (v := (.bool true)) rfl) <| mv (.bool true) rfl <| sOff 28 (rfl : true = !false) rfl rfl <| sOff 28 (rfl : true = !false) rfl rfl <| sOff 28 (rfl : true = !false) rfl rfl <| sOff 28 (rfl : true = !false) rfl rfl ?_
   refine sOff 28 (rfl : true = !false) rfl rfl <| sOff 28 (rfl : true = !false) rfl rfl <| sOff 28 (rfl : true = !false) rfl rfl <| st_val (ex_pick1 (b := true) rfl (rfl : true = true) (v := (.bool true)) rfl) <| wl_nil ?_
   exact then_n ⟨true, _, rfl, mk_upds' (ae rfl (ae rfl (ae rfl ae0))), h⟩
  ·rw [if_neg hc2] at h
   refine sOn 12 (decide_eq_false hc2) rfl rfl <| st_val (ex_fa fa59_1 (p := (⟨b2, 0, none⟩ : Addr)) rfl) <| sOn 12 (decide_eq_false hc2) rfl rfl ?_
   refine st_rn (fun r => ex_load rfl r) h ?_; clear h; intro t14 w h
   refine sOn 12 (decide_eq_false hc2) rfl rfl <| st_val (ex_fa fa59_1 (p := (⟨b3, 0, none⟩ : Addr)) rfl) <| sOn 12 (decide_eq_false hc2) rfl rfl ?_
   refine st_rn (fun r => ex_load rfl r) h ?_; clear h; intro t16 w h
   refine sOn 12 (decide_eq_false hc2) rfl rfl <| st_val (ex_neqS (a := t14) (b := t16) rfl rfl) <| st_val (ex_pick0 (b := (decide (t8 ≠ t10))) rfl (decide_eq_false hc2) (v := (.bool (decide (t14 ≠ t16)))) rfl) <| mv (.bool (decide (t14 ≠ t16))) rfl ?_
   by_cases hc3 : t14 ≠ t16
   ·rw [if_pos hc3] at h
    refine sOff 19 (decide_eq_true hc3) rfl rfl <| sOff 19 (decide_eq_true hc3) rfl rfl <| sOff 19 (decide_eq_true hc3) rfl rfl <| sOff 19 (decide_eq_true hc3) rfl rfl <| sOff 19 (decide_eq_true hc3) rfl rfl <| sOff 19 (decide_eq_true hc3) rfl rfl <| sOff 19 (decide_eq_true hc3) rfl rfl <| st_val (ex_pick1 (b := (decide (t14 ≠ t16))) rfl (decide_eq_true hc3) (v := (.bool true)) rfl) <| mv (.bool true) rfl <| sOff 28 (rfl : true = !false) rfl rfl ?_
    refine sOff 28 (rfl : true = !false) rfl rfl <| sOff 28 (rfl : true = !false) rfl rfl <| sOff 28 (rfl : true = !false) rfl rfl <| sOff 28 (rfl : true = !false) rfl rfl <| sOff 28 (rfl : true = !false) rfl rfl <| sOff 28 (rfl : true = !false) rfl rfl <| st_val (ex_pick1 (b := true) rfl (rfl : true = true) (v := (.bool true)) rfl) <| wl_nil ?_
    exact then_n ⟨true, _, rfl, mk_upds' (ae rfl (ae rfl (ae rfl ae0))), h⟩
   ·rw [if_neg hc3] at h
    refine sOn 19 (decide_eq_false hc3) rfl rfl <| st_val (ex_fa fa59_2 (p := (⟨b2, 0, none⟩ : Addr)) rfl) <| sOn 19 (decide_eq_false hc3) rfl rfl ?_
    refine st_rn (fun r => ex_load rfl r) h ?_; clear h; intro t21 w h
    refine sOn 19 (decide_eq_false hc3) rfl rfl <| st_val (ex_len (s := t21) Try.underlying56 rfl) <| sOn 19 (decide_eq_false hc3) rfl rfl <| st_val (ex_fa fa59_2 (p := (⟨b3, 0, none⟩ : Addr)) rfl) <| sOn 19 (decide_eq_false hc3) rfl rfl ?_
    refine st_rn (fun r => ex_load rfl r) h ?_; clear h; intro t24 w h
    refine sOn 19 (decide_eq_false hc3) rfl rfl <| st_val (ex_len (s := t24) Try.underlying56 rfl) <| sOn 19 (decide_eq_false hc3) rfl rfl <| st_val (ex_neq (a := (t21.n : Int)) (b := (t24.n : Int)) rfl rfl) <| st_val (ex_pick0 (b := (decide (t14 ≠ t16))) rfl (decide_eq_false hc3) (v := (.bool (decide ((t21.n : Int) ≠ (t24.n : Int))))) rfl) <| mv (.bool (decide ((t21.n : Int) ≠ (t24.n : Int)))) rfl ?_
    by_cases hc4 : (t21.n : Int) ≠ (t24.n : Int)
    ·rw [if_pos hc4] at h
     refine sOff 28 (decide_eq_true hc4) rfl rfl <| sOff 28 (decide_eq_true hc4) rfl rfl <| sOff 28 (decide_eq_true hc4) rfl rfl <| sOff 28 (decide_eq_true hc4) rfl rfl <| sOff 28 (decide_eq_true hc4) rfl rfl <| sOff 28 (decide_eq_true hc4) rfl rfl <| sOff 28 (decide_eq_true hc4) rfl rfl <| st_val (ex_pick1 (b := (decide ((t21.n : Int) ≠ (t24.n : Int)))) rfl (decide_eq_true hc4) (v := (.bool true)) rfl) <| wl_nil ?_
     exact then_n ⟨true, _, rfl, mk_upds' (ae rfl (ae rfl (ae rfl ae0))), h⟩
    ·rw [if_neg hc4] at h
     refine sOn 28 (decide_eq_false hc4) rfl rfl <| st_val (ex_fa fa59_3 (p := (⟨b2, 0, none⟩ : Addr)) rfl) <| sOn 28 (decide_eq_false hc4) rfl rfl ?_
     refine st_rn (fun r => ex_load rfl r) h ?_; clear h; intro t30 w h
     refine sOn 28 (decide_eq_false hc4) rfl rfl <| st_val (ex_len (s := t30) Try.underlying57 rfl) <| sOn 28 (decide_eq_false hc4) rfl rfl <| st_val (ex_fa fa59_3 (p := (⟨b3, 0, none⟩ : Addr)) rfl) <| sOn 28 (decide_eq_false hc4) rfl rfl ?_
     refine st_rn (fun r => ex_load rfl r) h ?_; clear h; intro t33 w h
     refine sOn 28 (decide_eq_false hc4) rfl rfl <| st_val (ex_len (s := t33) Try.underlying57 rfl) <| sOn 28 (decide_eq_false hc4) rfl rfl <| st_val (ex_neq (a := (t30.n : Int)) (b := (t33.n : Int)) rfl rfl) <| st_val (ex_pick0 (b := (decide ((t21.n : Int) ≠ (t24.n : Int)))) rfl (decide_eq_false hc4) (v := (.bool (decide ((t30.n : Int) ≠ (t33.n : Int))))) rfl) <| wl_nil ?_
     exact then_n ⟨(decide ((t30.n : Int) ≠ (t33.n : Int))), _, rfl, mk_upds' (ae rfl (ae rfl (ae rfl ae0))), h⟩

def f82 (t0 : Sl) (R : (Sl) → World → Prop) (w : World) : Prop :=
 if (t0.a.isNone) = true then
  R Sl.nil w
 else
  New 9 [] w fun b5 w =>
  Rn Try.prog Sl.v (Builtin.append_ #[44, 44] 44 #[(Sl.v (⟨some ⟨b5, 0, none⟩, 0, 0⟩ : Sl)), (Sl.v t0)]) w fun t7 w =>
  R t7 w
theorem c82 {t0 : Sl} {R : (Sl) → World → Prop} {w : World} (h : f82 t0 R w) :
  Cal Try.prog Sl.v 82 #[(Sl.v t0)] w R := by
 unfold f82 at h
 refine calls_ Try.func82 Try.ntmps82 rfl rfl <| seq_ <| region_ <| asg (Sl.v Sl.nil) rfl <| wl_nil <| then_n <| seq_ <| seq_ <| region_ <| mv (Sl.v t0) rfl ?_
 refine st_val (ex_eqlSlNil (s := t0) (n := 0) (c := 0) Try.underlying44 rfl rfl) <| wl_nil <| then_n ?_
 by_cases hc1 : (t0.a.isNone) = true
 ·rw [if_pos hc1] at h; refine cond_1 (b := (t0.a.isNone)) rfl hc1 ?_
  refine seq_ <| region_ <| asg (Sl.v Sl.nil) rfl <| wl_nil <| then_n <| wp_ret <| then_r ?_
  refine ret_1 rfl rfl ⟨Sl.nil, rfl, h⟩
 ·rw [if_neg hc1] at h; refine cond_0 (b := (t0.a.isNone)) rfl (Bool.eq_false_iff.2 hc1) ?_
  refine wp_skip <| then_n <| seq_ <| region_ ?_
  refine st_new (f := (fun b => Sl.v ⟨some ⟨b, 0, none⟩, 0, 0⟩)) (ex_buildSlice (a' := []) rfl (e_buildSlice0 Try.underlying44 info9 _)) h ?_; clear h; intro b5 w h
  refine mv (Sl.v t0) rfl ?_
  refine st_rn (fun r => ex_builtin rfl (fun _ => rfl) r) h ?_; clear h; intro t7 w h
  refine asg (Sl.v t7) rfl <| wl_nil <| then_n <| wp_ret ?_
  refine ret_1 rfl rfl ⟨t7, rfl, h⟩

def f83 (t0 : Sl) (R : (Sl) → World → Prop) (w : World) : Prop :=
 if (t0.a.isNone) = true then
  R Sl.nil w
 else
  New 59 [] w fun b5 w =>
  Rn Try.prog Sl.v (Builtin.append_ #[51, 51] 51 #[(Sl.v (⟨some ⟨b5, 0, none⟩, 0, 0⟩ : Sl)), (Sl.v t0)]) w fun t7 w =>
  R t7 w
theorem c83 {t0 : Sl} {R : (Sl) → World → Prop} {w : World} (h : f83 t0 R w) :
  Cal Try.prog Sl.v 83 #[(Sl.v t0)] w R := by
 unfold f83 at h
 refine calls_ Try.func83 Try.ntmps83 rfl rfl <| seq_ <| region_ <| asg (Sl.v Sl.nil) rfl <| wl_nil <| then_n <| seq_ <| seq_ <| region_ <| mv (Sl.v t0) rfl ?_
 refine st_val (ex_eqlSlNil (s := t0) (n := 0) (c := 0) Try.underlying51 rfl rfl) <| wl_nil <| then_n ?_
 by_cases hc1 : (t0.a.isNone) = true
 ·rw [if_pos hc1] at h; refine cond_1 (b := (t0.a.isNone)) rfl hc1 ?_
  refine seq_ <| region_ <| asg (Sl.v Sl.nil) rfl <| wl_nil <| then_n <| wp_ret <| then_r ?_
  refine ret_1 rfl rfl ⟨Sl.nil, rfl, h⟩
 ·rw [if_neg hc1] at h; refine cond_0 (b := (t0.a.isNone)) rfl (Bool.eq_false_iff.2 hc1) ?_
  refine wp_skip <| then_n <| seq_ <| region_ ?_
  refine st_new (f := (fun b => Sl.v ⟨some ⟨b, 0, none⟩, 0, 0⟩)) (ex_buildSlice (a' := []) rfl (e_buildSlice0 Try.underlying51 info59 _)) h ?_; clear h; intro b5 w h
  refine mv (Sl.v t0) rfl ?_
  refine st_rn (fun r => ex_builtin rfl (fun _ => rfl) r) h ?_; clear h; intro t7 w h
  refine asg (Sl.v t7) rfl <| wl_nil <| then_n <| wp_ret ?_
  refine ret_1 rfl rfl ⟨t7, rfl, h⟩

def f84 (t0 : Sl) (R : (Sl) → World → Prop) (w : World) : Prop :=
 if (t0.a.isNone) = true then
  R Sl.nil w
 else
  New 89 [] w fun b5 w =>
  Rn Try.prog Sl.v (Builtin.append_ #[57, 57] 57 #[(Sl.v (⟨some ⟨b5, 0, none⟩, 0, 0⟩ : Sl)), (Sl.v t0)]) w fun t7 w =>
  R t7 w
theorem c84 {t0 : Sl} {R : (Sl) → World → Prop} {w : World} (h : f84 t0 R w) :
  Cal Try.prog Sl.v 84 #[(Sl.v t0)] w R := by
 unfold f84 at h
 refine calls_ Try.func84 Try.ntmps84 rfl rfl <| seq_ <| region_ <| asg (Sl.v Sl.nil) rfl <| wl_nil <| then_n <| seq_ <| seq_ <| region_ <| mv (Sl.v t0) rfl ?_
 refine st_val (ex_eqlSlNil (s := t0) (n := 0) (c := 0) Try.underlying57 rfl rfl) <| wl_nil <| then_n ?_
 by_cases hc1 : (t0.a.isNone) = true
 ·rw [if_pos hc1] at h; refine cond_1 (b := (t0.a.isNone)) rfl hc1 ?_
  refine seq_ <| region_ <| asg (Sl.v Sl.nil) rfl <| wl_nil <| then_n <| wp_ret <| then_r ?_
  refine ret_1 rfl rfl ⟨Sl.nil, rfl, h⟩
 ·rw [if_neg hc1] at h; refine cond_0 (b := (t0.a.isNone)) rfl (Bool.eq_false_iff.2 hc1) ?_
  refine wp_skip <| then_n <| seq_ <| region_ ?_
  refine st_new (f := (fun b => Sl.v ⟨some ⟨b, 0, none⟩, 0, 0⟩)) (ex_buildSlice (a' := []) rfl (e_buildSlice0 Try.underlying57 info89 _)) h ?_; clear h; intro b5 w h
  refine mv (Sl.v t0) rfl ?_
  refine st_rn (fun r => ex_builtin rfl (fun _ => rfl) r) h ?_; clear h; intro t7 w h
  refine asg (Sl.v t7) rfl <| wl_nil <| then_n <| wp_ret ?_
  refine ret_1 rfl rfl ⟨t7, rfl, h⟩

def f85 (t0 : Sl) (R : (Sl) → World → Prop) (w : World) : Prop :=
 if (t0.a.isNone) = true then
  R Sl.nil w
 else
  New 61 [] w fun b5 w =>
  Rn Try.prog Sl.v (Builtin.append_ #[56, 56] 56 #[(Sl.v (⟨some ⟨b5, 0, none⟩, 0, 0⟩ : Sl)), (Sl.v t0)]) w fun t7 w =>
  R t7 w
theorem c85 {t0 : Sl} {R : (Sl) → World → Prop} {w : World} (h : f85 t0 R w) :
  Cal Try.prog Sl.v 85 #[(Sl.v t0)] w R := by
 unfold f85 at h
 refine calls_ Try.func85 Try.ntmps85 rfl rfl <| seq_ <| region_ <| asg (Sl.v Sl.nil) rfl <| wl_nil <| then_n <| seq_ <| seq_ <| region_ <| mv (Sl.v t0) rfl ?_
 refine st_val (ex_eqlSlNil (s := t0) (n := 0) (c := 0) Try.underlying56 rfl rfl) <| wl_nil <| then_n ?_
 by_cases hc1 : (t0.a.isNone) = true
 ·rw [if_pos hc1] at h; refine cond_1 (b := (t0.a.isNone)) rfl hc1 ?_
  refine seq_ <| region_ <| asg (Sl.v Sl.nil) rfl <| wl_nil <| then_n <| wp_ret <| then_r ?_
  refine ret_1 rfl rfl ⟨Sl.nil, rfl, h⟩
 ·rw [if_neg hc1] at h; refine cond_0 (b := (t0.a.isNone)) rfl (Bool.eq_false_iff.2 hc1) ?_
  refine wp_skip <| then_n <| seq_ <| region_ ?_
  refine st_new (f := (fun b => Sl.v ⟨some ⟨b, 0, none⟩, 0, 0⟩)) (ex_buildSlice (a' := []) rfl (e_buildSlice0 Try.underlying56 info61 _)) h ?_; clear h; intro b5 w h
  refine mv (Sl.v t0) rfl ?_
  refine st_rn (fun r => ex_builtin rfl (fun _ => rfl) r) h ?_; clear h; intro t7 w h
  refine asg (Sl.v t7) rfl <| wl_nil <| then_n <| wp_ret ?_
  refine ret_1 rfl rfl ⟨t7, rfl, h⟩

def f86 (t0 : ByteArray) (R : (Int × ByteArray) → World → Prop) (w : World) : Prop :=
 Jn (σ := Int × ByteArray) (fun k1 =>
  if t0 = (⟨#[42]⟩ : ByteArray) then
   R (2, (⟨#[]⟩ : ByteArray)) w
  else
   Cal Try.prog Value.bool 116 #[(.string t0), (.string (⟨#[42, 46]⟩ : ByteArray))] w fun t14 w =>
   if t14 = true then
    Dr w fun w4 w =>
     RnP Try.prog Value.string (Instr.sliceAt 9 (.string t0) (some (.int .i64 2)) none none) fun t16 =>
     k1 (1, t16) w
   else
    k1 (0, t0) w
 ) fun s1 w =>
  Cal Try.prog (fun x : ByteArray × Bool => Value.tuple #[(.string x.1), (.bool x.2)]) 117 #[(.string s1.2)] w fun t19 w =>
  if t19.2 = true then
   R (s1.1, t19.1) w
  else
   R (3, t0) w
theorem c86 {t0 : ByteArray} {R : (Int × ByteArray) → World → Prop} {w : World} (h : f86 t0 R w) :
  Cal Try.prog (fun x : Int × ByteArray => Value.tuple #[(.int .i64 x.1), (.string x.2)]) 86 #[(.string t0)] w R := by
 unfold f86 at h
 refine calls_ Try.func86 Try.ntmps86 rfl rfl <| seq_ <| region_ <| asg (.int .i64 0) rfl <| asg (.string (⟨#[]⟩ : ByteArray)) rfl <| wl_nil <| then_n <| seq_ <| region_ <| mv (.string t0) rfl ?_
 refine asg (.int .i64 0) rfl <| asg (.string t0) rfl <| wl_nil <| then_n <| seq_ <| wp_block ?_
 refine wp_jn (σ := Int × ByteArray) (fun s1 l => ∃ j, l = upds j [(0, (.string t0)), (4, (.int .i64 s1.1)), (5, (.string s1.2))]) h ?_ ?_
 ·clear h; rintro s1 _ w ⟨j, rfl⟩ h
  refine seq_ <| seq_ <| region_ <| mv (.string s1.2) rfl ?_
  refine st_cal en117 rfl h ?_; clear h; intro t19 w h
  refine mv (.tuple #[(.string t19.1), (.bool t19.2)]) rfl <| st_val (ex_extract (u := (.tuple #[(.string t19.1), (.bool t19.2)])) rfl (v := (.string t19.1)) rfl) <| st_val (ex_extract (u := (.tuple #[(.string t19.1), (.bool t19.2)])) rfl (v := (.bool t19.2)) rfl) <| asg (.string t19.1) rfl <| asg (.bool t19.2) rfl <| wl_nil <| then_n <| seq_ <| region_ <| mv (.bool t19.2) rfl ?_
  refine wl_nil <| then_n ?_
  by_cases hc5 : t19.2 = true
  ·rw [if_pos hc5] at h; refine cond_1 (b := t19.2) rfl hc5 ?_
   refine seq_ <| region_ <| mv (.int .i64 s1.1) rfl <| mv (.string t19.1) rfl <| asg (.int .i64 s1.1) rfl <| asg (.string t19.1) rfl <| wl_nil <| then_n <| wp_ret <| then_r ?_
   refine inb_r <| then_r ?_
   refine ret_2 rfl rfl rfl ⟨(s1.1, t19.1), rfl, h⟩
  ·rw [if_neg hc5] at h; refine cond_0 (b := t19.2) rfl (Bool.eq_false_iff.2 hc5) ?_
   refine wp_skip <| then_n <| wp_exit <| inb_e <| then_n <| seq_ <| region_ <| mv (.string t0) rfl <| asg (.int .i64 3) rfl <| asg (.string t0) rfl ?_
   refine wl_nil <| then_n <| wp_ret ?_
   refine ret_2 rfl rfl rfl ⟨(3, t0), rfl, h⟩
 ·clear h; intro k1 h
  refine wp_block <| seq_ <| wp_block <| seq_ <| wp_block <| seq_ <| seq_ <| seq_ <| region_ <| mv (.string t0) rfl ?_
  refine st_val (ex_eqlS (a := t0) (b := (⟨#[42]⟩ : ByteArray)) rfl rfl) <| asg (.bool (decide (t0 = (⟨#[42]⟩ : ByteArray)))) rfl <| wl_nil <| then_n ?_
  by_cases hc2 : t0 = (⟨#[42]⟩ : ByteArray)
  ·rw [if_pos hc2] at h; refine cond_1 (b := (decide (t0 = (⟨#[42]⟩ : ByteArray)))) rfl (decide_eq_true hc2) ?_
   refine wp_exit <| then_e <| then_e <| inb_e <| then_n <| seq_ <| seq_ <| region_ <| asg (.int .i64 2) rfl <| asg (.string (⟨#[]⟩ : ByteArray)) rfl ?_
   refine wl_nil <| then_n <| wp_ret <| then_r <| inb_r <| then_r <| inb_r <| then_r <| inb_r <| then_r ?_
   refine ret_2 rfl rfl rfl ⟨(2, (⟨#[]⟩ : ByteArray)), rfl, h⟩
  ·rw [if_neg hc2] at h; refine cond_0 (b := (decide (t0 = (⟨#[42]⟩ : ByteArray)))) rfl (decide_eq_false hc2) ?_
   refine wp_skip <| then_n <| seq_ <| region_ <| mv (.string t0) rfl ?_
   refine st_cal en116 rfl h ?_; clear h; intro t14 w h
   refine asg (.bool t14) rfl <| wl_nil <| then_n ?_
   by_cases hc3 : t14 = true
   ·rw [if_pos hc3] at h; refine cond_1 (b := t14) rfl hc3 ?_
    refine wp_exit <| then_e <| inb_o rfl <| then_e <| inb_e <| then_n ?_
    refine dr_begin mixed [] (listed := #[false, false, false, false]) rfl (n := 4) rfl h ?_; clear h; intro w4 h
    have hE : Ext w4 w4 := Ext.refl _
    refine tP 0 rfl (fun _ => hE) (fun _ => ex_move (v := (.string t0)) rfl) ?_
    obtain ⟨t16, ht16, h⟩ := h
    refine tP 1 rfl (fun _ => hE) (fun _ => (fun r => ex_slice rfl rfl rfl rfl r) (ht16 _)) <| tP 2 rfl (fun _ => hE) (fun _ => ex_assign (v := (.int .i64 1)) rfl) <| tP 3 rfl (fun _ => hE) (fun _ => ex_assign (v := (.string t16)) rfl) <| dr_end (by kernel_rfl) <| inb_n ?_
    exact then_n ⟨(1, t16), _, rfl, mk_upds' (ae rfl (ae rfl (ae rfl ae0))), h⟩
   ·rw [if_neg hc3] at h; refine cond_0 (b := t14) rfl (Bool.eq_false_iff.2 hc3) ?_
    refine wp_skip <| then_n <| wp_exit <| inb_o rfl <| then_e <| inb_o rfl <| then_e <| inb_e ?_
    exact then_n ⟨(0, t0), _, rfl, mk_upds' (ae rfl (ae rfl (ae rfl ae0))), h⟩

end Go.Proofs.Ytdoeegfcmbcbkaa.Tr


