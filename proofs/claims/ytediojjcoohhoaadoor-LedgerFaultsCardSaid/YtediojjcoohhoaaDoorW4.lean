/- Walks of the program's functions, printed by a program. No condition beyond each theorem's own. -/
import Derived.Test.YtediojjcoohhoaaDoorChecked
import Derived.Test.YtediojjcoohhoaaDoorDat
import Derived.Test.YtediojjcoohhoaaDoorShelf
import Derived.Test.YtediojjcoohhoaaDoorW1
import Derived.Test.YtediojjcoohhoaaDoorW2
import Derived.KernelRfl
namespace Go.Proofs.YtediojjcoohhoaaDoor
open Go Go.RowKit Go.Eng
set_option linter.unusedVariables false
set_option linter.unnecessarySimpa false
set_option maxHeartbeats 4000000
set_option maxRecDepth 100000
theorem ag37 : isAg Tryd.prog 37 = some true := by kernel_rfl
theorem elem9 : elemOk Tryd.prog 9 1 16 = true := by kernel_rfl
theorem off36_0 : fOff Tryd.prog 36 0 = some 0 := by kernel_rfl
theorem off36_1 : fOff Tryd.prog 36 1 = some 1 := by kernel_rfl
theorem off37_0 : fOff Tryd.prog 37 0 = some 0 := by kernel_rfl
theorem off37_1 : fOff Tryd.prog 37 1 = some 1 := by kernel_rfl
theorem off40_0 : fOff Tryd.prog 40 0 = some 0 := by kernel_rfl
theorem off40_1 : fOff Tryd.prog 40 1 = some 2 := by kernel_rfl
theorem off40_2 : fOff Tryd.prog 40 2 = some 3 := by kernel_rfl
theorem off84_0 : fOff Tryd.prog 84 0 = some 0 := by kernel_rfl
theorem ok34 : okF Tryd.prog 34 = some (false, false) := by kernel_rfl
theorem ok61 : okF Tryd.prog 61 = some (false, false) := by kernel_rfl
theorem ok62 : okF Tryd.prog 62 = some (false, false) := by kernel_rfl
theorem ok64 : okF Tryd.prog 64 = some (false, false) := by kernel_rfl
theorem und159 : Tryd.prog.underlying 159 = some (.slice 9) := by kernel_rfl
theorem und167 : Tryd.prog.underlying 167 = some (.slice 37) := by kernel_rfl
theorem und25 : Tryd.prog.underlying 25 = some (.int .u16) := by kernel_rfl
theorem und28 : Tryd.prog.underlying 28 = some (.int .u32) := by kernel_rfl
theorem und3 : Tryd.prog.underlying 3 = some (.int .i64) := by kernel_rfl
theorem und5 : Tryd.prog.underlying 5 = some (.int .u8) := by kernel_rfl
theorem zero37 : zeroC Tryd.prog 37 = some #[.int .u8 0, .int .u8 0] := by kernel_rfl
theorem name_spec (d : ID) {G : GS} {w : World} {F : List Chunk} (h_d : d.ok) (ht : GTab G) (h : Holds G w F) :
    Calls Tryd.prog 27 #[.agg #[.int .u8 d.client.node, .int .u16 d.client.life, .int .u32 d.seq, .int .u8 d.depth, .int .u8 d.p0.group, .int .u8 d.p0.index, .int .u8 d.p1.group, .int .u8 d.p1.index, .int .u8 d.p2.group, .int .u8 d.p2.index]] w (Ret G F fun G v => v = S (idText d)) := by
  obtain ⟨⟨⟨hi1, hi2⟩, hi3, hi4⟩, ⟨hi5, hi6⟩, ⟨hi7, hi8⟩, ⟨⟨hj1, hj2⟩, hj3, hj4⟩, ⟨⟨hj5, hj6⟩, hj7, hj8⟩, ⟨hk1, hk2⟩, hk3, hk4⟩ := h_d
  have hLa := itoaL d.client.node (by constructor <;> omega)
  have hLa := itoaL d.client.life (by constructor <;> omega)
  have hLa := itoaL d.seq (by constructor <;> omega)
  have hLa := itoaL d.p0.group (by constructor <;> omega)
  have hLa := itoaL d.p0.index (by constructor <;> omega)
  have hLa := itoaL d.p1.group (by constructor <;> omega)
  have hLa := itoaL d.p1.index (by constructor <;> omega)
  have hLa := itoaL d.p2.group (by constructor <;> omega)
  have hLa := itoaL d.p2.index (by constructor <;> omega)
  have hLa := point_len d.client.node d.client.life (by constructor <;> omega) (by constructor <;> omega)
  have hLa := point_len d.p0.group d.p0.index (by constructor <;> omega) (by constructor <;> omega)
  have hLa := point_len d.p1.group d.p1.index (by constructor <;> omega) (by constructor <;> omega)
  have hLa := point_len d.p2.group d.p2.index (by constructor <;> omega) (by constructor <;> omega)
  refine enter (N := 44) (L := [(0, .agg #[.int .u8 d.client.node, .int .u16 d.client.life, .int .u32 d.seq, .int .u8 d.depth, .int .u8 d.p0.group, .int .u8 d.p0.index, .int .u8 d.p1.group, .int .u8 d.p1.index, .int .u8 d.p2.group, .int .u8 d.p2.index])]) rfl Tryd.func27 rfl rfl rfl (fun a0 s0 => ?_)
  rcases (show d.depth ≤ 0 ∨ d.depth = 1 ∨ d.depth = 2 ∨ 3 ≤ d.depth by omega) with hd | hd | hd | hd
  ·
    refine wp_seq ?_
    refine wp_region_lit ?_
    refine q_box s0 rfl rfl h (fun a2 w4 b1 s3 h5 => ?_)
    have h5 : Holds _ _ ([(b1, .cells #[.int .u8 d.client.node, .int .u16 d.client.life, .int .u32 d.seq, .int .u8 d.depth, .int .u8 d.p0.group, .int .u8 d.p0.index, .int .u8 d.p1.group, .int .u8 d.p1.index, .int .u8 d.p2.group, .int .u8 d.p2.index] 40 (0, 0))] :: F) := h5
    refine q_of s3 rfl (fun _ k => o_assign (s3.ev rfl) k) (fun a6 s7 => ?_)
    refine wpList_nil ?_
    refine x_then_n ?_
    refine wp_seq ?_
    have hok : okX 44 [(1, .pointer (some ⟨b1, 0, none⟩)), (2, S [])] [(some 6, Fact.eq (.pointer (some ⟨b1, 0, none⟩))), (some 7, Fact.eq (.pointer (some ⟨b1, 0, none⟩))), (some 8, Fact.eq (.int .u8 d.client.node)), (some 9, Fact.eq (.int .i64 d.client.node)), (some 10, Fact.eq (.pointer (some ⟨b1, 0, none⟩))), (some 11, Fact.eq (.pointer (some ⟨b1, 1, none⟩))), (some 12, Fact.eq (.int .u16 d.client.life)), (some 13, Fact.eq (.int .i64 d.client.life)), (some 14, Fact.eq (S (point d.client.node d.client.life))), (some 15, Fact.eq (.pointer (some ⟨b1, 2, none⟩))), (some 16, Fact.eq (.int .u32 d.seq)), (some 17, Fact.eq (.int .i64 d.seq))] [] = true := rfl
    refine region_split 12 [1, 2, 3, 8, 5, 6, 7, 8, 12, 10, 11, 12, 13, 14] (N := 44) (L0 := [(1, .pointer (some ⟨b1, 0, none⟩)), (2, S [])]) (X := [(some 6, Fact.eq (.pointer (some ⟨b1, 0, none⟩))), (some 7, Fact.eq (.pointer (some ⟨b1, 0, none⟩))), (some 8, Fact.eq (.int .u8 d.client.node)), (some 9, Fact.eq (.int .i64 d.client.node)), (some 10, Fact.eq (.pointer (some ⟨b1, 0, none⟩))), (some 11, Fact.eq (.pointer (some ⟨b1, 1, none⟩))), (some 12, Fact.eq (.int .u16 d.client.life)), (some 13, Fact.eq (.int .i64 d.client.life)), (some 14, Fact.eq (S (point d.client.node d.client.life))), (some 15, Fact.eq (.pointer (some ⟨b1, 2, none⟩))), (some 16, Fact.eq (.int .u32 d.seq)), (some 17, Fact.eq (.int .i64 d.seq))]) (O := []) (HR := fun D a _ H => H = ([(b1, .cells #[.int .u8 d.client.node, .int .u16 d.client.life, .int .u32 d.seq, .int .u8 d.depth, .int .u8 d.p0.group, .int .u8 d.p0.index, .int .u8 d.p1.group, .int .u8 d.p1.index, .int .u8 d.p2.group, .int .u8 d.p2.index] 40 (0, 0))] :: F)) mixed rfl rfl rfl h5 rfl (s7.sub (all_cons rfl (all_cons rfl (all_nil)))) (fun i k t v hi => by simp at hi) ⟨?_, ?_, ?_, ?_, ?_, ?_, ?_, ?_, ?_, ?_, ?_, ?_, trivial⟩ (fun D a w G H hall j => ?_)
    · exact step_of rfl (fun D a w G H hR j => by (have s := j.sf ; exact o_fieldAddr (s.ev rfl) off40_0 (j.did hok rfl (GS.Le.refl _) j.holds j.hr rfl)))
    · exact step_of rfl (fun D a w G H hR j => by (have s := (j.sf.know _ _ (j.gotE 0 rfl (hR.was rfl 0 rfl))) ; exact o_fieldAddr (s.ev rfl) off36_0 (j.did hok rfl (GS.Le.refl _) j.holds j.hr rfl)))
    · exact step_of rfl (fun D a w G H hR j => by (have hH := j.hr ; subst H ; have s := (j.sf.know _ _ (j.gotE 1 rfl (hR.was rfl 1 rfl))) ; exact o_loadOne (s.ev rfl) ag5 ((j.holds.rowI 0 0 (cs := [.int .u8 d.client.node]) (o := 0) rfl rfl rfl) 0 _ rfl) (j.did hok rfl (GS.Le.refl _) j.holds j.hr rfl)))
    · exact step_of rfl (fun D a w G H hR j => by (have s := (j.sf.know _ _ (j.gotE 2 rfl (hR.was rfl 2 rfl))) ; exact o_conv (s.ev rfl) und5 und3 (wrap_i64 (by omega) (by omega)) (j.did hok rfl (GS.Le.refl _) j.holds j.hr rfl)))
    · exact step_of rfl (fun D a w G H hR j => by (have s := j.sf ; exact o_fieldAddr (s.ev rfl) off40_0 (j.did hok rfl (GS.Le.refl _) j.holds j.hr rfl)))
    · exact step_of rfl (fun D a w G H hR j => by (have s := (j.sf.know _ _ (j.gotE 4 rfl (hR.was rfl 4 rfl))) ; exact o_fieldAddr (s.ev rfl) off36_1 (j.did hok rfl (GS.Le.refl _) j.holds j.hr rfl)))
    · exact step_of rfl (fun D a w G H hR j => by (have hH := j.hr ; subst H ; have s := (j.sf.know _ _ (j.gotE 5 rfl (hR.was rfl 5 rfl))) ; exact o_loadOne (s.ev rfl) ag25 ((j.holds.rowI 0 0 (cs := [.int .u16 d.client.life]) (o := 1) rfl rfl rfl) 0 _ rfl) (j.did hok rfl (GS.Le.refl _) j.holds j.hr rfl)))
    · exact step_of rfl (fun D a w G H hR j => by (have s := (j.sf.know _ _ (j.gotE 6 rfl (hR.was rfl 6 rfl))) ; exact o_conv (s.ev rfl) und25 und3 (wrap_i64 (by omega) (by omega)) (j.did hok rfl (GS.Le.refl _) j.holds j.hr rfl)))
    · exact step_of rfl (fun D a w G H hR j => by (have s := ((j.sf.know _ _ (j.gotE 3 rfl (hR.was rfl 3 rfl))).know _ _ (j.gotE 7 rfl (hR.was rfl 7 rfl))) ; exact o_call s rfl ok64 (point_spec d.client.node d.client.life (by omega) (by omega) (ht.mono j.le) j.holds) (fun e w' ⟨v, G', he, hG, hh, hv⟩ => ⟨v, he, j.did hok rfl hG hh j.hr hv⟩)))
    · exact step_of rfl (fun D a w G H hR j => by (have s := j.sf ; exact o_fieldAddr (s.ev rfl) off40_1 (j.did hok rfl (GS.Le.refl _) j.holds j.hr rfl)))
    · exact step_of rfl (fun D a w G H hR j => by (have hH := j.hr ; subst H ; have s := (j.sf.know _ _ (j.gotE 9 rfl (hR.was rfl 9 rfl))) ; exact o_loadOne (s.ev rfl) ag28 ((j.holds.rowI 0 0 (cs := [.int .u32 d.seq]) (o := 2) rfl rfl rfl) 0 _ rfl) (j.did hok rfl (GS.Le.refl _) j.holds j.hr rfl)))
    · exact step_of rfl (fun D a w G H hR j => by (have s := (j.sf.know _ _ (j.gotE 10 rfl (hR.was rfl 10 rfl))) ; exact o_conv (s.ev rfl) und28 und3 (wrap_i64 (by omega) (by omega)) (j.did hok rfl (GS.Le.refl _) j.holds j.hr rfl)))
    have s9 := ((j.sf.know _ _ (j.gotE 8 rfl (hall 8 (by decide)))).know _ _ (j.gotE 11 rfl (hall 11 (by decide))))
    have hH := j.hr
    subst H
    have hle15 := j.le
    have ht := ht.mono hle15
    have hG13 := (GS.Le.refl _).trans hle15
    have h14 : Holds _ _ ([(b1, .cells #[.int .u8 d.client.node, .int .u16 d.client.life, .int .u32 d.seq, .int .u8 d.depth, .int .u8 d.p0.group, .int .u8 d.p0.index, .int .u8 d.p1.group, .int .u8 d.p1.index, .int .u8 d.p2.group, .int .u8 d.p2.index] 40 (0, 0))] :: F) := j.holds
    clear j hall hok
    refine q_call s9 rfl ok26 rfl (itoa_spec d.seq (by omega) ht h14) (fun a16 w18 v23 G20 hs24 h19 hv22 s17 => ?_)
    subst hv22
    have ht := ht.mono hs24
    have hG21 := hG13.trans hs24
    have hL_203868 := Lib.itoa_length_le d.seq (by omega) (by omega)
    refine q_buildSlice s17 rfl h19 (vs := [(0, S (point d.client.node d.client.life)), (1, S (Lib.itoa d.seq))]) (cl := [S (point d.client.node d.client.life), S (Lib.itoa d.seq)]) (E := 9) rfl (fun w => by kernel_rfl) (fun a26 w28 b25 s27 h29 => ?_)
    have h29 : Holds _ _ ([(b25, .cells #[S (point d.client.node d.client.life), S (Lib.itoa d.seq)] 9 (0, 0))] :: [(b1, .cells #[.int .u8 d.client.node, .int .u16 d.client.life, .int .u32 d.seq, .int .u8 d.depth, .int .u8 d.p0.group, .int .u8 d.p0.index, .int .u8 d.p1.group, .int .u8 d.p1.index, .int .u8 d.p2.group, .int .u8 d.p2.index] 40 (0, 0))] :: F) := h29
    refine q_of s27 rfl (fun _ k => o_assign (s27.ev rfl) k) (fun a30 s31 => ?_)
    refine wpList_nil ?_
    refine x_then_n ?_
    refine wp_seq ?_
    refine wp_seq ?_
    refine wp_region_lit ?_
    refine q_of s31 rfl (fun _ k => o_fieldAddr (s31.ev rfl) off40_3 k) (fun a32 s33 => ?_)
    refine q_of s33 rfl (fun _ k => o_fieldAddr (s33.ev rfl) off40_2 k) (fun a34 s35 => ?_)
    refine q_of s35 rfl (fun _ k => o_loadOne (s35.ev rfl) ag5 ((h29.rowI 1 0 (cs := [.int .u8 d.depth]) (o := 3) rfl rfl rfl) 0 _ rfl) k) (fun a36 s37 => ?_)
    refine q_of s37 rfl (fun _ k => o_conv (s37.ev rfl) und5 und3 (wrap_i64 (by omega) (by omega)) k) (fun a38 s39 => ?_)
    refine q_of s39 rfl (fun _ k => o_minz (s39.ev rfl) (s39.ev rfl) (z := 0) (by omega) k) (fun a40 s41 => ?_)
    refine q_of s41 rfl (fun _ k => o_sliceA (s41.ev rfl) (s41.ev rfl) und38 (m := 0) sz37 rfl (by decide) k) (fun a42 s43 => ?_)
    refine q_of s43 rfl (fun _ k => o_len (s43.ev rfl) und167 k) (fun a44 s45 => ?_)
    refine q_of s45 rfl (fun _ k => o_move (s45.ev rfl) k) (fun a46 s47 => ?_)
    refine wpList_nil ?_
    refine x_then_n ?_
    refine wp_block ?_
    refine wp_loop_rounds 4 ?_
    refine rounds_step (n := 3) ?_
    refine wp_seq ?_
    refine wp_region_lit ?_
    refine q_of s47 rfl (fun _ k => o_lss (s47.ev rfl) (s47.ev rfl) k) (fun a48 s49 => ?_)
    refine wpList_nil ?_
    refine x_then_n ?_
    refine wp_seq ?_
    refine q_iff s49 rfl rfl ?_
    refine wp_exit ?_
    refine x_then_x ?_
    refine x_then_x ?_
    refine x_blk_x ?_
    refine x_then_n ?_
    refine wp_seq ?_
    refine wp_region_lit ?_
    refine q_of s49 rfl (fun _ k => o_move (s49.ev rfl) k) (fun a51 s52 => ?_)
    obtain ⟨G53, hs54, h55, hr56⟩ := Row.toG (enc := encS) (l := [point d.client.node d.client.life, Lib.itoa d.seq]) (fun _ => rfl) (Row.lit (E := 9) (size := 1) (n := 2) (b := b25) (xs := [S (point d.client.node d.client.life), S (Lib.itoa d.seq)]) rfl (by decide)) rfl h29
    have ht := ht.mono hs54
    have hG57 := hG21.trans hs54
    refine q_call s52 rfl ok61 rfl (join_spec (some ⟨b25, 0, none⟩) 2 [point d.client.node d.client.life, Lib.itoa d.seq] [47] hr56 (by first | exact hl | (refine Nat.le_trans (join_len _ _) ?_ ; simp only [List.map_append, List.map_cons, List.map_nil, List.sum_append, List.sum_cons, List.sum_nil, List.length_append, List.length_cons, List.length_nil] ; omega)) (by first | exact hn | (simp only [List.length_append, List.length_cons, List.length_nil] ; omega)) h55) (fun a58 w60 v65 G62 hs66 h61 hv64 s59 => ?_)
    subst hv64
    have ht := ht.mono hs66
    have hr56 := hr56.mono hs66
    have hG63 := hG57.trans hs66
    refine q_of s59 rfl (fun _ k => o_assign (s59.ev rfl) k) (fun a67 s68 => ?_)
    refine wpList_nil ?_
    refine x_then_n ?_
    refine wp_ret ?_
    refine fin1 s68 rfl rfl ⟨_, _, rfl, hG63, h61.drop, ?_⟩
    first | (unfold idText; rw [path0 d (by omega)]; rfl) | (unfold idText; rw [path1 d (by omega) (by omega)]; rfl) | (unfold idText; rw [path2 d (by omega) (by omega)]; rfl) | (unfold idText; rw [path3 d (by omega)]; rfl)
  ·
    refine wp_seq ?_
    refine wp_region_lit ?_
    refine q_box s0 rfl rfl h (fun a70 w72 b69 s71 h73 => ?_)
    have h73 : Holds _ _ ([(b69, .cells #[.int .u8 d.client.node, .int .u16 d.client.life, .int .u32 d.seq, .int .u8 d.depth, .int .u8 d.p0.group, .int .u8 d.p0.index, .int .u8 d.p1.group, .int .u8 d.p1.index, .int .u8 d.p2.group, .int .u8 d.p2.index] 40 (0, 0))] :: F) := h73
    refine q_of s71 rfl (fun _ k => o_assign (s71.ev rfl) k) (fun a74 s75 => ?_)
    refine wpList_nil ?_
    refine x_then_n ?_
    refine wp_seq ?_
    have hok : okX 44 [(1, .pointer (some ⟨b69, 0, none⟩)), (2, S [])] [(some 6, Fact.eq (.pointer (some ⟨b69, 0, none⟩))), (some 7, Fact.eq (.pointer (some ⟨b69, 0, none⟩))), (some 8, Fact.eq (.int .u8 d.client.node)), (some 9, Fact.eq (.int .i64 d.client.node)), (some 10, Fact.eq (.pointer (some ⟨b69, 0, none⟩))), (some 11, Fact.eq (.pointer (some ⟨b69, 1, none⟩))), (some 12, Fact.eq (.int .u16 d.client.life)), (some 13, Fact.eq (.int .i64 d.client.life)), (some 14, Fact.eq (S (point d.client.node d.client.life))), (some 15, Fact.eq (.pointer (some ⟨b69, 2, none⟩))), (some 16, Fact.eq (.int .u32 d.seq)), (some 17, Fact.eq (.int .i64 d.seq))] [] = true := rfl
    refine region_split 12 [1, 2, 3, 8, 5, 6, 7, 8, 12, 10, 11, 12, 13, 14] (N := 44) (L0 := [(1, .pointer (some ⟨b69, 0, none⟩)), (2, S [])]) (X := [(some 6, Fact.eq (.pointer (some ⟨b69, 0, none⟩))), (some 7, Fact.eq (.pointer (some ⟨b69, 0, none⟩))), (some 8, Fact.eq (.int .u8 d.client.node)), (some 9, Fact.eq (.int .i64 d.client.node)), (some 10, Fact.eq (.pointer (some ⟨b69, 0, none⟩))), (some 11, Fact.eq (.pointer (some ⟨b69, 1, none⟩))), (some 12, Fact.eq (.int .u16 d.client.life)), (some 13, Fact.eq (.int .i64 d.client.life)), (some 14, Fact.eq (S (point d.client.node d.client.life))), (some 15, Fact.eq (.pointer (some ⟨b69, 2, none⟩))), (some 16, Fact.eq (.int .u32 d.seq)), (some 17, Fact.eq (.int .i64 d.seq))]) (O := []) (HR := fun D a _ H => H = ([(b69, .cells #[.int .u8 d.client.node, .int .u16 d.client.life, .int .u32 d.seq, .int .u8 d.depth, .int .u8 d.p0.group, .int .u8 d.p0.index, .int .u8 d.p1.group, .int .u8 d.p1.index, .int .u8 d.p2.group, .int .u8 d.p2.index] 40 (0, 0))] :: F)) mixed rfl rfl rfl h73 rfl (s75.sub (all_cons rfl (all_cons rfl (all_nil)))) (fun i k t v hi => by simp at hi) ⟨?_, ?_, ?_, ?_, ?_, ?_, ?_, ?_, ?_, ?_, ?_, ?_, trivial⟩ (fun D a w G H hall j => ?_)
    · exact step_of rfl (fun D a w G H hR j => by (have s := j.sf ; exact o_fieldAddr (s.ev rfl) off40_0 (j.did hok rfl (GS.Le.refl _) j.holds j.hr rfl)))
    · exact step_of rfl (fun D a w G H hR j => by (have s := (j.sf.know _ _ (j.gotE 0 rfl (hR.was rfl 0 rfl))) ; exact o_fieldAddr (s.ev rfl) off36_0 (j.did hok rfl (GS.Le.refl _) j.holds j.hr rfl)))
    · exact step_of rfl (fun D a w G H hR j => by (have hH := j.hr ; subst H ; have s := (j.sf.know _ _ (j.gotE 1 rfl (hR.was rfl 1 rfl))) ; exact o_loadOne (s.ev rfl) ag5 ((j.holds.rowI 0 0 (cs := [.int .u8 d.client.node]) (o := 0) rfl rfl rfl) 0 _ rfl) (j.did hok rfl (GS.Le.refl _) j.holds j.hr rfl)))
    · exact step_of rfl (fun D a w G H hR j => by (have s := (j.sf.know _ _ (j.gotE 2 rfl (hR.was rfl 2 rfl))) ; exact o_conv (s.ev rfl) und5 und3 (wrap_i64 (by omega) (by omega)) (j.did hok rfl (GS.Le.refl _) j.holds j.hr rfl)))
    · exact step_of rfl (fun D a w G H hR j => by (have s := j.sf ; exact o_fieldAddr (s.ev rfl) off40_0 (j.did hok rfl (GS.Le.refl _) j.holds j.hr rfl)))
    · exact step_of rfl (fun D a w G H hR j => by (have s := (j.sf.know _ _ (j.gotE 4 rfl (hR.was rfl 4 rfl))) ; exact o_fieldAddr (s.ev rfl) off36_1 (j.did hok rfl (GS.Le.refl _) j.holds j.hr rfl)))
    · exact step_of rfl (fun D a w G H hR j => by (have hH := j.hr ; subst H ; have s := (j.sf.know _ _ (j.gotE 5 rfl (hR.was rfl 5 rfl))) ; exact o_loadOne (s.ev rfl) ag25 ((j.holds.rowI 0 0 (cs := [.int .u16 d.client.life]) (o := 1) rfl rfl rfl) 0 _ rfl) (j.did hok rfl (GS.Le.refl _) j.holds j.hr rfl)))
    · exact step_of rfl (fun D a w G H hR j => by (have s := (j.sf.know _ _ (j.gotE 6 rfl (hR.was rfl 6 rfl))) ; exact o_conv (s.ev rfl) und25 und3 (wrap_i64 (by omega) (by omega)) (j.did hok rfl (GS.Le.refl _) j.holds j.hr rfl)))
    · exact step_of rfl (fun D a w G H hR j => by (have s := ((j.sf.know _ _ (j.gotE 3 rfl (hR.was rfl 3 rfl))).know _ _ (j.gotE 7 rfl (hR.was rfl 7 rfl))) ; exact o_call s rfl ok64 (point_spec d.client.node d.client.life (by omega) (by omega) (ht.mono j.le) j.holds) (fun e w' ⟨v, G', he, hG, hh, hv⟩ => ⟨v, he, j.did hok rfl hG hh j.hr hv⟩)))
    · exact step_of rfl (fun D a w G H hR j => by (have s := j.sf ; exact o_fieldAddr (s.ev rfl) off40_1 (j.did hok rfl (GS.Le.refl _) j.holds j.hr rfl)))
    · exact step_of rfl (fun D a w G H hR j => by (have hH := j.hr ; subst H ; have s := (j.sf.know _ _ (j.gotE 9 rfl (hR.was rfl 9 rfl))) ; exact o_loadOne (s.ev rfl) ag28 ((j.holds.rowI 0 0 (cs := [.int .u32 d.seq]) (o := 2) rfl rfl rfl) 0 _ rfl) (j.did hok rfl (GS.Le.refl _) j.holds j.hr rfl)))
    · exact step_of rfl (fun D a w G H hR j => by (have s := (j.sf.know _ _ (j.gotE 10 rfl (hR.was rfl 10 rfl))) ; exact o_conv (s.ev rfl) und28 und3 (wrap_i64 (by omega) (by omega)) (j.did hok rfl (GS.Le.refl _) j.holds j.hr rfl)))
    have s77 := ((j.sf.know _ _ (j.gotE 8 rfl (hall 8 (by decide)))).know _ _ (j.gotE 11 rfl (hall 11 (by decide))))
    have hH := j.hr
    subst H
    have hle83 := j.le
    have ht := ht.mono hle83
    have hG81 := (GS.Le.refl _).trans hle83
    have h82 : Holds _ _ ([(b69, .cells #[.int .u8 d.client.node, .int .u16 d.client.life, .int .u32 d.seq, .int .u8 d.depth, .int .u8 d.p0.group, .int .u8 d.p0.index, .int .u8 d.p1.group, .int .u8 d.p1.index, .int .u8 d.p2.group, .int .u8 d.p2.index] 40 (0, 0))] :: F) := j.holds
    clear j hall hok
    refine q_call s77 rfl ok26 rfl (itoa_spec d.seq (by omega) ht h82) (fun a84 w86 v91 G88 hs92 h87 hv90 s85 => ?_)
    subst hv90
    have ht := ht.mono hs92
    have hG89 := hG81.trans hs92
    have hL_203868 := Lib.itoa_length_le d.seq (by omega) (by omega)
    refine q_buildSlice s85 rfl h87 (vs := [(0, S (point d.client.node d.client.life)), (1, S (Lib.itoa d.seq))]) (cl := [S (point d.client.node d.client.life), S (Lib.itoa d.seq)]) (E := 9) rfl (fun w => by kernel_rfl) (fun a94 w96 b93 s95 h97 => ?_)
    have h97 : Holds _ _ ([(b93, .cells #[S (point d.client.node d.client.life), S (Lib.itoa d.seq)] 9 (0, 0))] :: [(b69, .cells #[.int .u8 d.client.node, .int .u16 d.client.life, .int .u32 d.seq, .int .u8 d.depth, .int .u8 d.p0.group, .int .u8 d.p0.index, .int .u8 d.p1.group, .int .u8 d.p1.index, .int .u8 d.p2.group, .int .u8 d.p2.index] 40 (0, 0))] :: F) := h97
    refine q_of s95 rfl (fun _ k => o_assign (s95.ev rfl) k) (fun a98 s99 => ?_)
    refine wpList_nil ?_
    refine x_then_n ?_
    refine wp_seq ?_
    refine wp_seq ?_
    refine wp_region_lit ?_
    refine q_of s99 rfl (fun _ k => o_fieldAddr (s99.ev rfl) off40_3 k) (fun a100 s101 => ?_)
    refine q_of s101 rfl (fun _ k => o_fieldAddr (s101.ev rfl) off40_2 k) (fun a102 s103 => ?_)
    refine q_of s103 rfl (fun _ k => o_loadOne (s103.ev rfl) ag5 ((h97.rowI 1 0 (cs := [.int .u8 d.depth]) (o := 3) rfl rfl rfl) 0 _ rfl) k) (fun a104 s105 => ?_)
    refine q_of s105 rfl (fun _ k => o_conv (s105.ev rfl) und5 und3 (wrap_i64 (by omega) (by omega)) k) (fun a106 s107 => ?_)
    refine q_of s107 rfl (fun _ k => o_minz (s107.ev rfl) (s107.ev rfl) (z := 1) (by omega) k) (fun a108 s109 => ?_)
    refine q_of s109 rfl (fun _ k => o_sliceA (s109.ev rfl) (s109.ev rfl) und38 (m := 1) sz37 rfl (by decide) k) (fun a110 s111 => ?_)
    refine q_of s111 rfl (fun _ k => o_len (s111.ev rfl) und167 k) (fun a112 s113 => ?_)
    refine q_of s113 rfl (fun _ k => o_move (s113.ev rfl) k) (fun a114 s115 => ?_)
    refine wpList_nil ?_
    refine x_then_n ?_
    refine wp_block ?_
    refine wp_loop_rounds 4 ?_
    refine rounds_step (n := 3) ?_
    refine wp_seq ?_
    refine wp_region_lit ?_
    refine q_of s115 rfl (fun _ k => o_lss (s115.ev rfl) (s115.ev rfl) k) (fun a116 s117 => ?_)
    refine wpList_nil ?_
    refine x_then_n ?_
    refine wp_seq ?_
    refine q_ift s117 rfl rfl ?_
    refine wp_skip ?_
    refine x_then_n ?_
    refine wp_seq ?_
    refine wp_block ?_
    refine wp_seq ?_
    refine wp_region_lit ?_
    refine q_of s117 rfl (fun _ k => o_idxSm (s117.ev rfl) (s117.ev rfl) und167 sz37 (i := 0) rfl (by decide) rfl rfl (m := 4) rfl k) (fun a119 s120 => ?_)
    refine q_of s120 rfl (fun _ k => o_loadAgg (s120.ev rfl) ag37 sz37 (cs := [.int .u8 d.p0.group, .int .u8 d.p0.index]) rfl (h97.rowI 1 0 (cs := [.int .u8 d.p0.group, .int .u8 d.p0.index]) (o := 4) rfl rfl rfl) k) (fun a121 s122 => ?_)
    refine q_alloc s122 rfl h97 zero37 (fun a124 w126 b123 s125 h127 => ?_)
    refine q_store s125 rfl rfl sz37 rfl h127 (j := 0) rfl rfl rfl (cl := [.int .u8 d.p0.group, .int .u8 d.p0.index]) (by kernel_rfl) (fun a128 w130 s129 h131 => ?_)
    have h131 : Holds _ _ ([(b123, .cells #[.int .u8 d.p0.group, .int .u8 d.p0.index] 37 (0, 0))] :: [(b93, .cells #[S (point d.client.node d.client.life), S (Lib.itoa d.seq)] 9 (0, 0))] :: [(b69, .cells #[.int .u8 d.client.node, .int .u16 d.client.life, .int .u32 d.seq, .int .u8 d.depth, .int .u8 d.p0.group, .int .u8 d.p0.index, .int .u8 d.p1.group, .int .u8 d.p1.index, .int .u8 d.p2.group, .int .u8 d.p2.index] 40 (0, 0))] :: F) := h131
    refine wpList_nil ?_
    refine x_then_n ?_
    refine wp_region_lit ?_
    refine q_of s129 rfl (fun _ k => o_move (s129.ev rfl) k) (fun a132 s133 => ?_)
    refine q_of s133 rfl (fun _ k => o_fieldAddr (s133.ev rfl) off37_0 k) (fun a134 s135 => ?_)
    refine q_of s135 rfl (fun _ k => o_loadOne (s135.ev rfl) ag5 ((h131.rowI 0 0 (cs := [.int .u8 d.p0.group]) (o := 0) rfl rfl rfl) 0 _ rfl) k) (fun a136 s137 => ?_)
    refine q_of s137 rfl (fun _ k => o_conv (s137.ev rfl) und5 und3 (wrap_i64 (by omega) (by omega)) k) (fun a138 s139 => ?_)
    refine q_of s139 rfl (fun _ k => o_fieldAddr (s139.ev rfl) off37_1 k) (fun a140 s141 => ?_)
    refine q_of s141 rfl (fun _ k => o_loadOne (s141.ev rfl) ag5 ((h131.rowI 0 0 (cs := [.int .u8 d.p0.index]) (o := 1) rfl rfl rfl) 0 _ rfl) k) (fun a142 s143 => ?_)
    refine q_of s143 rfl (fun _ k => o_conv (s143.ev rfl) und5 und3 (wrap_i64 (by omega) (by omega)) k) (fun a144 s145 => ?_)
    refine q_call s145 rfl ok64 rfl (point_spec d.p0.group d.p0.index (by omega) (by omega) ht h131) (fun a146 w148 v153 G150 hs154 h149 hv152 s147 => ?_)
    subst hv152
    have ht := ht.mono hs154
    have hG151 := hG89.trans hs154
    have hL_738460 := point_len d.p0.group d.p0.index (by omega) (by omega)
    refine q_buildSlice s147 rfl h149 (vs := [(0, S (point d.p0.group d.p0.index))]) (cl := [S (point d.p0.group d.p0.index)]) (E := 9) rfl (fun w => by kernel_rfl) (fun a156 w158 b155 s157 h159 => ?_)
    have h159 : Holds _ _ ([(b155, .cells #[S (point d.p0.group d.p0.index)] 9 (0, 0))] :: [(b123, .cells #[.int .u8 d.p0.group, .int .u8 d.p0.index] 37 (0, 0))] :: [(b93, .cells #[S (point d.client.node d.client.life), S (Lib.itoa d.seq)] 9 (0, 0))] :: [(b69, .cells #[.int .u8 d.client.node, .int .u16 d.client.life, .int .u32 d.seq, .int .u8 d.depth, .int .u8 d.p0.group, .int .u8 d.p0.index, .int .u8 d.p1.group, .int .u8 d.p1.index, .int .u8 d.p2.group, .int .u8 d.p2.index] 40 (0, 0))] :: F) := h159
    have h160 : Holds _ _ ([(b93, .cells #[S (point d.client.node d.client.life), S (Lib.itoa d.seq)] 9 (0, 0))] :: [(b155, .cells #[S (point d.p0.group d.p0.index)] 9 (0, 0))] :: [(b123, .cells #[.int .u8 d.p0.group, .int .u8 d.p0.index] 37 (0, 0))] :: [(b69, .cells #[.int .u8 d.client.node, .int .u16 d.client.life, .int .u32 d.seq, .int .u8 d.depth, .int .u8 d.p0.group, .int .u8 d.p0.index, .int .u8 d.p1.group, .int .u8 d.p1.index, .int .u8 d.p2.group, .int .u8 d.p2.index] 40 (0, 0))] :: F) := h159.front 2 rfl
    refine q_append s157 rfl (Row.lit (E := 9) (size := 1) (n := 2) (b := b93) (xs := [S (point d.client.node d.client.life), S (Lib.itoa d.seq)]) rfl (by decide)) h160 rfl rfl und159 elem9 (news := [S (point d.p0.group d.p0.index)]) rfl (h160.rowI 1 0 (o := 0) rfl rfl rfl) rfl (by omega) (by omega) (fun a161 w163 ao165 cap166 c167 s162 r168 h164 => ?_)
    have h169 : Holds _ _ ([(b155, .cells #[S (point d.p0.group d.p0.index)] 9 (0, 0))] :: c167 :: [(b123, .cells #[.int .u8 d.p0.group, .int .u8 d.p0.index] 37 (0, 0))] :: [(b69, .cells #[.int .u8 d.client.node, .int .u16 d.client.life, .int .u32 d.seq, .int .u8 d.depth, .int .u8 d.p0.group, .int .u8 d.p0.index, .int .u8 d.p1.group, .int .u8 d.p1.index, .int .u8 d.p2.group, .int .u8 d.p2.index] 40 (0, 0))] :: F) := h164.front 1 rfl
    have h170 : Holds _ _ (c167 :: [(b123, .cells #[.int .u8 d.p0.group, .int .u8 d.p0.index] 37 (0, 0))] :: [(b69, .cells #[.int .u8 d.client.node, .int .u16 d.client.life, .int .u32 d.seq, .int .u8 d.depth, .int .u8 d.p0.group, .int .u8 d.p0.index, .int .u8 d.p1.group, .int .u8 d.p1.index, .int .u8 d.p2.group, .int .u8 d.p2.index] 40 (0, 0))] :: F) := h169.drop
    refine q_of s162 rfl (fun _ k => o_assign (s162.ev rfl) k) (fun a171 s172 => ?_)
    refine wpList_nil ?_
    refine x_blk_n ?_
    refine x_then_n ?_
    refine wp_region_lit ?_
    refine q_of s172 rfl (fun _ k => o_add (s172.ev rfl) (s172.ev rfl) (z := 1) rfl k) (fun a173 s174 => ?_)
    refine q_of s174 rfl (fun _ k => o_move (s174.ev rfl) k) (fun a175 s176 => ?_)
    refine wpList_nil ?_
    refine x_then_n ?_
    refine rounds_step (n := 2) ?_
    refine wp_seq ?_
    refine wp_region_lit ?_
    refine q_of s176 rfl (fun _ k => o_lss (s176.ev rfl) (s176.ev rfl) k) (fun a177 s178 => ?_)
    refine wpList_nil ?_
    refine x_then_n ?_
    refine wp_seq ?_
    refine q_iff s178 rfl rfl ?_
    refine wp_exit ?_
    refine x_then_x ?_
    refine x_then_x ?_
    refine x_blk_x ?_
    refine x_then_n ?_
    refine wp_seq ?_
    refine wp_region_lit ?_
    refine q_of s178 rfl (fun _ k => o_move (s178.ev rfl) k) (fun a180 s181 => ?_)
    obtain ⟨G182, hs183, h184, hr185⟩ := Row.toG (enc := encS) (l := [point d.client.node d.client.life, Lib.itoa d.seq] ++ [point d.p0.group d.p0.index]) (fun _ => rfl) r168 rfl h170
    have ht := ht.mono hs183
    have hG186 := hG151.trans hs183
    refine q_call s181 rfl ok61 rfl (join_spec ao165 cap166 ([point d.client.node d.client.life, Lib.itoa d.seq] ++ [point d.p0.group d.p0.index]) [47] hr185 (by first | exact hl | (refine Nat.le_trans (join_len _ _) ?_ ; simp only [List.map_append, List.map_cons, List.map_nil, List.sum_append, List.sum_cons, List.sum_nil, List.length_append, List.length_cons, List.length_nil] ; omega)) (by first | exact hn | (simp only [List.length_append, List.length_cons, List.length_nil] ; omega)) h184) (fun a187 w189 v194 G191 hs195 h190 hv193 s188 => ?_)
    subst hv193
    have ht := ht.mono hs195
    have hr185 := hr185.mono hs195
    have hG192 := hG186.trans hs195
    refine q_of s188 rfl (fun _ k => o_assign (s188.ev rfl) k) (fun a196 s197 => ?_)
    refine wpList_nil ?_
    refine x_then_n ?_
    refine wp_ret ?_
    refine fin1 s197 rfl rfl ⟨_, _, rfl, hG192, h190.drop.drop, ?_⟩
    first | (unfold idText; rw [path0 d (by omega)]; rfl) | (unfold idText; rw [path1 d (by omega) (by omega)]; rfl) | (unfold idText; rw [path2 d (by omega) (by omega)]; rfl) | (unfold idText; rw [path3 d (by omega)]; rfl)
  ·
    refine wp_seq ?_
    refine wp_region_lit ?_
    refine q_box s0 rfl rfl h (fun a199 w201 b198 s200 h202 => ?_)
    have h202 : Holds _ _ ([(b198, .cells #[.int .u8 d.client.node, .int .u16 d.client.life, .int .u32 d.seq, .int .u8 d.depth, .int .u8 d.p0.group, .int .u8 d.p0.index, .int .u8 d.p1.group, .int .u8 d.p1.index, .int .u8 d.p2.group, .int .u8 d.p2.index] 40 (0, 0))] :: F) := h202
    refine q_of s200 rfl (fun _ k => o_assign (s200.ev rfl) k) (fun a203 s204 => ?_)
    refine wpList_nil ?_
    refine x_then_n ?_
    refine wp_seq ?_
    have hok : okX 44 [(1, .pointer (some ⟨b198, 0, none⟩)), (2, S [])] [(some 6, Fact.eq (.pointer (some ⟨b198, 0, none⟩))), (some 7, Fact.eq (.pointer (some ⟨b198, 0, none⟩))), (some 8, Fact.eq (.int .u8 d.client.node)), (some 9, Fact.eq (.int .i64 d.client.node)), (some 10, Fact.eq (.pointer (some ⟨b198, 0, none⟩))), (some 11, Fact.eq (.pointer (some ⟨b198, 1, none⟩))), (some 12, Fact.eq (.int .u16 d.client.life)), (some 13, Fact.eq (.int .i64 d.client.life)), (some 14, Fact.eq (S (point d.client.node d.client.life))), (some 15, Fact.eq (.pointer (some ⟨b198, 2, none⟩))), (some 16, Fact.eq (.int .u32 d.seq)), (some 17, Fact.eq (.int .i64 d.seq))] [] = true := rfl
    refine region_split 12 [1, 2, 3, 8, 5, 6, 7, 8, 12, 10, 11, 12, 13, 14] (N := 44) (L0 := [(1, .pointer (some ⟨b198, 0, none⟩)), (2, S [])]) (X := [(some 6, Fact.eq (.pointer (some ⟨b198, 0, none⟩))), (some 7, Fact.eq (.pointer (some ⟨b198, 0, none⟩))), (some 8, Fact.eq (.int .u8 d.client.node)), (some 9, Fact.eq (.int .i64 d.client.node)), (some 10, Fact.eq (.pointer (some ⟨b198, 0, none⟩))), (some 11, Fact.eq (.pointer (some ⟨b198, 1, none⟩))), (some 12, Fact.eq (.int .u16 d.client.life)), (some 13, Fact.eq (.int .i64 d.client.life)), (some 14, Fact.eq (S (point d.client.node d.client.life))), (some 15, Fact.eq (.pointer (some ⟨b198, 2, none⟩))), (some 16, Fact.eq (.int .u32 d.seq)), (some 17, Fact.eq (.int .i64 d.seq))]) (O := []) (HR := fun D a _ H => H = ([(b198, .cells #[.int .u8 d.client.node, .int .u16 d.client.life, .int .u32 d.seq, .int .u8 d.depth, .int .u8 d.p0.group, .int .u8 d.p0.index, .int .u8 d.p1.group, .int .u8 d.p1.index, .int .u8 d.p2.group, .int .u8 d.p2.index] 40 (0, 0))] :: F)) mixed rfl rfl rfl h202 rfl (s204.sub (all_cons rfl (all_cons rfl (all_nil)))) (fun i k t v hi => by simp at hi) ⟨?_, ?_, ?_, ?_, ?_, ?_, ?_, ?_, ?_, ?_, ?_, ?_, trivial⟩ (fun D a w G H hall j => ?_)
    · exact step_of rfl (fun D a w G H hR j => by (have s := j.sf ; exact o_fieldAddr (s.ev rfl) off40_0 (j.did hok rfl (GS.Le.refl _) j.holds j.hr rfl)))
    · exact step_of rfl (fun D a w G H hR j => by (have s := (j.sf.know _ _ (j.gotE 0 rfl (hR.was rfl 0 rfl))) ; exact o_fieldAddr (s.ev rfl) off36_0 (j.did hok rfl (GS.Le.refl _) j.holds j.hr rfl)))
    · exact step_of rfl (fun D a w G H hR j => by (have hH := j.hr ; subst H ; have s := (j.sf.know _ _ (j.gotE 1 rfl (hR.was rfl 1 rfl))) ; exact o_loadOne (s.ev rfl) ag5 ((j.holds.rowI 0 0 (cs := [.int .u8 d.client.node]) (o := 0) rfl rfl rfl) 0 _ rfl) (j.did hok rfl (GS.Le.refl _) j.holds j.hr rfl)))
    · exact step_of rfl (fun D a w G H hR j => by (have s := (j.sf.know _ _ (j.gotE 2 rfl (hR.was rfl 2 rfl))) ; exact o_conv (s.ev rfl) und5 und3 (wrap_i64 (by omega) (by omega)) (j.did hok rfl (GS.Le.refl _) j.holds j.hr rfl)))
    · exact step_of rfl (fun D a w G H hR j => by (have s := j.sf ; exact o_fieldAddr (s.ev rfl) off40_0 (j.did hok rfl (GS.Le.refl _) j.holds j.hr rfl)))
    · exact step_of rfl (fun D a w G H hR j => by (have s := (j.sf.know _ _ (j.gotE 4 rfl (hR.was rfl 4 rfl))) ; exact o_fieldAddr (s.ev rfl) off36_1 (j.did hok rfl (GS.Le.refl _) j.holds j.hr rfl)))
    · exact step_of rfl (fun D a w G H hR j => by (have hH := j.hr ; subst H ; have s := (j.sf.know _ _ (j.gotE 5 rfl (hR.was rfl 5 rfl))) ; exact o_loadOne (s.ev rfl) ag25 ((j.holds.rowI 0 0 (cs := [.int .u16 d.client.life]) (o := 1) rfl rfl rfl) 0 _ rfl) (j.did hok rfl (GS.Le.refl _) j.holds j.hr rfl)))
    · exact step_of rfl (fun D a w G H hR j => by (have s := (j.sf.know _ _ (j.gotE 6 rfl (hR.was rfl 6 rfl))) ; exact o_conv (s.ev rfl) und25 und3 (wrap_i64 (by omega) (by omega)) (j.did hok rfl (GS.Le.refl _) j.holds j.hr rfl)))
    · exact step_of rfl (fun D a w G H hR j => by (have s := ((j.sf.know _ _ (j.gotE 3 rfl (hR.was rfl 3 rfl))).know _ _ (j.gotE 7 rfl (hR.was rfl 7 rfl))) ; exact o_call s rfl ok64 (point_spec d.client.node d.client.life (by omega) (by omega) (ht.mono j.le) j.holds) (fun e w' ⟨v, G', he, hG, hh, hv⟩ => ⟨v, he, j.did hok rfl hG hh j.hr hv⟩)))
    · exact step_of rfl (fun D a w G H hR j => by (have s := j.sf ; exact o_fieldAddr (s.ev rfl) off40_1 (j.did hok rfl (GS.Le.refl _) j.holds j.hr rfl)))
    · exact step_of rfl (fun D a w G H hR j => by (have hH := j.hr ; subst H ; have s := (j.sf.know _ _ (j.gotE 9 rfl (hR.was rfl 9 rfl))) ; exact o_loadOne (s.ev rfl) ag28 ((j.holds.rowI 0 0 (cs := [.int .u32 d.seq]) (o := 2) rfl rfl rfl) 0 _ rfl) (j.did hok rfl (GS.Le.refl _) j.holds j.hr rfl)))
    · exact step_of rfl (fun D a w G H hR j => by (have s := (j.sf.know _ _ (j.gotE 10 rfl (hR.was rfl 10 rfl))) ; exact o_conv (s.ev rfl) und28 und3 (wrap_i64 (by omega) (by omega)) (j.did hok rfl (GS.Le.refl _) j.holds j.hr rfl)))
    have s206 := ((j.sf.know _ _ (j.gotE 8 rfl (hall 8 (by decide)))).know _ _ (j.gotE 11 rfl (hall 11 (by decide))))
    have hH := j.hr
    subst H
    have hle212 := j.le
    have ht := ht.mono hle212
    have hG210 := (GS.Le.refl _).trans hle212
    have h211 : Holds _ _ ([(b198, .cells #[.int .u8 d.client.node, .int .u16 d.client.life, .int .u32 d.seq, .int .u8 d.depth, .int .u8 d.p0.group, .int .u8 d.p0.index, .int .u8 d.p1.group, .int .u8 d.p1.index, .int .u8 d.p2.group, .int .u8 d.p2.index] 40 (0, 0))] :: F) := j.holds
    clear j hall hok
    refine q_call s206 rfl ok26 rfl (itoa_spec d.seq (by omega) ht h211) (fun a213 w215 v220 G217 hs221 h216 hv219 s214 => ?_)
    subst hv219
    have ht := ht.mono hs221
    have hG218 := hG210.trans hs221
    have hL_203868 := Lib.itoa_length_le d.seq (by omega) (by omega)
    refine q_buildSlice s214 rfl h216 (vs := [(0, S (point d.client.node d.client.life)), (1, S (Lib.itoa d.seq))]) (cl := [S (point d.client.node d.client.life), S (Lib.itoa d.seq)]) (E := 9) rfl (fun w => by kernel_rfl) (fun a223 w225 b222 s224 h226 => ?_)
    have h226 : Holds _ _ ([(b222, .cells #[S (point d.client.node d.client.life), S (Lib.itoa d.seq)] 9 (0, 0))] :: [(b198, .cells #[.int .u8 d.client.node, .int .u16 d.client.life, .int .u32 d.seq, .int .u8 d.depth, .int .u8 d.p0.group, .int .u8 d.p0.index, .int .u8 d.p1.group, .int .u8 d.p1.index, .int .u8 d.p2.group, .int .u8 d.p2.index] 40 (0, 0))] :: F) := h226
    refine q_of s224 rfl (fun _ k => o_assign (s224.ev rfl) k) (fun a227 s228 => ?_)
    refine wpList_nil ?_
    refine x_then_n ?_
    refine wp_seq ?_
    refine wp_seq ?_
    refine wp_region_lit ?_
    refine q_of s228 rfl (fun _ k => o_fieldAddr (s228.ev rfl) off40_3 k) (fun a229 s230 => ?_)
    refine q_of s230 rfl (fun _ k => o_fieldAddr (s230.ev rfl) off40_2 k) (fun a231 s232 => ?_)
    refine q_of s232 rfl (fun _ k => o_loadOne (s232.ev rfl) ag5 ((h226.rowI 1 0 (cs := [.int .u8 d.depth]) (o := 3) rfl rfl rfl) 0 _ rfl) k) (fun a233 s234 => ?_)
    refine q_of s234 rfl (fun _ k => o_conv (s234.ev rfl) und5 und3 (wrap_i64 (by omega) (by omega)) k) (fun a235 s236 => ?_)
    refine q_of s236 rfl (fun _ k => o_minz (s236.ev rfl) (s236.ev rfl) (z := 2) (by omega) k) (fun a237 s238 => ?_)
    refine q_of s238 rfl (fun _ k => o_sliceA (s238.ev rfl) (s238.ev rfl) und38 (m := 2) sz37 rfl (by decide) k) (fun a239 s240 => ?_)
    refine q_of s240 rfl (fun _ k => o_len (s240.ev rfl) und167 k) (fun a241 s242 => ?_)
    refine q_of s242 rfl (fun _ k => o_move (s242.ev rfl) k) (fun a243 s244 => ?_)
    refine wpList_nil ?_
    refine x_then_n ?_
    refine wp_block ?_
    refine wp_loop_rounds 4 ?_
    refine rounds_step (n := 3) ?_
    refine wp_seq ?_
    refine wp_region_lit ?_
    refine q_of s244 rfl (fun _ k => o_lss (s244.ev rfl) (s244.ev rfl) k) (fun a245 s246 => ?_)
    refine wpList_nil ?_
    refine x_then_n ?_
    refine wp_seq ?_
    refine q_ift s246 rfl rfl ?_
    refine wp_skip ?_
    refine x_then_n ?_
    refine wp_seq ?_
    refine wp_block ?_
    refine wp_seq ?_
    refine wp_region_lit ?_
    refine q_of s246 rfl (fun _ k => o_idxSm (s246.ev rfl) (s246.ev rfl) und167 sz37 (i := 0) rfl (by decide) rfl rfl (m := 4) rfl k) (fun a248 s249 => ?_)
    refine q_of s249 rfl (fun _ k => o_loadAgg (s249.ev rfl) ag37 sz37 (cs := [.int .u8 d.p0.group, .int .u8 d.p0.index]) rfl (h226.rowI 1 0 (cs := [.int .u8 d.p0.group, .int .u8 d.p0.index]) (o := 4) rfl rfl rfl) k) (fun a250 s251 => ?_)
    refine q_alloc s251 rfl h226 zero37 (fun a253 w255 b252 s254 h256 => ?_)
    refine q_store s254 rfl rfl sz37 rfl h256 (j := 0) rfl rfl rfl (cl := [.int .u8 d.p0.group, .int .u8 d.p0.index]) (by kernel_rfl) (fun a257 w259 s258 h260 => ?_)
    have h260 : Holds _ _ ([(b252, .cells #[.int .u8 d.p0.group, .int .u8 d.p0.index] 37 (0, 0))] :: [(b222, .cells #[S (point d.client.node d.client.life), S (Lib.itoa d.seq)] 9 (0, 0))] :: [(b198, .cells #[.int .u8 d.client.node, .int .u16 d.client.life, .int .u32 d.seq, .int .u8 d.depth, .int .u8 d.p0.group, .int .u8 d.p0.index, .int .u8 d.p1.group, .int .u8 d.p1.index, .int .u8 d.p2.group, .int .u8 d.p2.index] 40 (0, 0))] :: F) := h260
    refine wpList_nil ?_
    refine x_then_n ?_
    refine wp_region_lit ?_
    refine q_of s258 rfl (fun _ k => o_move (s258.ev rfl) k) (fun a261 s262 => ?_)
    refine q_of s262 rfl (fun _ k => o_fieldAddr (s262.ev rfl) off37_0 k) (fun a263 s264 => ?_)
    refine q_of s264 rfl (fun _ k => o_loadOne (s264.ev rfl) ag5 ((h260.rowI 0 0 (cs := [.int .u8 d.p0.group]) (o := 0) rfl rfl rfl) 0 _ rfl) k) (fun a265 s266 => ?_)
    refine q_of s266 rfl (fun _ k => o_conv (s266.ev rfl) und5 und3 (wrap_i64 (by omega) (by omega)) k) (fun a267 s268 => ?_)
    refine q_of s268 rfl (fun _ k => o_fieldAddr (s268.ev rfl) off37_1 k) (fun a269 s270 => ?_)
    refine q_of s270 rfl (fun _ k => o_loadOne (s270.ev rfl) ag5 ((h260.rowI 0 0 (cs := [.int .u8 d.p0.index]) (o := 1) rfl rfl rfl) 0 _ rfl) k) (fun a271 s272 => ?_)
    refine q_of s272 rfl (fun _ k => o_conv (s272.ev rfl) und5 und3 (wrap_i64 (by omega) (by omega)) k) (fun a273 s274 => ?_)
    refine q_call s274 rfl ok64 rfl (point_spec d.p0.group d.p0.index (by omega) (by omega) ht h260) (fun a275 w277 v282 G279 hs283 h278 hv281 s276 => ?_)
    subst hv281
    have ht := ht.mono hs283
    have hG280 := hG218.trans hs283
    have hL_738460 := point_len d.p0.group d.p0.index (by omega) (by omega)
    refine q_buildSlice s276 rfl h278 (vs := [(0, S (point d.p0.group d.p0.index))]) (cl := [S (point d.p0.group d.p0.index)]) (E := 9) rfl (fun w => by kernel_rfl) (fun a285 w287 b284 s286 h288 => ?_)
    have h288 : Holds _ _ ([(b284, .cells #[S (point d.p0.group d.p0.index)] 9 (0, 0))] :: [(b252, .cells #[.int .u8 d.p0.group, .int .u8 d.p0.index] 37 (0, 0))] :: [(b222, .cells #[S (point d.client.node d.client.life), S (Lib.itoa d.seq)] 9 (0, 0))] :: [(b198, .cells #[.int .u8 d.client.node, .int .u16 d.client.life, .int .u32 d.seq, .int .u8 d.depth, .int .u8 d.p0.group, .int .u8 d.p0.index, .int .u8 d.p1.group, .int .u8 d.p1.index, .int .u8 d.p2.group, .int .u8 d.p2.index] 40 (0, 0))] :: F) := h288
    have h289 : Holds _ _ ([(b222, .cells #[S (point d.client.node d.client.life), S (Lib.itoa d.seq)] 9 (0, 0))] :: [(b284, .cells #[S (point d.p0.group d.p0.index)] 9 (0, 0))] :: [(b252, .cells #[.int .u8 d.p0.group, .int .u8 d.p0.index] 37 (0, 0))] :: [(b198, .cells #[.int .u8 d.client.node, .int .u16 d.client.life, .int .u32 d.seq, .int .u8 d.depth, .int .u8 d.p0.group, .int .u8 d.p0.index, .int .u8 d.p1.group, .int .u8 d.p1.index, .int .u8 d.p2.group, .int .u8 d.p2.index] 40 (0, 0))] :: F) := h288.front 2 rfl
    refine q_append s286 rfl (Row.lit (E := 9) (size := 1) (n := 2) (b := b222) (xs := [S (point d.client.node d.client.life), S (Lib.itoa d.seq)]) rfl (by decide)) h289 rfl rfl und159 elem9 (news := [S (point d.p0.group d.p0.index)]) rfl (h289.rowI 1 0 (o := 0) rfl rfl rfl) rfl (by omega) (by omega) (fun a290 w292 ao294 cap295 c296 s291 r297 h293 => ?_)
    have h298 : Holds _ _ ([(b284, .cells #[S (point d.p0.group d.p0.index)] 9 (0, 0))] :: c296 :: [(b252, .cells #[.int .u8 d.p0.group, .int .u8 d.p0.index] 37 (0, 0))] :: [(b198, .cells #[.int .u8 d.client.node, .int .u16 d.client.life, .int .u32 d.seq, .int .u8 d.depth, .int .u8 d.p0.group, .int .u8 d.p0.index, .int .u8 d.p1.group, .int .u8 d.p1.index, .int .u8 d.p2.group, .int .u8 d.p2.index] 40 (0, 0))] :: F) := h293.front 1 rfl
    have h299 : Holds _ _ (c296 :: [(b252, .cells #[.int .u8 d.p0.group, .int .u8 d.p0.index] 37 (0, 0))] :: [(b198, .cells #[.int .u8 d.client.node, .int .u16 d.client.life, .int .u32 d.seq, .int .u8 d.depth, .int .u8 d.p0.group, .int .u8 d.p0.index, .int .u8 d.p1.group, .int .u8 d.p1.index, .int .u8 d.p2.group, .int .u8 d.p2.index] 40 (0, 0))] :: F) := h298.drop
    refine q_of s291 rfl (fun _ k => o_assign (s291.ev rfl) k) (fun a300 s301 => ?_)
    refine wpList_nil ?_
    refine x_blk_n ?_
    refine x_then_n ?_
    refine wp_region_lit ?_
    refine q_of s301 rfl (fun _ k => o_add (s301.ev rfl) (s301.ev rfl) (z := 1) rfl k) (fun a302 s303 => ?_)
    refine q_of s303 rfl (fun _ k => o_move (s303.ev rfl) k) (fun a304 s305 => ?_)
    refine wpList_nil ?_
    refine x_then_n ?_
    refine rounds_step (n := 2) ?_
    refine wp_seq ?_
    refine wp_region_lit ?_
    refine q_of s305 rfl (fun _ k => o_lss (s305.ev rfl) (s305.ev rfl) k) (fun a306 s307 => ?_)
    refine wpList_nil ?_
    refine x_then_n ?_
    refine wp_seq ?_
    refine q_ift s307 rfl rfl ?_
    refine wp_skip ?_
    refine x_then_n ?_
    refine wp_seq ?_
    refine wp_block ?_
    refine wp_seq ?_
    refine wp_region_lit ?_
    refine q_of s307 rfl (fun _ k => o_idxSm (s307.ev rfl) (s307.ev rfl) und167 sz37 (i := 1) rfl (by decide) rfl rfl (m := 6) rfl k) (fun a309 s310 => ?_)
    refine q_of s310 rfl (fun _ k => o_loadAgg (s310.ev rfl) ag37 sz37 (cs := [.int .u8 d.p1.group, .int .u8 d.p1.index]) rfl (h299.rowI 2 0 (cs := [.int .u8 d.p1.group, .int .u8 d.p1.index]) (o := 6) rfl rfl rfl) k) (fun a311 s312 => ?_)
    refine q_alloc s312 rfl h299 zero37 (fun a314 w316 b313 s315 h317 => ?_)
    refine q_store s315 rfl rfl sz37 rfl h317 (j := 0) rfl rfl rfl (cl := [.int .u8 d.p1.group, .int .u8 d.p1.index]) (by kernel_rfl) (fun a318 w320 s319 h321 => ?_)
    have h321 : Holds _ _ ([(b313, .cells #[.int .u8 d.p1.group, .int .u8 d.p1.index] 37 (0, 0))] :: c296 :: [(b252, .cells #[.int .u8 d.p0.group, .int .u8 d.p0.index] 37 (0, 0))] :: [(b198, .cells #[.int .u8 d.client.node, .int .u16 d.client.life, .int .u32 d.seq, .int .u8 d.depth, .int .u8 d.p0.group, .int .u8 d.p0.index, .int .u8 d.p1.group, .int .u8 d.p1.index, .int .u8 d.p2.group, .int .u8 d.p2.index] 40 (0, 0))] :: F) := h321
    refine wpList_nil ?_
    refine x_then_n ?_
    refine wp_region_lit ?_
    refine q_of s319 rfl (fun _ k => o_move (s319.ev rfl) k) (fun a322 s323 => ?_)
    refine q_of s323 rfl (fun _ k => o_fieldAddr (s323.ev rfl) off37_0 k) (fun a324 s325 => ?_)
    refine q_of s325 rfl (fun _ k => o_loadOne (s325.ev rfl) ag5 ((h321.rowI 0 0 (cs := [.int .u8 d.p1.group]) (o := 0) rfl rfl rfl) 0 _ rfl) k) (fun a326 s327 => ?_)
    refine q_of s327 rfl (fun _ k => o_conv (s327.ev rfl) und5 und3 (wrap_i64 (by omega) (by omega)) k) (fun a328 s329 => ?_)
    refine q_of s329 rfl (fun _ k => o_fieldAddr (s329.ev rfl) off37_1 k) (fun a330 s331 => ?_)
    refine q_of s331 rfl (fun _ k => o_loadOne (s331.ev rfl) ag5 ((h321.rowI 0 0 (cs := [.int .u8 d.p1.index]) (o := 1) rfl rfl rfl) 0 _ rfl) k) (fun a332 s333 => ?_)
    refine q_of s333 rfl (fun _ k => o_conv (s333.ev rfl) und5 und3 (wrap_i64 (by omega) (by omega)) k) (fun a334 s335 => ?_)
    refine q_call s335 rfl ok64 rfl (point_spec d.p1.group d.p1.index (by omega) (by omega) ht h321) (fun a336 w338 v343 G340 hs344 h339 hv342 s337 => ?_)
    subst hv342
    have ht := ht.mono hs344
    have hG341 := hG280.trans hs344
    have hL_960299 := point_len d.p1.group d.p1.index (by omega) (by omega)
    refine q_buildSlice s337 rfl h339 (vs := [(0, S (point d.p1.group d.p1.index))]) (cl := [S (point d.p1.group d.p1.index)]) (E := 9) rfl (fun w => by kernel_rfl) (fun a346 w348 b345 s347 h349 => ?_)
    have h349 : Holds _ _ ([(b345, .cells #[S (point d.p1.group d.p1.index)] 9 (0, 0))] :: [(b313, .cells #[.int .u8 d.p1.group, .int .u8 d.p1.index] 37 (0, 0))] :: c296 :: [(b252, .cells #[.int .u8 d.p0.group, .int .u8 d.p0.index] 37 (0, 0))] :: [(b198, .cells #[.int .u8 d.client.node, .int .u16 d.client.life, .int .u32 d.seq, .int .u8 d.depth, .int .u8 d.p0.group, .int .u8 d.p0.index, .int .u8 d.p1.group, .int .u8 d.p1.index, .int .u8 d.p2.group, .int .u8 d.p2.index] 40 (0, 0))] :: F) := h349
    have h350 : Holds _ _ (c296 :: [(b345, .cells #[S (point d.p1.group d.p1.index)] 9 (0, 0))] :: [(b313, .cells #[.int .u8 d.p1.group, .int .u8 d.p1.index] 37 (0, 0))] :: [(b252, .cells #[.int .u8 d.p0.group, .int .u8 d.p0.index] 37 (0, 0))] :: [(b198, .cells #[.int .u8 d.client.node, .int .u16 d.client.life, .int .u32 d.seq, .int .u8 d.depth, .int .u8 d.p0.group, .int .u8 d.p0.index, .int .u8 d.p1.group, .int .u8 d.p1.index, .int .u8 d.p2.group, .int .u8 d.p2.index] 40 (0, 0))] :: F) := h349.front 2 rfl
    refine q_append s347 rfl r297 h350 rfl rfl und159 elem9 (news := [S (point d.p1.group d.p1.index)]) rfl (h350.rowI 1 0 (o := 0) rfl rfl rfl) rfl (by omega) (by omega) (fun a351 w353 ao355 cap356 c357 s352 r358 h354 => ?_)
    have h359 : Holds _ _ ([(b345, .cells #[S (point d.p1.group d.p1.index)] 9 (0, 0))] :: c357 :: [(b313, .cells #[.int .u8 d.p1.group, .int .u8 d.p1.index] 37 (0, 0))] :: [(b252, .cells #[.int .u8 d.p0.group, .int .u8 d.p0.index] 37 (0, 0))] :: [(b198, .cells #[.int .u8 d.client.node, .int .u16 d.client.life, .int .u32 d.seq, .int .u8 d.depth, .int .u8 d.p0.group, .int .u8 d.p0.index, .int .u8 d.p1.group, .int .u8 d.p1.index, .int .u8 d.p2.group, .int .u8 d.p2.index] 40 (0, 0))] :: F) := h354.front 1 rfl
    have h360 : Holds _ _ (c357 :: [(b313, .cells #[.int .u8 d.p1.group, .int .u8 d.p1.index] 37 (0, 0))] :: [(b252, .cells #[.int .u8 d.p0.group, .int .u8 d.p0.index] 37 (0, 0))] :: [(b198, .cells #[.int .u8 d.client.node, .int .u16 d.client.life, .int .u32 d.seq, .int .u8 d.depth, .int .u8 d.p0.group, .int .u8 d.p0.index, .int .u8 d.p1.group, .int .u8 d.p1.index, .int .u8 d.p2.group, .int .u8 d.p2.index] 40 (0, 0))] :: F) := h359.drop
    refine q_of s352 rfl (fun _ k => o_assign (s352.ev rfl) k) (fun a361 s362 => ?_)
    refine wpList_nil ?_
    refine x_blk_n ?_
    refine x_then_n ?_
    refine wp_region_lit ?_
    refine q_of s362 rfl (fun _ k => o_add (s362.ev rfl) (s362.ev rfl) (z := 2) rfl k) (fun a363 s364 => ?_)
    refine q_of s364 rfl (fun _ k => o_move (s364.ev rfl) k) (fun a365 s366 => ?_)
    refine wpList_nil ?_
    refine x_then_n ?_
    refine rounds_step (n := 1) ?_
    refine wp_seq ?_
    refine wp_region_lit ?_
    refine q_of s366 rfl (fun _ k => o_lss (s366.ev rfl) (s366.ev rfl) k) (fun a367 s368 => ?_)
    refine wpList_nil ?_
    refine x_then_n ?_
    refine wp_seq ?_
    refine q_iff s368 rfl rfl ?_
    refine wp_exit ?_
    refine x_then_x ?_
    refine x_then_x ?_
    refine x_blk_x ?_
    refine x_then_n ?_
    refine wp_seq ?_
    refine wp_region_lit ?_
    refine q_of s368 rfl (fun _ k => o_move (s368.ev rfl) k) (fun a370 s371 => ?_)
    obtain ⟨G372, hs373, h374, hr375⟩ := Row.toG (enc := encS) (l := ([point d.client.node d.client.life, Lib.itoa d.seq] ++ [point d.p0.group d.p0.index]) ++ [point d.p1.group d.p1.index]) (fun _ => rfl) r358 rfl h360
    have ht := ht.mono hs373
    have hG376 := hG341.trans hs373
    refine q_call s371 rfl ok61 rfl (join_spec ao355 cap356 (([point d.client.node d.client.life, Lib.itoa d.seq] ++ [point d.p0.group d.p0.index]) ++ [point d.p1.group d.p1.index]) [47] hr375 (by first | exact hl | (refine Nat.le_trans (join_len _ _) ?_ ; simp only [List.map_append, List.map_cons, List.map_nil, List.sum_append, List.sum_cons, List.sum_nil, List.length_append, List.length_cons, List.length_nil] ; omega)) (by first | exact hn | (simp only [List.length_append, List.length_cons, List.length_nil] ; omega)) h374) (fun a377 w379 v384 G381 hs385 h380 hv383 s378 => ?_)
    subst hv383
    have ht := ht.mono hs385
    have hr375 := hr375.mono hs385
    have hG382 := hG376.trans hs385
    refine q_of s378 rfl (fun _ k => o_assign (s378.ev rfl) k) (fun a386 s387 => ?_)
    refine wpList_nil ?_
    refine x_then_n ?_
    refine wp_ret ?_
    refine fin1 s387 rfl rfl ⟨_, _, rfl, hG382, h380.drop.drop.drop, ?_⟩
    first | (unfold idText; rw [path0 d (by omega)]; rfl) | (unfold idText; rw [path1 d (by omega) (by omega)]; rfl) | (unfold idText; rw [path2 d (by omega) (by omega)]; rfl) | (unfold idText; rw [path3 d (by omega)]; rfl)
  ·
    refine wp_seq ?_
    refine wp_region_lit ?_
    refine q_box s0 rfl rfl h (fun a389 w391 b388 s390 h392 => ?_)
    have h392 : Holds _ _ ([(b388, .cells #[.int .u8 d.client.node, .int .u16 d.client.life, .int .u32 d.seq, .int .u8 d.depth, .int .u8 d.p0.group, .int .u8 d.p0.index, .int .u8 d.p1.group, .int .u8 d.p1.index, .int .u8 d.p2.group, .int .u8 d.p2.index] 40 (0, 0))] :: F) := h392
    refine q_of s390 rfl (fun _ k => o_assign (s390.ev rfl) k) (fun a393 s394 => ?_)
    refine wpList_nil ?_
    refine x_then_n ?_
    refine wp_seq ?_
    have hok : okX 44 [(1, .pointer (some ⟨b388, 0, none⟩)), (2, S [])] [(some 6, Fact.eq (.pointer (some ⟨b388, 0, none⟩))), (some 7, Fact.eq (.pointer (some ⟨b388, 0, none⟩))), (some 8, Fact.eq (.int .u8 d.client.node)), (some 9, Fact.eq (.int .i64 d.client.node)), (some 10, Fact.eq (.pointer (some ⟨b388, 0, none⟩))), (some 11, Fact.eq (.pointer (some ⟨b388, 1, none⟩))), (some 12, Fact.eq (.int .u16 d.client.life)), (some 13, Fact.eq (.int .i64 d.client.life)), (some 14, Fact.eq (S (point d.client.node d.client.life))), (some 15, Fact.eq (.pointer (some ⟨b388, 2, none⟩))), (some 16, Fact.eq (.int .u32 d.seq)), (some 17, Fact.eq (.int .i64 d.seq))] [] = true := rfl
    refine region_split 12 [1, 2, 3, 8, 5, 6, 7, 8, 12, 10, 11, 12, 13, 14] (N := 44) (L0 := [(1, .pointer (some ⟨b388, 0, none⟩)), (2, S [])]) (X := [(some 6, Fact.eq (.pointer (some ⟨b388, 0, none⟩))), (some 7, Fact.eq (.pointer (some ⟨b388, 0, none⟩))), (some 8, Fact.eq (.int .u8 d.client.node)), (some 9, Fact.eq (.int .i64 d.client.node)), (some 10, Fact.eq (.pointer (some ⟨b388, 0, none⟩))), (some 11, Fact.eq (.pointer (some ⟨b388, 1, none⟩))), (some 12, Fact.eq (.int .u16 d.client.life)), (some 13, Fact.eq (.int .i64 d.client.life)), (some 14, Fact.eq (S (point d.client.node d.client.life))), (some 15, Fact.eq (.pointer (some ⟨b388, 2, none⟩))), (some 16, Fact.eq (.int .u32 d.seq)), (some 17, Fact.eq (.int .i64 d.seq))]) (O := []) (HR := fun D a _ H => H = ([(b388, .cells #[.int .u8 d.client.node, .int .u16 d.client.life, .int .u32 d.seq, .int .u8 d.depth, .int .u8 d.p0.group, .int .u8 d.p0.index, .int .u8 d.p1.group, .int .u8 d.p1.index, .int .u8 d.p2.group, .int .u8 d.p2.index] 40 (0, 0))] :: F)) mixed rfl rfl rfl h392 rfl (s394.sub (all_cons rfl (all_cons rfl (all_nil)))) (fun i k t v hi => by simp at hi) ⟨?_, ?_, ?_, ?_, ?_, ?_, ?_, ?_, ?_, ?_, ?_, ?_, trivial⟩ (fun D a w G H hall j => ?_)
    · exact step_of rfl (fun D a w G H hR j => by (have s := j.sf ; exact o_fieldAddr (s.ev rfl) off40_0 (j.did hok rfl (GS.Le.refl _) j.holds j.hr rfl)))
    · exact step_of rfl (fun D a w G H hR j => by (have s := (j.sf.know _ _ (j.gotE 0 rfl (hR.was rfl 0 rfl))) ; exact o_fieldAddr (s.ev rfl) off36_0 (j.did hok rfl (GS.Le.refl _) j.holds j.hr rfl)))
    · exact step_of rfl (fun D a w G H hR j => by (have hH := j.hr ; subst H ; have s := (j.sf.know _ _ (j.gotE 1 rfl (hR.was rfl 1 rfl))) ; exact o_loadOne (s.ev rfl) ag5 ((j.holds.rowI 0 0 (cs := [.int .u8 d.client.node]) (o := 0) rfl rfl rfl) 0 _ rfl) (j.did hok rfl (GS.Le.refl _) j.holds j.hr rfl)))
    · exact step_of rfl (fun D a w G H hR j => by (have s := (j.sf.know _ _ (j.gotE 2 rfl (hR.was rfl 2 rfl))) ; exact o_conv (s.ev rfl) und5 und3 (wrap_i64 (by omega) (by omega)) (j.did hok rfl (GS.Le.refl _) j.holds j.hr rfl)))
    · exact step_of rfl (fun D a w G H hR j => by (have s := j.sf ; exact o_fieldAddr (s.ev rfl) off40_0 (j.did hok rfl (GS.Le.refl _) j.holds j.hr rfl)))
    · exact step_of rfl (fun D a w G H hR j => by (have s := (j.sf.know _ _ (j.gotE 4 rfl (hR.was rfl 4 rfl))) ; exact o_fieldAddr (s.ev rfl) off36_1 (j.did hok rfl (GS.Le.refl _) j.holds j.hr rfl)))
    · exact step_of rfl (fun D a w G H hR j => by (have hH := j.hr ; subst H ; have s := (j.sf.know _ _ (j.gotE 5 rfl (hR.was rfl 5 rfl))) ; exact o_loadOne (s.ev rfl) ag25 ((j.holds.rowI 0 0 (cs := [.int .u16 d.client.life]) (o := 1) rfl rfl rfl) 0 _ rfl) (j.did hok rfl (GS.Le.refl _) j.holds j.hr rfl)))
    · exact step_of rfl (fun D a w G H hR j => by (have s := (j.sf.know _ _ (j.gotE 6 rfl (hR.was rfl 6 rfl))) ; exact o_conv (s.ev rfl) und25 und3 (wrap_i64 (by omega) (by omega)) (j.did hok rfl (GS.Le.refl _) j.holds j.hr rfl)))
    · exact step_of rfl (fun D a w G H hR j => by (have s := ((j.sf.know _ _ (j.gotE 3 rfl (hR.was rfl 3 rfl))).know _ _ (j.gotE 7 rfl (hR.was rfl 7 rfl))) ; exact o_call s rfl ok64 (point_spec d.client.node d.client.life (by omega) (by omega) (ht.mono j.le) j.holds) (fun e w' ⟨v, G', he, hG, hh, hv⟩ => ⟨v, he, j.did hok rfl hG hh j.hr hv⟩)))
    · exact step_of rfl (fun D a w G H hR j => by (have s := j.sf ; exact o_fieldAddr (s.ev rfl) off40_1 (j.did hok rfl (GS.Le.refl _) j.holds j.hr rfl)))
    · exact step_of rfl (fun D a w G H hR j => by (have hH := j.hr ; subst H ; have s := (j.sf.know _ _ (j.gotE 9 rfl (hR.was rfl 9 rfl))) ; exact o_loadOne (s.ev rfl) ag28 ((j.holds.rowI 0 0 (cs := [.int .u32 d.seq]) (o := 2) rfl rfl rfl) 0 _ rfl) (j.did hok rfl (GS.Le.refl _) j.holds j.hr rfl)))
    · exact step_of rfl (fun D a w G H hR j => by (have s := (j.sf.know _ _ (j.gotE 10 rfl (hR.was rfl 10 rfl))) ; exact o_conv (s.ev rfl) und28 und3 (wrap_i64 (by omega) (by omega)) (j.did hok rfl (GS.Le.refl _) j.holds j.hr rfl)))
    have s396 := ((j.sf.know _ _ (j.gotE 8 rfl (hall 8 (by decide)))).know _ _ (j.gotE 11 rfl (hall 11 (by decide))))
    have hH := j.hr
    subst H
    have hle402 := j.le
    have ht := ht.mono hle402
    have hG400 := (GS.Le.refl _).trans hle402
    have h401 : Holds _ _ ([(b388, .cells #[.int .u8 d.client.node, .int .u16 d.client.life, .int .u32 d.seq, .int .u8 d.depth, .int .u8 d.p0.group, .int .u8 d.p0.index, .int .u8 d.p1.group, .int .u8 d.p1.index, .int .u8 d.p2.group, .int .u8 d.p2.index] 40 (0, 0))] :: F) := j.holds
    clear j hall hok
    refine q_call s396 rfl ok26 rfl (itoa_spec d.seq (by omega) ht h401) (fun a403 w405 v410 G407 hs411 h406 hv409 s404 => ?_)
    subst hv409
    have ht := ht.mono hs411
    have hG408 := hG400.trans hs411
    have hL_203868 := Lib.itoa_length_le d.seq (by omega) (by omega)
    refine q_buildSlice s404 rfl h406 (vs := [(0, S (point d.client.node d.client.life)), (1, S (Lib.itoa d.seq))]) (cl := [S (point d.client.node d.client.life), S (Lib.itoa d.seq)]) (E := 9) rfl (fun w => by kernel_rfl) (fun a413 w415 b412 s414 h416 => ?_)
    have h416 : Holds _ _ ([(b412, .cells #[S (point d.client.node d.client.life), S (Lib.itoa d.seq)] 9 (0, 0))] :: [(b388, .cells #[.int .u8 d.client.node, .int .u16 d.client.life, .int .u32 d.seq, .int .u8 d.depth, .int .u8 d.p0.group, .int .u8 d.p0.index, .int .u8 d.p1.group, .int .u8 d.p1.index, .int .u8 d.p2.group, .int .u8 d.p2.index] 40 (0, 0))] :: F) := h416
    refine q_of s414 rfl (fun _ k => o_assign (s414.ev rfl) k) (fun a417 s418 => ?_)
    refine wpList_nil ?_
    refine x_then_n ?_
    refine wp_seq ?_
    refine wp_seq ?_
    refine wp_region_lit ?_
    refine q_of s418 rfl (fun _ k => o_fieldAddr (s418.ev rfl) off40_3 k) (fun a419 s420 => ?_)
    refine q_of s420 rfl (fun _ k => o_fieldAddr (s420.ev rfl) off40_2 k) (fun a421 s422 => ?_)
    refine q_of s422 rfl (fun _ k => o_loadOne (s422.ev rfl) ag5 ((h416.rowI 1 0 (cs := [.int .u8 d.depth]) (o := 3) rfl rfl rfl) 0 _ rfl) k) (fun a423 s424 => ?_)
    refine q_of s424 rfl (fun _ k => o_conv (s424.ev rfl) und5 und3 (wrap_i64 (by omega) (by omega)) k) (fun a425 s426 => ?_)
    refine q_of s426 rfl (fun _ k => o_minz (s426.ev rfl) (s426.ev rfl) (z := 3) (by omega) k) (fun a427 s428 => ?_)
    refine q_of s428 rfl (fun _ k => o_sliceA (s428.ev rfl) (s428.ev rfl) und38 (m := 3) sz37 rfl (by decide) k) (fun a429 s430 => ?_)
    refine q_of s430 rfl (fun _ k => o_len (s430.ev rfl) und167 k) (fun a431 s432 => ?_)
    refine q_of s432 rfl (fun _ k => o_move (s432.ev rfl) k) (fun a433 s434 => ?_)
    refine wpList_nil ?_
    refine x_then_n ?_
    refine wp_block ?_
    refine wp_loop_rounds 4 ?_
    refine rounds_step (n := 3) ?_
    refine wp_seq ?_
    refine wp_region_lit ?_
    refine q_of s434 rfl (fun _ k => o_lss (s434.ev rfl) (s434.ev rfl) k) (fun a435 s436 => ?_)
    refine wpList_nil ?_
    refine x_then_n ?_
    refine wp_seq ?_
    refine q_ift s436 rfl rfl ?_
    refine wp_skip ?_
    refine x_then_n ?_
    refine wp_seq ?_
    refine wp_block ?_
    refine wp_seq ?_
    refine wp_region_lit ?_
    refine q_of s436 rfl (fun _ k => o_idxSm (s436.ev rfl) (s436.ev rfl) und167 sz37 (i := 0) rfl (by decide) rfl rfl (m := 4) rfl k) (fun a438 s439 => ?_)
    refine q_of s439 rfl (fun _ k => o_loadAgg (s439.ev rfl) ag37 sz37 (cs := [.int .u8 d.p0.group, .int .u8 d.p0.index]) rfl (h416.rowI 1 0 (cs := [.int .u8 d.p0.group, .int .u8 d.p0.index]) (o := 4) rfl rfl rfl) k) (fun a440 s441 => ?_)
    refine q_alloc s441 rfl h416 zero37 (fun a443 w445 b442 s444 h446 => ?_)
    refine q_store s444 rfl rfl sz37 rfl h446 (j := 0) rfl rfl rfl (cl := [.int .u8 d.p0.group, .int .u8 d.p0.index]) (by kernel_rfl) (fun a447 w449 s448 h450 => ?_)
    have h450 : Holds _ _ ([(b442, .cells #[.int .u8 d.p0.group, .int .u8 d.p0.index] 37 (0, 0))] :: [(b412, .cells #[S (point d.client.node d.client.life), S (Lib.itoa d.seq)] 9 (0, 0))] :: [(b388, .cells #[.int .u8 d.client.node, .int .u16 d.client.life, .int .u32 d.seq, .int .u8 d.depth, .int .u8 d.p0.group, .int .u8 d.p0.index, .int .u8 d.p1.group, .int .u8 d.p1.index, .int .u8 d.p2.group, .int .u8 d.p2.index] 40 (0, 0))] :: F) := h450
    refine wpList_nil ?_
    refine x_then_n ?_
    refine wp_region_lit ?_
    refine q_of s448 rfl (fun _ k => o_move (s448.ev rfl) k) (fun a451 s452 => ?_)
    refine q_of s452 rfl (fun _ k => o_fieldAddr (s452.ev rfl) off37_0 k) (fun a453 s454 => ?_)
    refine q_of s454 rfl (fun _ k => o_loadOne (s454.ev rfl) ag5 ((h450.rowI 0 0 (cs := [.int .u8 d.p0.group]) (o := 0) rfl rfl rfl) 0 _ rfl) k) (fun a455 s456 => ?_)
    refine q_of s456 rfl (fun _ k => o_conv (s456.ev rfl) und5 und3 (wrap_i64 (by omega) (by omega)) k) (fun a457 s458 => ?_)
    refine q_of s458 rfl (fun _ k => o_fieldAddr (s458.ev rfl) off37_1 k) (fun a459 s460 => ?_)
    refine q_of s460 rfl (fun _ k => o_loadOne (s460.ev rfl) ag5 ((h450.rowI 0 0 (cs := [.int .u8 d.p0.index]) (o := 1) rfl rfl rfl) 0 _ rfl) k) (fun a461 s462 => ?_)
    refine q_of s462 rfl (fun _ k => o_conv (s462.ev rfl) und5 und3 (wrap_i64 (by omega) (by omega)) k) (fun a463 s464 => ?_)
    refine q_call s464 rfl ok64 rfl (point_spec d.p0.group d.p0.index (by omega) (by omega) ht h450) (fun a465 w467 v472 G469 hs473 h468 hv471 s466 => ?_)
    subst hv471
    have ht := ht.mono hs473
    have hG470 := hG408.trans hs473
    have hL_738460 := point_len d.p0.group d.p0.index (by omega) (by omega)
    refine q_buildSlice s466 rfl h468 (vs := [(0, S (point d.p0.group d.p0.index))]) (cl := [S (point d.p0.group d.p0.index)]) (E := 9) rfl (fun w => by kernel_rfl) (fun a475 w477 b474 s476 h478 => ?_)
    have h478 : Holds _ _ ([(b474, .cells #[S (point d.p0.group d.p0.index)] 9 (0, 0))] :: [(b442, .cells #[.int .u8 d.p0.group, .int .u8 d.p0.index] 37 (0, 0))] :: [(b412, .cells #[S (point d.client.node d.client.life), S (Lib.itoa d.seq)] 9 (0, 0))] :: [(b388, .cells #[.int .u8 d.client.node, .int .u16 d.client.life, .int .u32 d.seq, .int .u8 d.depth, .int .u8 d.p0.group, .int .u8 d.p0.index, .int .u8 d.p1.group, .int .u8 d.p1.index, .int .u8 d.p2.group, .int .u8 d.p2.index] 40 (0, 0))] :: F) := h478
    have h479 : Holds _ _ ([(b412, .cells #[S (point d.client.node d.client.life), S (Lib.itoa d.seq)] 9 (0, 0))] :: [(b474, .cells #[S (point d.p0.group d.p0.index)] 9 (0, 0))] :: [(b442, .cells #[.int .u8 d.p0.group, .int .u8 d.p0.index] 37 (0, 0))] :: [(b388, .cells #[.int .u8 d.client.node, .int .u16 d.client.life, .int .u32 d.seq, .int .u8 d.depth, .int .u8 d.p0.group, .int .u8 d.p0.index, .int .u8 d.p1.group, .int .u8 d.p1.index, .int .u8 d.p2.group, .int .u8 d.p2.index] 40 (0, 0))] :: F) := h478.front 2 rfl
    refine q_append s476 rfl (Row.lit (E := 9) (size := 1) (n := 2) (b := b412) (xs := [S (point d.client.node d.client.life), S (Lib.itoa d.seq)]) rfl (by decide)) h479 rfl rfl und159 elem9 (news := [S (point d.p0.group d.p0.index)]) rfl (h479.rowI 1 0 (o := 0) rfl rfl rfl) rfl (by omega) (by omega) (fun a480 w482 ao484 cap485 c486 s481 r487 h483 => ?_)
    have h488 : Holds _ _ ([(b474, .cells #[S (point d.p0.group d.p0.index)] 9 (0, 0))] :: c486 :: [(b442, .cells #[.int .u8 d.p0.group, .int .u8 d.p0.index] 37 (0, 0))] :: [(b388, .cells #[.int .u8 d.client.node, .int .u16 d.client.life, .int .u32 d.seq, .int .u8 d.depth, .int .u8 d.p0.group, .int .u8 d.p0.index, .int .u8 d.p1.group, .int .u8 d.p1.index, .int .u8 d.p2.group, .int .u8 d.p2.index] 40 (0, 0))] :: F) := h483.front 1 rfl
    have h489 : Holds _ _ (c486 :: [(b442, .cells #[.int .u8 d.p0.group, .int .u8 d.p0.index] 37 (0, 0))] :: [(b388, .cells #[.int .u8 d.client.node, .int .u16 d.client.life, .int .u32 d.seq, .int .u8 d.depth, .int .u8 d.p0.group, .int .u8 d.p0.index, .int .u8 d.p1.group, .int .u8 d.p1.index, .int .u8 d.p2.group, .int .u8 d.p2.index] 40 (0, 0))] :: F) := h488.drop
    refine q_of s481 rfl (fun _ k => o_assign (s481.ev rfl) k) (fun a490 s491 => ?_)
    refine wpList_nil ?_
    refine x_blk_n ?_
    refine x_then_n ?_
    refine wp_region_lit ?_
    refine q_of s491 rfl (fun _ k => o_add (s491.ev rfl) (s491.ev rfl) (z := 1) rfl k) (fun a492 s493 => ?_)
    refine q_of s493 rfl (fun _ k => o_move (s493.ev rfl) k) (fun a494 s495 => ?_)
    refine wpList_nil ?_
    refine x_then_n ?_
    refine rounds_step (n := 2) ?_
    refine wp_seq ?_
    refine wp_region_lit ?_
    refine q_of s495 rfl (fun _ k => o_lss (s495.ev rfl) (s495.ev rfl) k) (fun a496 s497 => ?_)
    refine wpList_nil ?_
    refine x_then_n ?_
    refine wp_seq ?_
    refine q_ift s497 rfl rfl ?_
    refine wp_skip ?_
    refine x_then_n ?_
    refine wp_seq ?_
    refine wp_block ?_
    refine wp_seq ?_
    refine wp_region_lit ?_
    refine q_of s497 rfl (fun _ k => o_idxSm (s497.ev rfl) (s497.ev rfl) und167 sz37 (i := 1) rfl (by decide) rfl rfl (m := 6) rfl k) (fun a499 s500 => ?_)
    refine q_of s500 rfl (fun _ k => o_loadAgg (s500.ev rfl) ag37 sz37 (cs := [.int .u8 d.p1.group, .int .u8 d.p1.index]) rfl (h489.rowI 2 0 (cs := [.int .u8 d.p1.group, .int .u8 d.p1.index]) (o := 6) rfl rfl rfl) k) (fun a501 s502 => ?_)
    refine q_alloc s502 rfl h489 zero37 (fun a504 w506 b503 s505 h507 => ?_)
    refine q_store s505 rfl rfl sz37 rfl h507 (j := 0) rfl rfl rfl (cl := [.int .u8 d.p1.group, .int .u8 d.p1.index]) (by kernel_rfl) (fun a508 w510 s509 h511 => ?_)
    have h511 : Holds _ _ ([(b503, .cells #[.int .u8 d.p1.group, .int .u8 d.p1.index] 37 (0, 0))] :: c486 :: [(b442, .cells #[.int .u8 d.p0.group, .int .u8 d.p0.index] 37 (0, 0))] :: [(b388, .cells #[.int .u8 d.client.node, .int .u16 d.client.life, .int .u32 d.seq, .int .u8 d.depth, .int .u8 d.p0.group, .int .u8 d.p0.index, .int .u8 d.p1.group, .int .u8 d.p1.index, .int .u8 d.p2.group, .int .u8 d.p2.index] 40 (0, 0))] :: F) := h511
    refine wpList_nil ?_
    refine x_then_n ?_
    refine wp_region_lit ?_
    refine q_of s509 rfl (fun _ k => o_move (s509.ev rfl) k) (fun a512 s513 => ?_)
    refine q_of s513 rfl (fun _ k => o_fieldAddr (s513.ev rfl) off37_0 k) (fun a514 s515 => ?_)
    refine q_of s515 rfl (fun _ k => o_loadOne (s515.ev rfl) ag5 ((h511.rowI 0 0 (cs := [.int .u8 d.p1.group]) (o := 0) rfl rfl rfl) 0 _ rfl) k) (fun a516 s517 => ?_)
    refine q_of s517 rfl (fun _ k => o_conv (s517.ev rfl) und5 und3 (wrap_i64 (by omega) (by omega)) k) (fun a518 s519 => ?_)
    refine q_of s519 rfl (fun _ k => o_fieldAddr (s519.ev rfl) off37_1 k) (fun a520 s521 => ?_)
    refine q_of s521 rfl (fun _ k => o_loadOne (s521.ev rfl) ag5 ((h511.rowI 0 0 (cs := [.int .u8 d.p1.index]) (o := 1) rfl rfl rfl) 0 _ rfl) k) (fun a522 s523 => ?_)
    refine q_of s523 rfl (fun _ k => o_conv (s523.ev rfl) und5 und3 (wrap_i64 (by omega) (by omega)) k) (fun a524 s525 => ?_)
    refine q_call s525 rfl ok64 rfl (point_spec d.p1.group d.p1.index (by omega) (by omega) ht h511) (fun a526 w528 v533 G530 hs534 h529 hv532 s527 => ?_)
    subst hv532
    have ht := ht.mono hs534
    have hG531 := hG470.trans hs534
    have hL_960299 := point_len d.p1.group d.p1.index (by omega) (by omega)
    refine q_buildSlice s527 rfl h529 (vs := [(0, S (point d.p1.group d.p1.index))]) (cl := [S (point d.p1.group d.p1.index)]) (E := 9) rfl (fun w => by kernel_rfl) (fun a536 w538 b535 s537 h539 => ?_)
    have h539 : Holds _ _ ([(b535, .cells #[S (point d.p1.group d.p1.index)] 9 (0, 0))] :: [(b503, .cells #[.int .u8 d.p1.group, .int .u8 d.p1.index] 37 (0, 0))] :: c486 :: [(b442, .cells #[.int .u8 d.p0.group, .int .u8 d.p0.index] 37 (0, 0))] :: [(b388, .cells #[.int .u8 d.client.node, .int .u16 d.client.life, .int .u32 d.seq, .int .u8 d.depth, .int .u8 d.p0.group, .int .u8 d.p0.index, .int .u8 d.p1.group, .int .u8 d.p1.index, .int .u8 d.p2.group, .int .u8 d.p2.index] 40 (0, 0))] :: F) := h539
    have h540 : Holds _ _ (c486 :: [(b535, .cells #[S (point d.p1.group d.p1.index)] 9 (0, 0))] :: [(b503, .cells #[.int .u8 d.p1.group, .int .u8 d.p1.index] 37 (0, 0))] :: [(b442, .cells #[.int .u8 d.p0.group, .int .u8 d.p0.index] 37 (0, 0))] :: [(b388, .cells #[.int .u8 d.client.node, .int .u16 d.client.life, .int .u32 d.seq, .int .u8 d.depth, .int .u8 d.p0.group, .int .u8 d.p0.index, .int .u8 d.p1.group, .int .u8 d.p1.index, .int .u8 d.p2.group, .int .u8 d.p2.index] 40 (0, 0))] :: F) := h539.front 2 rfl
    refine q_append s537 rfl r487 h540 rfl rfl und159 elem9 (news := [S (point d.p1.group d.p1.index)]) rfl (h540.rowI 1 0 (o := 0) rfl rfl rfl) rfl (by omega) (by omega) (fun a541 w543 ao545 cap546 c547 s542 r548 h544 => ?_)
    have h549 : Holds _ _ ([(b535, .cells #[S (point d.p1.group d.p1.index)] 9 (0, 0))] :: c547 :: [(b503, .cells #[.int .u8 d.p1.group, .int .u8 d.p1.index] 37 (0, 0))] :: [(b442, .cells #[.int .u8 d.p0.group, .int .u8 d.p0.index] 37 (0, 0))] :: [(b388, .cells #[.int .u8 d.client.node, .int .u16 d.client.life, .int .u32 d.seq, .int .u8 d.depth, .int .u8 d.p0.group, .int .u8 d.p0.index, .int .u8 d.p1.group, .int .u8 d.p1.index, .int .u8 d.p2.group, .int .u8 d.p2.index] 40 (0, 0))] :: F) := h544.front 1 rfl
    have h550 : Holds _ _ (c547 :: [(b503, .cells #[.int .u8 d.p1.group, .int .u8 d.p1.index] 37 (0, 0))] :: [(b442, .cells #[.int .u8 d.p0.group, .int .u8 d.p0.index] 37 (0, 0))] :: [(b388, .cells #[.int .u8 d.client.node, .int .u16 d.client.life, .int .u32 d.seq, .int .u8 d.depth, .int .u8 d.p0.group, .int .u8 d.p0.index, .int .u8 d.p1.group, .int .u8 d.p1.index, .int .u8 d.p2.group, .int .u8 d.p2.index] 40 (0, 0))] :: F) := h549.drop
    refine q_of s542 rfl (fun _ k => o_assign (s542.ev rfl) k) (fun a551 s552 => ?_)
    refine wpList_nil ?_
    refine x_blk_n ?_
    refine x_then_n ?_
    refine wp_region_lit ?_
    refine q_of s552 rfl (fun _ k => o_add (s552.ev rfl) (s552.ev rfl) (z := 2) rfl k) (fun a553 s554 => ?_)
    refine q_of s554 rfl (fun _ k => o_move (s554.ev rfl) k) (fun a555 s556 => ?_)
    refine wpList_nil ?_
    refine x_then_n ?_
    refine rounds_step (n := 1) ?_
    refine wp_seq ?_
    refine wp_region_lit ?_
    refine q_of s556 rfl (fun _ k => o_lss (s556.ev rfl) (s556.ev rfl) k) (fun a557 s558 => ?_)
    refine wpList_nil ?_
    refine x_then_n ?_
    refine wp_seq ?_
    refine q_ift s558 rfl rfl ?_
    refine wp_skip ?_
    refine x_then_n ?_
    refine wp_seq ?_
    refine wp_block ?_
    refine wp_seq ?_
    refine wp_region_lit ?_
    refine q_of s558 rfl (fun _ k => o_idxSm (s558.ev rfl) (s558.ev rfl) und167 sz37 (i := 2) rfl (by decide) rfl rfl (m := 8) rfl k) (fun a560 s561 => ?_)
    refine q_of s561 rfl (fun _ k => o_loadAgg (s561.ev rfl) ag37 sz37 (cs := [.int .u8 d.p2.group, .int .u8 d.p2.index]) rfl (h550.rowI 3 0 (cs := [.int .u8 d.p2.group, .int .u8 d.p2.index]) (o := 8) rfl rfl rfl) k) (fun a562 s563 => ?_)
    refine q_alloc s563 rfl h550 zero37 (fun a565 w567 b564 s566 h568 => ?_)
    refine q_store s566 rfl rfl sz37 rfl h568 (j := 0) rfl rfl rfl (cl := [.int .u8 d.p2.group, .int .u8 d.p2.index]) (by kernel_rfl) (fun a569 w571 s570 h572 => ?_)
    have h572 : Holds _ _ ([(b564, .cells #[.int .u8 d.p2.group, .int .u8 d.p2.index] 37 (0, 0))] :: c547 :: [(b503, .cells #[.int .u8 d.p1.group, .int .u8 d.p1.index] 37 (0, 0))] :: [(b442, .cells #[.int .u8 d.p0.group, .int .u8 d.p0.index] 37 (0, 0))] :: [(b388, .cells #[.int .u8 d.client.node, .int .u16 d.client.life, .int .u32 d.seq, .int .u8 d.depth, .int .u8 d.p0.group, .int .u8 d.p0.index, .int .u8 d.p1.group, .int .u8 d.p1.index, .int .u8 d.p2.group, .int .u8 d.p2.index] 40 (0, 0))] :: F) := h572
    refine wpList_nil ?_
    refine x_then_n ?_
    refine wp_region_lit ?_
    refine q_of s570 rfl (fun _ k => o_move (s570.ev rfl) k) (fun a573 s574 => ?_)
    refine q_of s574 rfl (fun _ k => o_fieldAddr (s574.ev rfl) off37_0 k) (fun a575 s576 => ?_)
    refine q_of s576 rfl (fun _ k => o_loadOne (s576.ev rfl) ag5 ((h572.rowI 0 0 (cs := [.int .u8 d.p2.group]) (o := 0) rfl rfl rfl) 0 _ rfl) k) (fun a577 s578 => ?_)
    refine q_of s578 rfl (fun _ k => o_conv (s578.ev rfl) und5 und3 (wrap_i64 (by omega) (by omega)) k) (fun a579 s580 => ?_)
    refine q_of s580 rfl (fun _ k => o_fieldAddr (s580.ev rfl) off37_1 k) (fun a581 s582 => ?_)
    refine q_of s582 rfl (fun _ k => o_loadOne (s582.ev rfl) ag5 ((h572.rowI 0 0 (cs := [.int .u8 d.p2.index]) (o := 1) rfl rfl rfl) 0 _ rfl) k) (fun a583 s584 => ?_)
    refine q_of s584 rfl (fun _ k => o_conv (s584.ev rfl) und5 und3 (wrap_i64 (by omega) (by omega)) k) (fun a585 s586 => ?_)
    refine q_call s586 rfl ok64 rfl (point_spec d.p2.group d.p2.index (by omega) (by omega) ht h572) (fun a587 w589 v594 G591 hs595 h590 hv593 s588 => ?_)
    subst hv593
    have ht := ht.mono hs595
    have hG592 := hG531.trans hs595
    have hL_726770 := point_len d.p2.group d.p2.index (by omega) (by omega)
    refine q_buildSlice s588 rfl h590 (vs := [(0, S (point d.p2.group d.p2.index))]) (cl := [S (point d.p2.group d.p2.index)]) (E := 9) rfl (fun w => by kernel_rfl) (fun a597 w599 b596 s598 h600 => ?_)
    have h600 : Holds _ _ ([(b596, .cells #[S (point d.p2.group d.p2.index)] 9 (0, 0))] :: [(b564, .cells #[.int .u8 d.p2.group, .int .u8 d.p2.index] 37 (0, 0))] :: c547 :: [(b503, .cells #[.int .u8 d.p1.group, .int .u8 d.p1.index] 37 (0, 0))] :: [(b442, .cells #[.int .u8 d.p0.group, .int .u8 d.p0.index] 37 (0, 0))] :: [(b388, .cells #[.int .u8 d.client.node, .int .u16 d.client.life, .int .u32 d.seq, .int .u8 d.depth, .int .u8 d.p0.group, .int .u8 d.p0.index, .int .u8 d.p1.group, .int .u8 d.p1.index, .int .u8 d.p2.group, .int .u8 d.p2.index] 40 (0, 0))] :: F) := h600
    have h601 : Holds _ _ (c547 :: [(b596, .cells #[S (point d.p2.group d.p2.index)] 9 (0, 0))] :: [(b564, .cells #[.int .u8 d.p2.group, .int .u8 d.p2.index] 37 (0, 0))] :: [(b503, .cells #[.int .u8 d.p1.group, .int .u8 d.p1.index] 37 (0, 0))] :: [(b442, .cells #[.int .u8 d.p0.group, .int .u8 d.p0.index] 37 (0, 0))] :: [(b388, .cells #[.int .u8 d.client.node, .int .u16 d.client.life, .int .u32 d.seq, .int .u8 d.depth, .int .u8 d.p0.group, .int .u8 d.p0.index, .int .u8 d.p1.group, .int .u8 d.p1.index, .int .u8 d.p2.group, .int .u8 d.p2.index] 40 (0, 0))] :: F) := h600.front 2 rfl
    refine q_append s598 rfl r548 h601 rfl rfl und159 elem9 (news := [S (point d.p2.group d.p2.index)]) rfl (h601.rowI 1 0 (o := 0) rfl rfl rfl) rfl (by omega) (by omega) (fun a602 w604 ao606 cap607 c608 s603 r609 h605 => ?_)
    have h610 : Holds _ _ ([(b596, .cells #[S (point d.p2.group d.p2.index)] 9 (0, 0))] :: c608 :: [(b564, .cells #[.int .u8 d.p2.group, .int .u8 d.p2.index] 37 (0, 0))] :: [(b503, .cells #[.int .u8 d.p1.group, .int .u8 d.p1.index] 37 (0, 0))] :: [(b442, .cells #[.int .u8 d.p0.group, .int .u8 d.p0.index] 37 (0, 0))] :: [(b388, .cells #[.int .u8 d.client.node, .int .u16 d.client.life, .int .u32 d.seq, .int .u8 d.depth, .int .u8 d.p0.group, .int .u8 d.p0.index, .int .u8 d.p1.group, .int .u8 d.p1.index, .int .u8 d.p2.group, .int .u8 d.p2.index] 40 (0, 0))] :: F) := h605.front 1 rfl
    have h611 : Holds _ _ (c608 :: [(b564, .cells #[.int .u8 d.p2.group, .int .u8 d.p2.index] 37 (0, 0))] :: [(b503, .cells #[.int .u8 d.p1.group, .int .u8 d.p1.index] 37 (0, 0))] :: [(b442, .cells #[.int .u8 d.p0.group, .int .u8 d.p0.index] 37 (0, 0))] :: [(b388, .cells #[.int .u8 d.client.node, .int .u16 d.client.life, .int .u32 d.seq, .int .u8 d.depth, .int .u8 d.p0.group, .int .u8 d.p0.index, .int .u8 d.p1.group, .int .u8 d.p1.index, .int .u8 d.p2.group, .int .u8 d.p2.index] 40 (0, 0))] :: F) := h610.drop
    refine q_of s603 rfl (fun _ k => o_assign (s603.ev rfl) k) (fun a612 s613 => ?_)
    refine wpList_nil ?_
    refine x_blk_n ?_
    refine x_then_n ?_
    refine wp_region_lit ?_
    refine q_of s613 rfl (fun _ k => o_add (s613.ev rfl) (s613.ev rfl) (z := 3) rfl k) (fun a614 s615 => ?_)
    refine q_of s615 rfl (fun _ k => o_move (s615.ev rfl) k) (fun a616 s617 => ?_)
    refine wpList_nil ?_
    refine x_then_n ?_
    refine rounds_step (n := 0) ?_
    refine wp_seq ?_
    refine wp_region_lit ?_
    refine q_of s617 rfl (fun _ k => o_lss (s617.ev rfl) (s617.ev rfl) k) (fun a618 s619 => ?_)
    refine wpList_nil ?_
    refine x_then_n ?_
    refine wp_seq ?_
    refine q_iff s619 rfl rfl ?_
    refine wp_exit ?_
    refine x_then_x ?_
    refine x_then_x ?_
    refine x_blk_x ?_
    refine x_then_n ?_
    refine wp_seq ?_
    refine wp_region_lit ?_
    refine q_of s619 rfl (fun _ k => o_move (s619.ev rfl) k) (fun a621 s622 => ?_)
    obtain ⟨G623, hs624, h625, hr626⟩ := Row.toG (enc := encS) (l := (([point d.client.node d.client.life, Lib.itoa d.seq] ++ [point d.p0.group d.p0.index]) ++ [point d.p1.group d.p1.index]) ++ [point d.p2.group d.p2.index]) (fun _ => rfl) r609 rfl h611
    have ht := ht.mono hs624
    have hG627 := hG592.trans hs624
    refine q_call s622 rfl ok61 rfl (join_spec ao606 cap607 ((([point d.client.node d.client.life, Lib.itoa d.seq] ++ [point d.p0.group d.p0.index]) ++ [point d.p1.group d.p1.index]) ++ [point d.p2.group d.p2.index]) [47] hr626 (by first | exact hl | (refine Nat.le_trans (join_len _ _) ?_ ; simp only [List.map_append, List.map_cons, List.map_nil, List.sum_append, List.sum_cons, List.sum_nil, List.length_append, List.length_cons, List.length_nil] ; omega)) (by first | exact hn | (simp only [List.length_append, List.length_cons, List.length_nil] ; omega)) h625) (fun a628 w630 v635 G632 hs636 h631 hv634 s629 => ?_)
    subst hv634
    have ht := ht.mono hs636
    have hr626 := hr626.mono hs636
    have hG633 := hG627.trans hs636
    refine q_of s629 rfl (fun _ k => o_assign (s629.ev rfl) k) (fun a637 s638 => ?_)
    refine wpList_nil ?_
    refine x_then_n ?_
    refine wp_ret ?_
    refine fin1 s638 rfl rfl ⟨_, _, rfl, hG633, h631.drop.drop.drop.drop, ?_⟩
    first | (unfold idText; rw [path0 d (by omega)]; rfl) | (unfold idText; rw [path1 d (by omega) (by omega)]; rfl) | (unfold idText; rw [path2 d (by omega) (by omega)]; rfl) | (unfold idText; rw [path3 d (by omega)]; rfl)

theorem line_spec {p_T p : Nat} {p_l : List UInt8} {p_k : Chunk} (ws_a : Option Addr) (ws_c : Nat) (ws : List (List UInt8)) {G : GS} {w : World} {F : List Chunk} (h_p_T : BldT p_T) (h_p : BuildC p_T p p_l p_k) (h_ws : RdF encS 1 G.M ws_a ws_c ws) (hl : (Lib.join ws [32]).length ≤ 140737488355328) (hn : ws.length ≤ 140737488355328) (hb : p_l.length + (Lib.join ws [32]).length + 1 ≤ 140737488355328) (h : Holds G w (p_k :: F)) :
    Calls Tryd.prog 24 #[.pointer (some ⟨p, 0, none⟩), .slice ws_a ws.length ws_c] w (RetO G F fun G v c1 => v = .tuple #[] ∧ BuildC p_T p (p_l ++ Lib.join ws [32] ++ [10]) c1) := by
  refine enter (N := 14) (L := [(0, .pointer (some ⟨p, 0, none⟩)), (1, .slice ws_a ws.length ws_c)]) rfl Tryd.func24 rfl rfl rfl (fun a0 s0 => ?_)
  refine wp_seq ?_
  have hok : okX 14 [(0, .pointer (some ⟨p, 0, none⟩)), (1, .slice ws_a ws.length ws_c)] [(some 4, Fact.eq (.pointer (some ⟨p, 0, none⟩))), (some 5, Fact.eq (.pointer (some ⟨p, 0, none⟩))), (some 6, Fact.eq (.pointer (some ⟨p, 0, none⟩))), (some 7, Fact.eq (.slice ws_a ws.length ws_c)), (some 8, Fact.eq (S (Lib.join ws [32])))] [] = true := rfl
  refine region_split 5 [1, 2, 5, 4, 5] (N := 14) (L0 := [(0, .pointer (some ⟨p, 0, none⟩)), (1, .slice ws_a ws.length ws_c)]) (X := [(some 4, Fact.eq (.pointer (some ⟨p, 0, none⟩))), (some 5, Fact.eq (.pointer (some ⟨p, 0, none⟩))), (some 6, Fact.eq (.pointer (some ⟨p, 0, none⟩))), (some 7, Fact.eq (.slice ws_a ws.length ws_c)), (some 8, Fact.eq (S (Lib.join ws [32])))]) (O := []) (HR := fun D a _ H => H = (p_k :: F)) mixed rfl rfl rfl h rfl (s0.sub (all_cons rfl (all_cons rfl (all_nil)))) (fun i k t v hi => by simp at hi) ⟨?_, ?_, ?_, ?_, ?_, trivial⟩ (fun D a w G H hall j => ?_)
  · exact step_of rfl (fun D a w G H hR j => by (have s := j.sf ; exact o_move (s.ev rfl) (j.did hok rfl (GS.Le.refl _) j.holds j.hr rfl)))
  · exact step_of rfl (fun D a w G H hR j => by (have s := (j.sf.know _ _ (j.gotE 0 rfl (hR.was rfl 0 rfl))) ; exact o_nil (s.ev rfl) rfl (j.did hok rfl (GS.Le.refl _) j.holds j.hr rfl)))
  · exact step_of rfl (fun D a w G H hR j => by (have s := (j.sf.know _ _ (j.gotE 1 rfl (hR.was rfl 1 rfl))) ; exact o_fieldAddr (s.ev rfl) off84_0 (j.did hok rfl (GS.Le.refl _) j.holds j.hr rfl)))
  · exact step_of rfl (fun D a w G H hR j => by (have s := j.sf ; exact o_move (s.ev rfl) (j.did hok rfl (GS.Le.refl _) j.holds j.hr rfl)))
  · exact step_of rfl (fun D a w G H hR j => by (have s := (j.sf.know _ _ (j.gotE 3 rfl (hR.was rfl 3 rfl))) ; exact o_call s rfl ok61 (join_spec ws_a ws_c ws [32] (h_ws.mono j.le) (by first | exact hl | (refine Nat.le_trans (join_len _ _) ?_ ; simp only [List.map_append, List.map_cons, List.map_nil, List.sum_append, List.sum_cons, List.sum_nil, List.length_append, List.length_cons, List.length_nil] ; omega)) (by first | exact hn | (simp only [List.length_append, List.length_cons, List.length_nil] ; omega)) j.holds) (fun e w' ⟨v, G', he, hG, hh, hv⟩ => ⟨v, he, j.did hok rfl hG hh j.hr hv⟩)))
  have s2 := ((j.sf.know _ _ (j.gotE 2 rfl (hall 2 (by decide)))).know _ _ (j.gotE 4 rfl (hall 4 (by decide))))
  have hH := j.hr
  subst H
  have hle8 := j.le
  have h_ws := h_ws.mono hle8
  have hG6 := (GS.Le.refl _).trans hle8
  have h7 : Holds _ _ (p_k :: F) := j.holds
  clear j hall hok
  refine q_callO s2 rfl ok34 rfl (bStr_spec (Lib.join ws [32]) h_p_T h_p (by first | omega | (simp only [List.length_append, List.length_cons, List.length_nil] ; omega)) h7) (fun a9 w11 v16 G13 c18 hs17 h12 hv15 s10 => ?_)
  obtain ⟨v16e, hb19⟩ := hv15
  subst v16e
  have h_ws := h_ws.mono hs17
  have hG14 := hG6.trans hs17
  refine wpList_nil ?_
  refine x_then_n ?_
  refine wp_region_lit ?_
  refine q_of s10 rfl (fun _ k => o_move (s10.ev rfl) k) (fun a20 s21 => ?_)
  refine q_of s21 rfl (fun _ k => o_nil (s21.ev rfl) rfl k) (fun a22 s23 => ?_)
  refine q_of s23 rfl (fun _ k => o_fieldAddr (s23.ev rfl) off84_0 k) (fun a24 s25 => ?_)
  refine q_callO s25 rfl ok62 rfl (bByte_spec 10 h_p_T hb19 (by omega) (by first | omega | (simp only [List.length_append, List.length_cons, List.length_nil] ; omega)) h12) (fun a26 w28 v33 G30 c35 hs34 h29 hv32 s27 => ?_)
  obtain ⟨v33e, hb36⟩ := hv32
  subst v33e
  have h_ws := h_ws.mono hs34
  have hG31 := hG14.trans hs34
  refine wpList_nil ?_
  exact fin0n s27 rfl ⟨_, _, _, rfl, hG31, h29, rfl, hb36⟩
end Go.Proofs.YtediojjcoohhoaaDoor
