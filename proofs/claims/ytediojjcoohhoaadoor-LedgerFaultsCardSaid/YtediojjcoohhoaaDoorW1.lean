/- Walks of the program's functions, printed by a program. No condition beyond each theorem's own. -/
import Derived.Test.YtediojjcoohhoaaDoorChecked
import Derived.Test.YtediojjcoohhoaaDoorDat
import Derived.KernelRfl
namespace Go.Proofs.YtediojjcoohhoaaDoor
open Go Go.RowKit Go.Eng
set_option linter.unusedVariables false
set_option linter.unnecessarySimpa false
set_option maxHeartbeats 4000000
set_option maxRecDepth 100000
theorem ag25 : isAg Tryd.prog 25 = some false := by kernel_rfl
theorem ag27 : isAg Tryd.prog 27 = some true := by kernel_rfl
theorem ag28 : isAg Tryd.prog 28 = some false := by kernel_rfl
theorem ag36 : isAg Tryd.prog 36 = some true := by kernel_rfl
theorem ag40 : isAg Tryd.prog 40 = some true := by kernel_rfl
theorem ag5 : isAg Tryd.prog 5 = some false := by kernel_rfl
theorem ag79 : isAg Tryd.prog 79 = some false := by kernel_rfl
theorem ag80 : isAg Tryd.prog 80 = some false := by kernel_rfl
theorem elem5 : elemOk Tryd.prog 5 1 1 = true := by kernel_rfl
theorem mixed : Tryd.prog.follows .mixedOrders = true := by kernel_rfl
theorem off27_0 : fOff Tryd.prog 27 0 = some 0 := by kernel_rfl
theorem off27_1 : fOff Tryd.prog 27 1 = some 1 := by kernel_rfl
theorem off30_0 : fOff Tryd.prog 30 0 = some 0 := by kernel_rfl
theorem off30_1 : fOff Tryd.prog 30 1 = some 1 := by kernel_rfl
theorem off33_0 : fOff Tryd.prog 33 0 = some 0 := by kernel_rfl
theorem off33_1 : fOff Tryd.prog 33 1 = some 2 := by kernel_rfl
theorem off33_2 : fOff Tryd.prog 33 2 = some 3 := by kernel_rfl
theorem off33_3 : fOff Tryd.prog 33 3 = some 4 := by kernel_rfl
theorem off40_3 : fOff Tryd.prog 40 3 = some 4 := by kernel_rfl
theorem off82_0 : fOff Tryd.prog 82 0 = some 0 := by kernel_rfl
theorem off82_1 : fOff Tryd.prog 82 1 = some 1 := by kernel_rfl
theorem ok23 : okF Tryd.prog 23 = some (false, false) := by kernel_rfl
theorem ok67 : okF Tryd.prog 67 = some (false, false) := by kernel_rfl
theorem some82 : (Tryd.prog.info? 82).isSome = true := by kernel_rfl
theorem sz27 : szOf Tryd.prog 27 = some 2 := by kernel_rfl
theorem sz30 : szOf Tryd.prog 30 = some 2 := by kernel_rfl
theorem sz36 : szOf Tryd.prog 36 = some 2 := by kernel_rfl
theorem sz37 : szOf Tryd.prog 37 = some 2 := by kernel_rfl
theorem sz40 : szOf Tryd.prog 40 = some 10 := by kernel_rfl
theorem sz79 : szOf Tryd.prog 79 = some 1 := by kernel_rfl
theorem sz80 : szOf Tryd.prog 80 = some 1 := by kernel_rfl
theorem sz82 : szOf Tryd.prog 82 = some 2 := by kernel_rfl
theorem und168 : Tryd.prog.underlying 168 = some (.pointer 5) := by kernel_rfl
theorem und199 : Tryd.prog.underlying 199 = some .unsafePointer := by kernel_rfl
theorem und31 : Tryd.prog.underlying 31 = some (.array 3 30) := by kernel_rfl
theorem und38 : Tryd.prog.underlying 38 = some (.array 3 37) := by kernel_rfl
theorem und79 : Tryd.prog.underlying 79 = some (.pointer 82) := by kernel_rfl
theorem und80 : Tryd.prog.underlying 80 = some (.slice 5) := by kernel_rfl
theorem und9 : Tryd.prog.underlying 9 = some .string := by kernel_rfl
theorem zero36 : zeroC Tryd.prog 36 = some #[.int .u8 0, .int .u16 0] := by kernel_rfl
theorem zero40 : zeroC Tryd.prog 40 = some #[.int .u8 0, .int .u16 0, .int .u32 0, .int .u8 0, .int .u8 0, .int .u8 0, .int .u8 0, .int .u8 0, .int .u8 0, .int .u8 0] := by kernel_rfl
theorem zv5 : (Tryd.prog.info? 5).bind (fun i => i.zero) = some (.int .u8 0) := by kernel_rfl

abbrev BldT (T : Nat) : Prop := liesAt Tryd.prog Tryd.prog.depth T (2 / Tryd.prog.cellsOf T) 0 82 1 = true
theorem bEmpty (l : List UInt8) {ao : Option Addr} {cap : Nat} {c : Chunk} (r : Row 5 1 ao l.length cap (l.map u8) c) (h : l = [] → ao = none) : (l = [] ∧ ao = none ∧ cap = 0) ∨ ∃ g, ao = some ⟨g, 0, none⟩ ∧ cap ≠ 0 ∧ l ≠ [] := by
  rcases r.form with ⟨h1, h2, h3, _⟩ | ⟨g, cur, h1, _, h2, _⟩
  · exact .inl ⟨List.eq_nil_of_length_eq_zero h2, h1, h3⟩
  · have hne : l ≠ [] := fun e => by rw [h e] at h1; cases h1
    have : 0 < l.length := List.length_pos_iff.2 hne
    exact .inr ⟨g, h1, by omega, hne⟩
theorem law2Proc_spec (p : Proc) {G : GS} {w : World} {F : List Chunk} (h_p : p.ok) (h : Holds G w F) :
    Calls Tryd.prog 23 #[.agg #[.int .u8 p.node, .int .u16 p.life]] w (Ret G F fun G v => v = .agg #[.int .u8 p.node, .int .u16 p.life]) := by
  refine enter (N := 8) (L := [(0, .agg #[.int .u8 p.node, .int .u16 p.life])]) rfl Tryd.func23 rfl rfl rfl (fun a0 s0 => ?_)
  refine wp_seq ?_
  refine wp_region_lit ?_
  refine q_box s0 rfl rfl h (fun a2 w4 b1 s3 h5 => ?_)
  have h5 : Holds _ _ ([(b1, .cells #[.int .u8 p.node, .int .u16 p.life] 27 (0, 0))] :: F) := h5
  refine q_alloc s3 rfl h5 zero36 (fun a7 w9 b6 s8 h10 => ?_)
  refine wpList_nil ?_
  refine x_then_n ?_
  refine wp_seq ?_
  refine wp_region_lit ?_
  refine q_of s8 rfl (fun _ k => o_fieldAddr (s8.ev rfl) off27_0 k) (fun a11 s12 => ?_)
  refine q_of s12 rfl (fun _ k => o_loadOne (s12.ev rfl) ag5 ((h10.rowI 1 0 (cs := [.int .u8 p.node]) (o := 0) rfl rfl rfl) 0 _ rfl) k) (fun a13 s14 => ?_)
  refine q_of s14 rfl (fun _ k => o_fieldAddr (s14.ev rfl) off27_1 k) (fun a15 s16 => ?_)
  refine q_of s16 rfl (fun _ k => o_loadOne (s16.ev rfl) ag25 ((h10.rowI 1 0 (cs := [.int .u16 p.life]) (o := 1) rfl rfl rfl) 0 _ rfl) k) (fun a17 s18 => ?_)
  refine q_of s18 rfl (fun _ k => o_build s18 (vs := [(0, .int .u8 p.node), (1, .int .u16 p.life)]) (z := .agg #[.int .u8 p.node, .int .u16 p.life]) rfl (by kernel_rfl) k) (fun a19 s20 => ?_)
  refine q_store s20 rfl rfl sz36 rfl h10 (j := 0) rfl rfl rfl (cl := [.int .u8 p.node, .int .u16 p.life]) (by kernel_rfl) (fun a21 w23 s22 h24 => ?_)
  have h24 : Holds _ _ ([(b6, .cells #[.int .u8 p.node, .int .u16 p.life] 36 (0, 0))] :: [(b1, .cells #[.int .u8 p.node, .int .u16 p.life] 27 (0, 0))] :: F) := h24
  refine wpList_nil ?_
  refine x_then_n ?_
  refine wp_ret ?_
  refine finc s22 rfl rfl (run_loadVarAgg ag36 sz36 (cs := [.int .u8 p.node, .int .u16 p.life]) rfl (h24.rowI 0 0 (cs := [.int .u8 p.node, .int .u16 p.life]) (o := 0) rfl rfl rfl)) ⟨_, _, rfl, (GS.Le.refl _), h24.drop.drop, ?_⟩
  rfl

theorem law2ID_spec (d : ID) {G : GS} {w : World} {F : List Chunk} (h_d : d.ok) (h : Holds G w F) :
    Calls Tryd.prog 7 #[.agg #[.int .u8 d.client.node, .int .u16 d.client.life, .int .u32 d.seq, .int .u8 d.depth, .int .u8 d.p0.group, .int .u8 d.p0.index, .int .u8 d.p1.group, .int .u8 d.p1.index, .int .u8 d.p2.group, .int .u8 d.p2.index]] w (Ret G F fun G v => v = .agg #[.int .u8 d.client.node, .int .u16 d.client.life, .int .u32 d.seq, .int .u8 d.depth, .int .u8 d.p0.group, .int .u8 d.p0.index, .int .u8 d.p1.group, .int .u8 d.p1.index, .int .u8 d.p2.group, .int .u8 d.p2.index]) := by
  refine enter (N := 32) (L := [(0, .agg #[.int .u8 d.client.node, .int .u16 d.client.life, .int .u32 d.seq, .int .u8 d.depth, .int .u8 d.p0.group, .int .u8 d.p0.index, .int .u8 d.p1.group, .int .u8 d.p1.index, .int .u8 d.p2.group, .int .u8 d.p2.index])]) rfl Tryd.func7 rfl rfl rfl (fun a0 s0 => ?_)
  refine wp_seq ?_
  refine wp_region_lit ?_
  refine q_box s0 rfl rfl h (fun a2 w4 b1 s3 h5 => ?_)
  have h5 : Holds _ _ ([(b1, .cells #[.int .u8 d.client.node, .int .u16 d.client.life, .int .u32 d.seq, .int .u8 d.depth, .int .u8 d.p0.group, .int .u8 d.p0.index, .int .u8 d.p1.group, .int .u8 d.p1.index, .int .u8 d.p2.group, .int .u8 d.p2.index] 33 (0, 0))] :: F) := h5
  refine q_alloc s3 rfl h5 zero40 (fun a7 w9 b6 s8 h10 => ?_)
  refine wpList_nil ?_
  refine x_then_n ?_
  refine wp_seq ?_
  have hok : okX 32 [(1, .pointer (some ⟨b1, 0, none⟩)), (2, .pointer (some ⟨b6, 0, none⟩))] [(some 5, Fact.eq (.pointer (some ⟨b1, 0, none⟩))), (some 6, Fact.eq (.agg #[.int .u8 d.client.node, .int .u16 d.client.life])), (some 7, Fact.eq (.agg #[.int .u8 d.client.node, .int .u16 d.client.life])), (some 8, Fact.eq (.pointer (some ⟨b1, 2, none⟩))), (some 9, Fact.eq (.int .u32 d.seq)), (some 10, Fact.eq (.pointer (some ⟨b1, 3, none⟩))), (some 11, Fact.eq (.int .u8 d.depth)), (some 12, Fact.eq (.agg #[.int .u8 d.client.node, .int .u16 d.client.life, .int .u32 d.seq, .int .u8 d.depth, .int .u8 0, .int .u8 0, .int .u8 0, .int .u8 0, .int .u8 0, .int .u8 0])), (some 3, Fact.ex (fun b11 => .pointer (some ⟨b11, 0, none⟩))), (none, Fact.any)] [] = true := rfl
  refine region_draw (N := 32) (L0 := [(1, .pointer (some ⟨b1, 0, none⟩)), (2, .pointer (some ⟨b6, 0, none⟩))]) (X := [(some 5, Fact.eq (.pointer (some ⟨b1, 0, none⟩))), (some 6, Fact.eq (.agg #[.int .u8 d.client.node, .int .u16 d.client.life])), (some 7, Fact.eq (.agg #[.int .u8 d.client.node, .int .u16 d.client.life])), (some 8, Fact.eq (.pointer (some ⟨b1, 2, none⟩))), (some 9, Fact.eq (.int .u32 d.seq)), (some 10, Fact.eq (.pointer (some ⟨b1, 3, none⟩))), (some 11, Fact.eq (.int .u8 d.depth)), (some 12, Fact.eq (.agg #[.int .u8 d.client.node, .int .u16 d.client.life, .int .u32 d.seq, .int .u8 d.depth, .int .u8 0, .int .u8 0, .int .u8 0, .int .u8 0, .int .u8 0, .int .u8 0])), (some 3, Fact.ex (fun b11 => .pointer (some ⟨b11, 0, none⟩))), (none, Fact.any)]) (O := []) (HR := fun D a _ H => H = ((bif D 8 then ([(vblk (a.tmps.getD 3 undef), .cells (bif D 9 then #[.int .u8 d.client.node, .int .u16 d.client.life, .int .u32 d.seq, .int .u8 d.depth, .int .u8 0, .int .u8 0, .int .u8 0, .int .u8 0, .int .u8 0, .int .u8 0] else #[.int .u8 0, .int .u16 0, .int .u32 0, .int .u8 0, .int .u8 0, .int .u8 0, .int .u8 0, .int .u8 0, .int .u8 0, .int .u8 0]) 40 (0, 0))] :: [(b6, .cells #[.int .u8 0, .int .u16 0, .int .u32 0, .int .u8 0, .int .u8 0, .int .u8 0, .int .u8 0, .int .u8 0, .int .u8 0, .int .u8 0] 40 (0, 0))] :: [(b1, .cells #[.int .u8 d.client.node, .int .u16 d.client.life, .int .u32 d.seq, .int .u8 d.depth, .int .u8 d.p0.group, .int .u8 d.p0.index, .int .u8 d.p1.group, .int .u8 d.p1.index, .int .u8 d.p2.group, .int .u8 d.p2.index] 33 (0, 0))] :: F) else [(b6, .cells #[.int .u8 0, .int .u16 0, .int .u32 0, .int .u8 0, .int .u8 0, .int .u8 0, .int .u8 0, .int .u8 0, .int .u8 0, .int .u8 0] 40 (0, 0))] :: [(b1, .cells #[.int .u8 d.client.node, .int .u16 d.client.life, .int .u32 d.seq, .int .u8 d.depth, .int .u8 d.p0.group, .int .u8 d.p0.index, .int .u8 d.p1.group, .int .u8 d.p1.index, .int .u8 d.p2.group, .int .u8 d.p2.index] 33 (0, 0))] :: F))) mixed rfl h10 rfl (s8.sub (all_cons rfl (all_cons rfl (all_nil)))) (fun i k t v hi => by simp at hi) ⟨?_, ?_, ?_, ?_, ?_, ?_, ?_, ?_, ?_, ?_, trivial⟩ (fun D a w G H hall j => ?_)
  · exact step_of rfl (fun D a w G H hR j => by (have s := j.sf ; exact o_fieldAddr (s.ev rfl) off33_0 (j.did hok rfl (GS.Le.refl _) j.holds (by have hq := j.hr ; simpa only [setD_ne D (show (8 : Nat) ≠ 0 by decide), setD_ne D (show (9 : Nat) ≠ 0 by decide), getD_put (show (3 : Nat) ≠ 5 by decide)] using hq) rfl)))
  · exact step_of rfl (fun D a w G H hR j => by (have he9 : D 9 = false := (hR.not (k := 9) (j := 7) rfl rfl (hR.not (k := 7) (j := 2) rfl rfl (hR.not (k := 2) (j := 1) rfl rfl hR.todo))) ; have hH := j.hr ; simp only [he9, cond_true, cond_false] at hH ; have s := (j.sf.know _ _ (j.gotE 0 rfl (hR.was rfl 0 rfl))) ; exact o_loadAgg (s.ev rfl) ag27 sz27 (cs := [.int .u8 d.client.node, .int .u16 d.client.life]) rfl (j.holds.rowO (c := #[.int .u8 d.client.node, .int .u16 d.client.life, .int .u32 d.seq, .int .u8 d.depth, .int .u8 d.p0.group, .int .u8 d.p0.index, .int .u8 d.p1.group, .int .u8 d.p1.index, .int .u8 d.p2.group, .int .u8 d.p2.index]) (T := 33) (fz := (0, 0)) (by rw [hH] ; exact mem_bif (mem_at 1 0 rfl rfl)) (cs := [.int .u8 d.client.node, .int .u16 d.client.life]) (o := 0) rfl) (j.did hok rfl (GS.Le.refl _) j.holds (by have hq := j.hr ; simpa only [setD_ne D (show (8 : Nat) ≠ 1 by decide), setD_ne D (show (9 : Nat) ≠ 1 by decide), getD_put (show (3 : Nat) ≠ 6 by decide)] using hq) rfl)))
  · exact step_of rfl (fun D a w G H hR j => by (have s := (j.sf.know _ _ (j.gotE 1 rfl (hR.was rfl 1 rfl))) ; exact o_call s rfl ok23 (law2Proc_spec d.client (by omega) j.holds) (fun e w' ⟨v, G', he, hG, hh, hv⟩ => ⟨v, he, j.did hok rfl hG hh (by have hq := j.hr ; simpa only [setD_ne D (show (8 : Nat) ≠ 2 by decide), setD_ne D (show (9 : Nat) ≠ 2 by decide), getD_put (show (3 : Nat) ≠ 7 by decide)] using hq) hv⟩)))
  · exact step_of rfl (fun D a w G H hR j => by (have s := j.sf ; exact o_fieldAddr (s.ev rfl) off33_1 (j.did hok rfl (GS.Le.refl _) j.holds (by have hq := j.hr ; simpa only [setD_ne D (show (8 : Nat) ≠ 3 by decide), setD_ne D (show (9 : Nat) ≠ 3 by decide), getD_put (show (3 : Nat) ≠ 8 by decide)] using hq) rfl)))
  · exact step_of rfl (fun D a w G H hR j => by (have he9 : D 9 = false := (hR.not (k := 9) (j := 7) rfl rfl (hR.not (k := 7) (j := 4) rfl rfl hR.todo)) ; have hH := j.hr ; simp only [he9, cond_true, cond_false] at hH ; have s := (j.sf.know _ _ (j.gotE 3 rfl (hR.was rfl 3 rfl))) ; exact o_loadOne (s.ev rfl) ag28 ((j.holds.rowO (c := #[.int .u8 d.client.node, .int .u16 d.client.life, .int .u32 d.seq, .int .u8 d.depth, .int .u8 d.p0.group, .int .u8 d.p0.index, .int .u8 d.p1.group, .int .u8 d.p1.index, .int .u8 d.p2.group, .int .u8 d.p2.index]) (T := 33) (fz := (0, 0)) (by rw [hH] ; exact mem_bif (mem_at 1 0 rfl rfl)) (cs := [.int .u32 d.seq]) (o := 2) rfl) 0 _ rfl) (j.did hok rfl (GS.Le.refl _) j.holds (by have hq := j.hr ; simpa only [setD_ne D (show (8 : Nat) ≠ 4 by decide), setD_ne D (show (9 : Nat) ≠ 4 by decide), getD_put (show (3 : Nat) ≠ 9 by decide)] using hq) rfl)))
  · exact step_of rfl (fun D a w G H hR j => by (have s := j.sf ; exact o_fieldAddr (s.ev rfl) off33_2 (j.did hok rfl (GS.Le.refl _) j.holds (by have hq := j.hr ; simpa only [setD_ne D (show (8 : Nat) ≠ 5 by decide), setD_ne D (show (9 : Nat) ≠ 5 by decide), getD_put (show (3 : Nat) ≠ 10 by decide)] using hq) rfl)))
  · exact step_of rfl (fun D a w G H hR j => by (have he9 : D 9 = false := (hR.not (k := 9) (j := 7) rfl rfl (hR.not (k := 7) (j := 6) rfl rfl hR.todo)) ; have hH := j.hr ; simp only [he9, cond_true, cond_false] at hH ; have s := (j.sf.know _ _ (j.gotE 5 rfl (hR.was rfl 5 rfl))) ; exact o_loadOne (s.ev rfl) ag5 ((j.holds.rowO (c := #[.int .u8 d.client.node, .int .u16 d.client.life, .int .u32 d.seq, .int .u8 d.depth, .int .u8 d.p0.group, .int .u8 d.p0.index, .int .u8 d.p1.group, .int .u8 d.p1.index, .int .u8 d.p2.group, .int .u8 d.p2.index]) (T := 33) (fz := (0, 0)) (by rw [hH] ; exact mem_bif (mem_at 1 0 rfl rfl)) (cs := [.int .u8 d.depth]) (o := 3) rfl) 0 _ rfl) (j.did hok rfl (GS.Le.refl _) j.holds (by have hq := j.hr ; simpa only [setD_ne D (show (8 : Nat) ≠ 6 by decide), setD_ne D (show (9 : Nat) ≠ 6 by decide), getD_put (show (3 : Nat) ≠ 11 by decide)] using hq) rfl)))
  · exact step_of rfl (fun D a w G H hR j => by (have s := (((j.sf.know _ _ (j.gotE 2 rfl (hR.was rfl 2 rfl))).know _ _ (j.gotE 4 rfl (hR.was rfl 4 rfl))).know _ _ (j.gotE 6 rfl (hR.was rfl 6 rfl))) ; exact o_build s (vs := [(0, .agg #[.int .u8 d.client.node, .int .u16 d.client.life]), (1, .int .u32 d.seq), (2, .int .u8 d.depth)]) (z := .agg #[.int .u8 d.client.node, .int .u16 d.client.life, .int .u32 d.seq, .int .u8 d.depth, .int .u8 0, .int .u8 0, .int .u8 0, .int .u8 0, .int .u8 0, .int .u8 0]) rfl (by kernel_rfl) (j.did hok rfl (GS.Le.refl _) j.holds (by have hq := j.hr ; simpa only [setD_ne D (show (8 : Nat) ≠ 7 by decide), setD_ne D (show (9 : Nat) ≠ 7 by decide), getD_put (show (3 : Nat) ≠ 12 by decide)] using hq) rfl)))
  · exact step_of rfl (fun D a w G H hR j => by (have he9 : D 9 = false := (hR.not (k := 9) (j := 8) rfl rfl hR.todo) ; have hH := j.hr ; simp only [he9, cond_true, cond_false, vblk_ptr, vblk_slice, hR.todo] at hH ; subst H ; exact o_alloc zero40 (j.did hok rfl (GS.Le.refl _) (j.holds.alloc _) (by simp only [setD_self, setD_ne D (show (9 : Nat) ≠ 8 by decide), he9, cond_true, cond_false, vblk_ptr, vblk_slice, put_none, getD_put_self (show 3 < a.tmps.size by rw [j.sf.size] ; decide)]) ⟨_, rfl⟩)))
  · exact step_of rfl (fun D a w G H hR j => by (obtain ⟨b11, hb11⟩ := j.got 8 rfl (hR.was rfl 8 rfl) ; have he8 : D 8 = true := (hR.was rfl 8 rfl) ; have hH := j.hr ; simp only [he8, cond_true, cond_false, hb11, vblk_ptr, vblk_slice, hR.todo] at hH ; subst H ; have s := ((j.sf.know _ _ hb11).know _ _ (j.gotE 7 rfl (hR.was rfl 7 rfl))) ; exact o_storeL (s.ev rfl) (s.ev rfl) sz40 rfl j.holds (j := 0) rfl rfl rfl (cl := [.int .u8 d.client.node, .int .u16 d.client.life, .int .u32 d.seq, .int .u8 d.depth, .int .u8 0, .int .u8 0, .int .u8 0, .int .u8 0, .int .u8 0, .int .u8 0]) (by kernel_rfl) (fun w' hh => j.did0 rfl (GS.Le.refl _) (show Holds _ _ ([(b11, .cells #[.int .u8 d.client.node, .int .u16 d.client.life, .int .u32 d.seq, .int .u8 d.depth, .int .u8 0, .int .u8 0, .int .u8 0, .int .u8 0, .int .u8 0, .int .u8 0] 40 (0, 0))] :: [(b6, .cells #[.int .u8 0, .int .u16 0, .int .u32 0, .int .u8 0, .int .u8 0, .int .u8 0, .int .u8 0, .int .u8 0, .int .u8 0, .int .u8 0] 40 (0, 0))] :: [(b1, .cells #[.int .u8 d.client.node, .int .u16 d.client.life, .int .u32 d.seq, .int .u8 d.depth, .int .u8 d.p0.group, .int .u8 d.p0.index, .int .u8 d.p1.group, .int .u8 d.p1.index, .int .u8 d.p2.group, .int .u8 d.p2.index] 33 (0, 0))] :: F) from hh) (by simp only [setD_self, setD_ne D (show (8 : Nat) ≠ 9 by decide), he8, cond_true, cond_false, hb11, vblk_ptr, vblk_slice, put_none]))))
  obtain ⟨b11, hb11⟩ := j.got 8 rfl (hall 8 (by decide))
  have s13 := (j.sf.know _ _ hb11)
  have hH := j.hr
  simp only [hall 8 (by decide), hall 9 (by decide), cond_true, hb11, vblk_ptr, vblk_slice] at hH
  subst H
  have hle19 := j.le
  have hG17 := (GS.Le.refl _).trans hle19
  have h18 : Holds _ _ ([(b11, .cells #[.int .u8 d.client.node, .int .u16 d.client.life, .int .u32 d.seq, .int .u8 d.depth, .int .u8 0, .int .u8 0, .int .u8 0, .int .u8 0, .int .u8 0, .int .u8 0] 40 (0, 0))] :: [(b6, .cells #[.int .u8 0, .int .u16 0, .int .u32 0, .int .u8 0, .int .u8 0, .int .u8 0, .int .u8 0, .int .u8 0, .int .u8 0, .int .u8 0] 40 (0, 0))] :: [(b1, .cells #[.int .u8 d.client.node, .int .u16 d.client.life, .int .u32 d.seq, .int .u8 d.depth, .int .u8 d.p0.group, .int .u8 d.p0.index, .int .u8 d.p1.group, .int .u8 d.p1.index, .int .u8 d.p2.group, .int .u8 d.p2.index] 33 (0, 0))] :: F) := j.holds
  clear j hall hok
  refine x_then_n ?_
  refine wp_seq ?_
  refine wp_seq ?_
  refine wp_region_lit ?_
  refine q_of s13 rfl (fun _ k => o_assign (s13.ev rfl) k) (fun a20 s21 => ?_)
  refine wpList_nil ?_
  refine x_then_n ?_
  refine wp_block ?_
  refine wp_loop_rounds 4 ?_
  refine rounds_step (n := 3) ?_
  refine wp_seq ?_
  refine wp_seq ?_
  refine wp_region_lit ?_
  refine q_of s21 rfl (fun _ k => o_move (s21.ev rfl) k) (fun a22 s23 => ?_)
  refine q_of s23 rfl (fun _ k => o_lss (s23.ev rfl) (s23.ev rfl) k) (fun a24 s25 => ?_)
  refine wpList_nil ?_
  refine x_then_n ?_
  refine q_ift s25 rfl rfl ?_
  refine wp_skip ?_
  refine x_then_n ?_
  refine wp_seq ?_
  refine wp_block ?_
  have hok : okX 32 [(1, .pointer (some ⟨b1, 0, none⟩)), (2, .pointer (some ⟨b6, 0, none⟩)), (3, .pointer (some ⟨b11, 0, none⟩)), (4, .int .i64 0), (13, .int .i64 0), (14, .bool (decide (0 < 3)))] [(some 17, Fact.eq (.int .i64 0)), (some 18, Fact.eq (.int .i64 0)), (some 19, Fact.eq (.pointer (some ⟨b1, 4, none⟩))), (some 20, Fact.eq (.pointer (some ⟨b1, 4, none⟩))), (some 21, Fact.eq (.pointer (some ⟨b1, 4, none⟩))), (some 22, Fact.eq (.int .u8 d.p0.group)), (some 23, Fact.eq (.int .i64 0)), (some 24, Fact.eq (.pointer (some ⟨b1, 4, none⟩))), (some 25, Fact.eq (.pointer (some ⟨b1, 4, none⟩))), (some 26, Fact.eq (.pointer (some ⟨b1, 5, none⟩))), (some 27, Fact.eq (.int .u8 d.p0.index)), (some 28, Fact.eq (.agg #[.int .u8 d.p0.group, .int .u8 d.p0.index])), (some 29, Fact.eq (.pointer (some ⟨b11, 4, none⟩)))] [] = true := rfl
  refine region_split 13 [13, 3, 3, 4, 5, 11, 8, 8, 9, 10, 11, 13, 13, 14] (N := 32) (L0 := [(1, .pointer (some ⟨b1, 0, none⟩)), (2, .pointer (some ⟨b6, 0, none⟩)), (3, .pointer (some ⟨b11, 0, none⟩)), (4, .int .i64 0), (13, .int .i64 0), (14, .bool (decide (0 < 3)))]) (X := [(some 17, Fact.eq (.int .i64 0)), (some 18, Fact.eq (.int .i64 0)), (some 19, Fact.eq (.pointer (some ⟨b1, 4, none⟩))), (some 20, Fact.eq (.pointer (some ⟨b1, 4, none⟩))), (some 21, Fact.eq (.pointer (some ⟨b1, 4, none⟩))), (some 22, Fact.eq (.int .u8 d.p0.group)), (some 23, Fact.eq (.int .i64 0)), (some 24, Fact.eq (.pointer (some ⟨b1, 4, none⟩))), (some 25, Fact.eq (.pointer (some ⟨b1, 4, none⟩))), (some 26, Fact.eq (.pointer (some ⟨b1, 5, none⟩))), (some 27, Fact.eq (.int .u8 d.p0.index)), (some 28, Fact.eq (.agg #[.int .u8 d.p0.group, .int .u8 d.p0.index])), (some 29, Fact.eq (.pointer (some ⟨b11, 4, none⟩)))]) (O := []) (HR := fun D a _ H => H = ([(b11, .cells #[.int .u8 d.client.node, .int .u16 d.client.life, .int .u32 d.seq, .int .u8 d.depth, .int .u8 0, .int .u8 0, .int .u8 0, .int .u8 0, .int .u8 0, .int .u8 0] 40 (0, 0))] :: [(b6, .cells #[.int .u8 0, .int .u16 0, .int .u32 0, .int .u8 0, .int .u8 0, .int .u8 0, .int .u8 0, .int .u8 0, .int .u8 0, .int .u8 0] 40 (0, 0))] :: [(b1, .cells #[.int .u8 d.client.node, .int .u16 d.client.life, .int .u32 d.seq, .int .u8 d.depth, .int .u8 d.p0.group, .int .u8 d.p0.index, .int .u8 d.p1.group, .int .u8 d.p1.index, .int .u8 d.p2.group, .int .u8 d.p2.index] 33 (0, 0))] :: F)) mixed rfl rfl rfl h18 rfl (s25.sub (all_cons rfl (all_cons rfl (all_cons rfl (all_cons rfl (all_cons rfl (all_cons rfl (all_nil)))))))) (fun i k t v hi => by simp at hi) ⟨?_, ?_, ?_, ?_, ?_, ?_, ?_, ?_, ?_, ?_, ?_, ?_, ?_, trivial⟩ (fun D a w G H hall j => ?_)
  · exact step_of rfl (fun D a w G H hR j => by (have s := j.sf ; exact o_move (s.ev rfl) (j.did hok rfl (GS.Le.refl _) j.holds j.hr rfl)))
  · exact step_of rfl (fun D a w G H hR j => by (have s := j.sf ; exact o_move (s.ev rfl) (j.did hok rfl (GS.Le.refl _) j.holds j.hr rfl)))
  · exact step_of rfl (fun D a w G H hR j => by (have s := j.sf ; exact o_fieldAddr (s.ev rfl) off33_3 (j.did hok rfl (GS.Le.refl _) j.holds j.hr rfl)))
  · exact step_of rfl (fun D a w G H hR j => by (have s := ((j.sf.know _ _ (j.gotE 1 rfl (hR.was rfl 1 rfl))).know _ _ (j.gotE 2 rfl (hR.was rfl 2 rfl))) ; exact o_idxA (s.ev rfl) (s.ev rfl) und31 sz30 (i := 0) rfl (by decide) rfl (j.did hok rfl (GS.Le.refl _) j.holds j.hr rfl)))
  · exact step_of rfl (fun D a w G H hR j => by (have s := (j.sf.know _ _ (j.gotE 3 rfl (hR.was rfl 3 rfl))) ; exact o_fieldAddr (s.ev rfl) off30_0 (j.did hok rfl (GS.Le.refl _) j.holds j.hr rfl)))
  · exact step_of rfl (fun D a w G H hR j => by (have hH := j.hr ; subst H ; have s := (j.sf.know _ _ (j.gotE 4 rfl (hR.was rfl 4 rfl))) ; exact o_loadOne (s.ev rfl) ag5 ((j.holds.rowI 2 0 (cs := [.int .u8 d.p0.group]) (o := 4) rfl rfl rfl) 0 _ rfl) (j.did hok rfl (GS.Le.refl _) j.holds j.hr rfl)))
  · exact step_of rfl (fun D a w G H hR j => by (have s := j.sf ; exact o_move (s.ev rfl) (j.did hok rfl (GS.Le.refl _) j.holds j.hr rfl)))
  · exact step_of rfl (fun D a w G H hR j => by (have s := j.sf ; exact o_fieldAddr (s.ev rfl) off33_3 (j.did hok rfl (GS.Le.refl _) j.holds j.hr rfl)))
  · exact step_of rfl (fun D a w G H hR j => by (have s := ((j.sf.know _ _ (j.gotE 6 rfl (hR.was rfl 6 rfl))).know _ _ (j.gotE 7 rfl (hR.was rfl 7 rfl))) ; exact o_idxA (s.ev rfl) (s.ev rfl) und31 sz30 (i := 0) rfl (by decide) rfl (j.did hok rfl (GS.Le.refl _) j.holds j.hr rfl)))
  · exact step_of rfl (fun D a w G H hR j => by (have s := (j.sf.know _ _ (j.gotE 8 rfl (hR.was rfl 8 rfl))) ; exact o_fieldAddr (s.ev rfl) off30_1 (j.did hok rfl (GS.Le.refl _) j.holds j.hr rfl)))
  · exact step_of rfl (fun D a w G H hR j => by (have hH := j.hr ; subst H ; have s := (j.sf.know _ _ (j.gotE 9 rfl (hR.was rfl 9 rfl))) ; exact o_loadOne (s.ev rfl) ag5 ((j.holds.rowI 2 0 (cs := [.int .u8 d.p0.index]) (o := 5) rfl rfl rfl) 0 _ rfl) (j.did hok rfl (GS.Le.refl _) j.holds j.hr rfl)))
  · exact step_of rfl (fun D a w G H hR j => by (have s := ((j.sf.know _ _ (j.gotE 5 rfl (hR.was rfl 5 rfl))).know _ _ (j.gotE 10 rfl (hR.was rfl 10 rfl))) ; exact o_build s (vs := [(0, .int .u8 d.p0.group), (1, .int .u8 d.p0.index)]) (z := .agg #[.int .u8 d.p0.group, .int .u8 d.p0.index]) rfl (by kernel_rfl) (j.did hok rfl (GS.Le.refl _) j.holds j.hr rfl)))
  · exact step_of rfl (fun D a w G H hR j => by (have s := j.sf ; exact o_fieldAddr (s.ev rfl) off40_3 (j.did hok rfl (GS.Le.refl _) j.holds j.hr rfl)))
  have s28 := (((((((((((((j.sf.know _ _ (j.gotE 0 rfl (hall 0 (by decide)))).know _ _ (j.gotE 1 rfl (hall 1 (by decide)))).know _ _ (j.gotE 2 rfl (hall 2 (by decide)))).know _ _ (j.gotE 3 rfl (hall 3 (by decide)))).know _ _ (j.gotE 4 rfl (hall 4 (by decide)))).know _ _ (j.gotE 5 rfl (hall 5 (by decide)))).know _ _ (j.gotE 6 rfl (hall 6 (by decide)))).know _ _ (j.gotE 7 rfl (hall 7 (by decide)))).know _ _ (j.gotE 8 rfl (hall 8 (by decide)))).know _ _ (j.gotE 9 rfl (hall 9 (by decide)))).know _ _ (j.gotE 10 rfl (hall 10 (by decide)))).know _ _ (j.gotE 11 rfl (hall 11 (by decide)))).know _ _ (j.gotE 12 rfl (hall 12 (by decide))))
  have hH := j.hr
  subst H
  have hle34 := j.le
  have hG32 := hG17.trans hle34
  have h33 : Holds _ _ ([(b11, .cells #[.int .u8 d.client.node, .int .u16 d.client.life, .int .u32 d.seq, .int .u8 d.depth, .int .u8 0, .int .u8 0, .int .u8 0, .int .u8 0, .int .u8 0, .int .u8 0] 40 (0, 0))] :: [(b6, .cells #[.int .u8 0, .int .u16 0, .int .u32 0, .int .u8 0, .int .u8 0, .int .u8 0, .int .u8 0, .int .u8 0, .int .u8 0, .int .u8 0] 40 (0, 0))] :: [(b1, .cells #[.int .u8 d.client.node, .int .u16 d.client.life, .int .u32 d.seq, .int .u8 d.depth, .int .u8 d.p0.group, .int .u8 d.p0.index, .int .u8 d.p1.group, .int .u8 d.p1.index, .int .u8 d.p2.group, .int .u8 d.p2.index] 33 (0, 0))] :: F) := j.holds
  clear j hall hok
  refine q_of s28 rfl (fun _ k => o_idxA (s28.ev rfl) (s28.ev rfl) und38 sz37 (i := 0) rfl (by decide) rfl k) (fun a35 s36 => ?_)
  refine q_store s36 rfl rfl sz37 rfl h33 (j := 0) rfl rfl rfl (cl := [.int .u8 d.client.node, .int .u16 d.client.life, .int .u32 d.seq, .int .u8 d.depth, .int .u8 d.p0.group, .int .u8 d.p0.index, .int .u8 0, .int .u8 0, .int .u8 0, .int .u8 0]) (by kernel_rfl) (fun a37 w39 s38 h40 => ?_)
  have h40 : Holds _ _ ([(b11, .cells #[.int .u8 d.client.node, .int .u16 d.client.life, .int .u32 d.seq, .int .u8 d.depth, .int .u8 d.p0.group, .int .u8 d.p0.index, .int .u8 0, .int .u8 0, .int .u8 0, .int .u8 0] 40 (0, 0))] :: [(b6, .cells #[.int .u8 0, .int .u16 0, .int .u32 0, .int .u8 0, .int .u8 0, .int .u8 0, .int .u8 0, .int .u8 0, .int .u8 0, .int .u8 0] 40 (0, 0))] :: [(b1, .cells #[.int .u8 d.client.node, .int .u16 d.client.life, .int .u32 d.seq, .int .u8 d.depth, .int .u8 d.p0.group, .int .u8 d.p0.index, .int .u8 d.p1.group, .int .u8 d.p1.index, .int .u8 d.p2.group, .int .u8 d.p2.index] 33 (0, 0))] :: F) := h40
  refine wpList_nil ?_
  refine x_blk_n ?_
  refine x_then_n ?_
  refine wp_region_lit ?_
  refine q_of s38 rfl (fun _ k => o_move (s38.ev rfl) k) (fun a41 s42 => ?_)
  refine q_of s42 rfl (fun _ k => o_add (s42.ev rfl) (s42.ev rfl) (z := 1) rfl k) (fun a43 s44 => ?_)
  refine q_of s44 rfl (fun _ k => o_assign (s44.ev rfl) k) (fun a45 s46 => ?_)
  refine wpList_nil ?_
  refine x_then_n ?_
  refine rounds_step (n := 2) ?_
  refine wp_seq ?_
  refine wp_seq ?_
  refine wp_region_lit ?_
  refine q_of s46 rfl (fun _ k => o_move (s46.ev rfl) k) (fun a47 s48 => ?_)
  refine q_of s48 rfl (fun _ k => o_lss (s48.ev rfl) (s48.ev rfl) k) (fun a49 s50 => ?_)
  refine wpList_nil ?_
  refine x_then_n ?_
  refine q_ift s50 rfl rfl ?_
  refine wp_skip ?_
  refine x_then_n ?_
  refine wp_seq ?_
  refine wp_block ?_
  have hok : okX 32 [(1, .pointer (some ⟨b1, 0, none⟩)), (2, .pointer (some ⟨b6, 0, none⟩)), (3, .pointer (some ⟨b11, 0, none⟩)), (4, .int .i64 1), (13, .int .i64 1), (14, .bool (decide (1 < 3))), (15, .int .i64 0), (16, .int .i64 1), (30, .pointer (some ⟨b11, 4, none⟩))] [(some 17, Fact.eq (.int .i64 1)), (some 18, Fact.eq (.int .i64 1)), (some 19, Fact.eq (.pointer (some ⟨b1, 4, none⟩))), (some 20, Fact.eq (.pointer (some ⟨b1, 6, none⟩))), (some 21, Fact.eq (.pointer (some ⟨b1, 6, none⟩))), (some 22, Fact.eq (.int .u8 d.p1.group)), (some 23, Fact.eq (.int .i64 1)), (some 24, Fact.eq (.pointer (some ⟨b1, 4, none⟩))), (some 25, Fact.eq (.pointer (some ⟨b1, 6, none⟩))), (some 26, Fact.eq (.pointer (some ⟨b1, 7, none⟩))), (some 27, Fact.eq (.int .u8 d.p1.index)), (some 28, Fact.eq (.agg #[.int .u8 d.p1.group, .int .u8 d.p1.index])), (some 29, Fact.eq (.pointer (some ⟨b11, 4, none⟩)))] [] = true := rfl
  refine region_split 13 [13, 3, 3, 4, 5, 11, 8, 8, 9, 10, 11, 13, 13, 14] (N := 32) (L0 := [(1, .pointer (some ⟨b1, 0, none⟩)), (2, .pointer (some ⟨b6, 0, none⟩)), (3, .pointer (some ⟨b11, 0, none⟩)), (4, .int .i64 1), (13, .int .i64 1), (14, .bool (decide (1 < 3))), (15, .int .i64 0), (16, .int .i64 1), (30, .pointer (some ⟨b11, 4, none⟩))]) (X := [(some 17, Fact.eq (.int .i64 1)), (some 18, Fact.eq (.int .i64 1)), (some 19, Fact.eq (.pointer (some ⟨b1, 4, none⟩))), (some 20, Fact.eq (.pointer (some ⟨b1, 6, none⟩))), (some 21, Fact.eq (.pointer (some ⟨b1, 6, none⟩))), (some 22, Fact.eq (.int .u8 d.p1.group)), (some 23, Fact.eq (.int .i64 1)), (some 24, Fact.eq (.pointer (some ⟨b1, 4, none⟩))), (some 25, Fact.eq (.pointer (some ⟨b1, 6, none⟩))), (some 26, Fact.eq (.pointer (some ⟨b1, 7, none⟩))), (some 27, Fact.eq (.int .u8 d.p1.index)), (some 28, Fact.eq (.agg #[.int .u8 d.p1.group, .int .u8 d.p1.index])), (some 29, Fact.eq (.pointer (some ⟨b11, 4, none⟩)))]) (O := []) (HR := fun D a _ H => H = ([(b11, .cells #[.int .u8 d.client.node, .int .u16 d.client.life, .int .u32 d.seq, .int .u8 d.depth, .int .u8 d.p0.group, .int .u8 d.p0.index, .int .u8 0, .int .u8 0, .int .u8 0, .int .u8 0] 40 (0, 0))] :: [(b6, .cells #[.int .u8 0, .int .u16 0, .int .u32 0, .int .u8 0, .int .u8 0, .int .u8 0, .int .u8 0, .int .u8 0, .int .u8 0, .int .u8 0] 40 (0, 0))] :: [(b1, .cells #[.int .u8 d.client.node, .int .u16 d.client.life, .int .u32 d.seq, .int .u8 d.depth, .int .u8 d.p0.group, .int .u8 d.p0.index, .int .u8 d.p1.group, .int .u8 d.p1.index, .int .u8 d.p2.group, .int .u8 d.p2.index] 33 (0, 0))] :: F)) mixed rfl rfl rfl h40 rfl (s50.sub (all_cons rfl (all_cons rfl (all_cons rfl (all_cons rfl (all_cons rfl (all_cons rfl (all_cons rfl (all_cons rfl (all_cons rfl (all_nil))))))))))) (fun i k t v hi => by simp at hi) ⟨?_, ?_, ?_, ?_, ?_, ?_, ?_, ?_, ?_, ?_, ?_, ?_, ?_, trivial⟩ (fun D a w G H hall j => ?_)
  · exact step_of rfl (fun D a w G H hR j => by (have s := j.sf ; exact o_move (s.ev rfl) (j.did hok rfl (GS.Le.refl _) j.holds j.hr rfl)))
  · exact step_of rfl (fun D a w G H hR j => by (have s := j.sf ; exact o_move (s.ev rfl) (j.did hok rfl (GS.Le.refl _) j.holds j.hr rfl)))
  · exact step_of rfl (fun D a w G H hR j => by (have s := j.sf ; exact o_fieldAddr (s.ev rfl) off33_3 (j.did hok rfl (GS.Le.refl _) j.holds j.hr rfl)))
  · exact step_of rfl (fun D a w G H hR j => by (have s := ((j.sf.know _ _ (j.gotE 1 rfl (hR.was rfl 1 rfl))).know _ _ (j.gotE 2 rfl (hR.was rfl 2 rfl))) ; exact o_idxA (s.ev rfl) (s.ev rfl) und31 sz30 (i := 1) rfl (by decide) rfl (j.did hok rfl (GS.Le.refl _) j.holds j.hr rfl)))
  · exact step_of rfl (fun D a w G H hR j => by (have s := (j.sf.know _ _ (j.gotE 3 rfl (hR.was rfl 3 rfl))) ; exact o_fieldAddr (s.ev rfl) off30_0 (j.did hok rfl (GS.Le.refl _) j.holds j.hr rfl)))
  · exact step_of rfl (fun D a w G H hR j => by (have hH := j.hr ; subst H ; have s := (j.sf.know _ _ (j.gotE 4 rfl (hR.was rfl 4 rfl))) ; exact o_loadOne (s.ev rfl) ag5 ((j.holds.rowI 2 0 (cs := [.int .u8 d.p1.group]) (o := 6) rfl rfl rfl) 0 _ rfl) (j.did hok rfl (GS.Le.refl _) j.holds j.hr rfl)))
  · exact step_of rfl (fun D a w G H hR j => by (have s := j.sf ; exact o_move (s.ev rfl) (j.did hok rfl (GS.Le.refl _) j.holds j.hr rfl)))
  · exact step_of rfl (fun D a w G H hR j => by (have s := j.sf ; exact o_fieldAddr (s.ev rfl) off33_3 (j.did hok rfl (GS.Le.refl _) j.holds j.hr rfl)))
  · exact step_of rfl (fun D a w G H hR j => by (have s := ((j.sf.know _ _ (j.gotE 6 rfl (hR.was rfl 6 rfl))).know _ _ (j.gotE 7 rfl (hR.was rfl 7 rfl))) ; exact o_idxA (s.ev rfl) (s.ev rfl) und31 sz30 (i := 1) rfl (by decide) rfl (j.did hok rfl (GS.Le.refl _) j.holds j.hr rfl)))
  · exact step_of rfl (fun D a w G H hR j => by (have s := (j.sf.know _ _ (j.gotE 8 rfl (hR.was rfl 8 rfl))) ; exact o_fieldAddr (s.ev rfl) off30_1 (j.did hok rfl (GS.Le.refl _) j.holds j.hr rfl)))
  · exact step_of rfl (fun D a w G H hR j => by (have hH := j.hr ; subst H ; have s := (j.sf.know _ _ (j.gotE 9 rfl (hR.was rfl 9 rfl))) ; exact o_loadOne (s.ev rfl) ag5 ((j.holds.rowI 2 0 (cs := [.int .u8 d.p1.index]) (o := 7) rfl rfl rfl) 0 _ rfl) (j.did hok rfl (GS.Le.refl _) j.holds j.hr rfl)))
  · exact step_of rfl (fun D a w G H hR j => by (have s := ((j.sf.know _ _ (j.gotE 5 rfl (hR.was rfl 5 rfl))).know _ _ (j.gotE 10 rfl (hR.was rfl 10 rfl))) ; exact o_build s (vs := [(0, .int .u8 d.p1.group), (1, .int .u8 d.p1.index)]) (z := .agg #[.int .u8 d.p1.group, .int .u8 d.p1.index]) rfl (by kernel_rfl) (j.did hok rfl (GS.Le.refl _) j.holds j.hr rfl)))
  · exact step_of rfl (fun D a w G H hR j => by (have s := j.sf ; exact o_fieldAddr (s.ev rfl) off40_3 (j.did hok rfl (GS.Le.refl _) j.holds j.hr rfl)))
  have s53 := (((((((((((((j.sf.know _ _ (j.gotE 0 rfl (hall 0 (by decide)))).know _ _ (j.gotE 1 rfl (hall 1 (by decide)))).know _ _ (j.gotE 2 rfl (hall 2 (by decide)))).know _ _ (j.gotE 3 rfl (hall 3 (by decide)))).know _ _ (j.gotE 4 rfl (hall 4 (by decide)))).know _ _ (j.gotE 5 rfl (hall 5 (by decide)))).know _ _ (j.gotE 6 rfl (hall 6 (by decide)))).know _ _ (j.gotE 7 rfl (hall 7 (by decide)))).know _ _ (j.gotE 8 rfl (hall 8 (by decide)))).know _ _ (j.gotE 9 rfl (hall 9 (by decide)))).know _ _ (j.gotE 10 rfl (hall 10 (by decide)))).know _ _ (j.gotE 11 rfl (hall 11 (by decide)))).know _ _ (j.gotE 12 rfl (hall 12 (by decide))))
  have hH := j.hr
  subst H
  have hle59 := j.le
  have hG57 := hG32.trans hle59
  have h58 : Holds _ _ ([(b11, .cells #[.int .u8 d.client.node, .int .u16 d.client.life, .int .u32 d.seq, .int .u8 d.depth, .int .u8 d.p0.group, .int .u8 d.p0.index, .int .u8 0, .int .u8 0, .int .u8 0, .int .u8 0] 40 (0, 0))] :: [(b6, .cells #[.int .u8 0, .int .u16 0, .int .u32 0, .int .u8 0, .int .u8 0, .int .u8 0, .int .u8 0, .int .u8 0, .int .u8 0, .int .u8 0] 40 (0, 0))] :: [(b1, .cells #[.int .u8 d.client.node, .int .u16 d.client.life, .int .u32 d.seq, .int .u8 d.depth, .int .u8 d.p0.group, .int .u8 d.p0.index, .int .u8 d.p1.group, .int .u8 d.p1.index, .int .u8 d.p2.group, .int .u8 d.p2.index] 33 (0, 0))] :: F) := j.holds
  clear j hall hok
  refine q_of s53 rfl (fun _ k => o_idxA (s53.ev rfl) (s53.ev rfl) und38 sz37 (i := 1) rfl (by decide) rfl k) (fun a60 s61 => ?_)
  refine q_store s61 rfl rfl sz37 rfl h58 (j := 0) rfl rfl rfl (cl := [.int .u8 d.client.node, .int .u16 d.client.life, .int .u32 d.seq, .int .u8 d.depth, .int .u8 d.p0.group, .int .u8 d.p0.index, .int .u8 d.p1.group, .int .u8 d.p1.index, .int .u8 0, .int .u8 0]) (by kernel_rfl) (fun a62 w64 s63 h65 => ?_)
  have h65 : Holds _ _ ([(b11, .cells #[.int .u8 d.client.node, .int .u16 d.client.life, .int .u32 d.seq, .int .u8 d.depth, .int .u8 d.p0.group, .int .u8 d.p0.index, .int .u8 d.p1.group, .int .u8 d.p1.index, .int .u8 0, .int .u8 0] 40 (0, 0))] :: [(b6, .cells #[.int .u8 0, .int .u16 0, .int .u32 0, .int .u8 0, .int .u8 0, .int .u8 0, .int .u8 0, .int .u8 0, .int .u8 0, .int .u8 0] 40 (0, 0))] :: [(b1, .cells #[.int .u8 d.client.node, .int .u16 d.client.life, .int .u32 d.seq, .int .u8 d.depth, .int .u8 d.p0.group, .int .u8 d.p0.index, .int .u8 d.p1.group, .int .u8 d.p1.index, .int .u8 d.p2.group, .int .u8 d.p2.index] 33 (0, 0))] :: F) := h65
  refine wpList_nil ?_
  refine x_blk_n ?_
  refine x_then_n ?_
  refine wp_region_lit ?_
  refine q_of s63 rfl (fun _ k => o_move (s63.ev rfl) k) (fun a66 s67 => ?_)
  refine q_of s67 rfl (fun _ k => o_add (s67.ev rfl) (s67.ev rfl) (z := 2) rfl k) (fun a68 s69 => ?_)
  refine q_of s69 rfl (fun _ k => o_assign (s69.ev rfl) k) (fun a70 s71 => ?_)
  refine wpList_nil ?_
  refine x_then_n ?_
  refine rounds_step (n := 1) ?_
  refine wp_seq ?_
  refine wp_seq ?_
  refine wp_region_lit ?_
  refine q_of s71 rfl (fun _ k => o_move (s71.ev rfl) k) (fun a72 s73 => ?_)
  refine q_of s73 rfl (fun _ k => o_lss (s73.ev rfl) (s73.ev rfl) k) (fun a74 s75 => ?_)
  refine wpList_nil ?_
  refine x_then_n ?_
  refine q_ift s75 rfl rfl ?_
  refine wp_skip ?_
  refine x_then_n ?_
  refine wp_seq ?_
  refine wp_block ?_
  have hok : okX 32 [(1, .pointer (some ⟨b1, 0, none⟩)), (2, .pointer (some ⟨b6, 0, none⟩)), (3, .pointer (some ⟨b11, 0, none⟩)), (4, .int .i64 2), (13, .int .i64 2), (14, .bool (decide (2 < 3))), (15, .int .i64 1), (16, .int .i64 2), (30, .pointer (some ⟨b11, 6, none⟩))] [(some 17, Fact.eq (.int .i64 2)), (some 18, Fact.eq (.int .i64 2)), (some 19, Fact.eq (.pointer (some ⟨b1, 4, none⟩))), (some 20, Fact.eq (.pointer (some ⟨b1, 8, none⟩))), (some 21, Fact.eq (.pointer (some ⟨b1, 8, none⟩))), (some 22, Fact.eq (.int .u8 d.p2.group)), (some 23, Fact.eq (.int .i64 2)), (some 24, Fact.eq (.pointer (some ⟨b1, 4, none⟩))), (some 25, Fact.eq (.pointer (some ⟨b1, 8, none⟩))), (some 26, Fact.eq (.pointer (some ⟨b1, 9, none⟩))), (some 27, Fact.eq (.int .u8 d.p2.index)), (some 28, Fact.eq (.agg #[.int .u8 d.p2.group, .int .u8 d.p2.index])), (some 29, Fact.eq (.pointer (some ⟨b11, 4, none⟩)))] [] = true := rfl
  refine region_split 13 [13, 3, 3, 4, 5, 11, 8, 8, 9, 10, 11, 13, 13, 14] (N := 32) (L0 := [(1, .pointer (some ⟨b1, 0, none⟩)), (2, .pointer (some ⟨b6, 0, none⟩)), (3, .pointer (some ⟨b11, 0, none⟩)), (4, .int .i64 2), (13, .int .i64 2), (14, .bool (decide (2 < 3))), (15, .int .i64 1), (16, .int .i64 2), (30, .pointer (some ⟨b11, 6, none⟩))]) (X := [(some 17, Fact.eq (.int .i64 2)), (some 18, Fact.eq (.int .i64 2)), (some 19, Fact.eq (.pointer (some ⟨b1, 4, none⟩))), (some 20, Fact.eq (.pointer (some ⟨b1, 8, none⟩))), (some 21, Fact.eq (.pointer (some ⟨b1, 8, none⟩))), (some 22, Fact.eq (.int .u8 d.p2.group)), (some 23, Fact.eq (.int .i64 2)), (some 24, Fact.eq (.pointer (some ⟨b1, 4, none⟩))), (some 25, Fact.eq (.pointer (some ⟨b1, 8, none⟩))), (some 26, Fact.eq (.pointer (some ⟨b1, 9, none⟩))), (some 27, Fact.eq (.int .u8 d.p2.index)), (some 28, Fact.eq (.agg #[.int .u8 d.p2.group, .int .u8 d.p2.index])), (some 29, Fact.eq (.pointer (some ⟨b11, 4, none⟩)))]) (O := []) (HR := fun D a _ H => H = ([(b11, .cells #[.int .u8 d.client.node, .int .u16 d.client.life, .int .u32 d.seq, .int .u8 d.depth, .int .u8 d.p0.group, .int .u8 d.p0.index, .int .u8 d.p1.group, .int .u8 d.p1.index, .int .u8 0, .int .u8 0] 40 (0, 0))] :: [(b6, .cells #[.int .u8 0, .int .u16 0, .int .u32 0, .int .u8 0, .int .u8 0, .int .u8 0, .int .u8 0, .int .u8 0, .int .u8 0, .int .u8 0] 40 (0, 0))] :: [(b1, .cells #[.int .u8 d.client.node, .int .u16 d.client.life, .int .u32 d.seq, .int .u8 d.depth, .int .u8 d.p0.group, .int .u8 d.p0.index, .int .u8 d.p1.group, .int .u8 d.p1.index, .int .u8 d.p2.group, .int .u8 d.p2.index] 33 (0, 0))] :: F)) mixed rfl rfl rfl h65 rfl (s75.sub (all_cons rfl (all_cons rfl (all_cons rfl (all_cons rfl (all_cons rfl (all_cons rfl (all_cons rfl (all_cons rfl (all_cons rfl (all_nil))))))))))) (fun i k t v hi => by simp at hi) ⟨?_, ?_, ?_, ?_, ?_, ?_, ?_, ?_, ?_, ?_, ?_, ?_, ?_, trivial⟩ (fun D a w G H hall j => ?_)
  · exact step_of rfl (fun D a w G H hR j => by (have s := j.sf ; exact o_move (s.ev rfl) (j.did hok rfl (GS.Le.refl _) j.holds j.hr rfl)))
  · exact step_of rfl (fun D a w G H hR j => by (have s := j.sf ; exact o_move (s.ev rfl) (j.did hok rfl (GS.Le.refl _) j.holds j.hr rfl)))
  · exact step_of rfl (fun D a w G H hR j => by (have s := j.sf ; exact o_fieldAddr (s.ev rfl) off33_3 (j.did hok rfl (GS.Le.refl _) j.holds j.hr rfl)))
  · exact step_of rfl (fun D a w G H hR j => by (have s := ((j.sf.know _ _ (j.gotE 1 rfl (hR.was rfl 1 rfl))).know _ _ (j.gotE 2 rfl (hR.was rfl 2 rfl))) ; exact o_idxA (s.ev rfl) (s.ev rfl) und31 sz30 (i := 2) rfl (by decide) rfl (j.did hok rfl (GS.Le.refl _) j.holds j.hr rfl)))
  · exact step_of rfl (fun D a w G H hR j => by (have s := (j.sf.know _ _ (j.gotE 3 rfl (hR.was rfl 3 rfl))) ; exact o_fieldAddr (s.ev rfl) off30_0 (j.did hok rfl (GS.Le.refl _) j.holds j.hr rfl)))
  · exact step_of rfl (fun D a w G H hR j => by (have hH := j.hr ; subst H ; have s := (j.sf.know _ _ (j.gotE 4 rfl (hR.was rfl 4 rfl))) ; exact o_loadOne (s.ev rfl) ag5 ((j.holds.rowI 2 0 (cs := [.int .u8 d.p2.group]) (o := 8) rfl rfl rfl) 0 _ rfl) (j.did hok rfl (GS.Le.refl _) j.holds j.hr rfl)))
  · exact step_of rfl (fun D a w G H hR j => by (have s := j.sf ; exact o_move (s.ev rfl) (j.did hok rfl (GS.Le.refl _) j.holds j.hr rfl)))
  · exact step_of rfl (fun D a w G H hR j => by (have s := j.sf ; exact o_fieldAddr (s.ev rfl) off33_3 (j.did hok rfl (GS.Le.refl _) j.holds j.hr rfl)))
  · exact step_of rfl (fun D a w G H hR j => by (have s := ((j.sf.know _ _ (j.gotE 6 rfl (hR.was rfl 6 rfl))).know _ _ (j.gotE 7 rfl (hR.was rfl 7 rfl))) ; exact o_idxA (s.ev rfl) (s.ev rfl) und31 sz30 (i := 2) rfl (by decide) rfl (j.did hok rfl (GS.Le.refl _) j.holds j.hr rfl)))
  · exact step_of rfl (fun D a w G H hR j => by (have s := (j.sf.know _ _ (j.gotE 8 rfl (hR.was rfl 8 rfl))) ; exact o_fieldAddr (s.ev rfl) off30_1 (j.did hok rfl (GS.Le.refl _) j.holds j.hr rfl)))
  · exact step_of rfl (fun D a w G H hR j => by (have hH := j.hr ; subst H ; have s := (j.sf.know _ _ (j.gotE 9 rfl (hR.was rfl 9 rfl))) ; exact o_loadOne (s.ev rfl) ag5 ((j.holds.rowI 2 0 (cs := [.int .u8 d.p2.index]) (o := 9) rfl rfl rfl) 0 _ rfl) (j.did hok rfl (GS.Le.refl _) j.holds j.hr rfl)))
  · exact step_of rfl (fun D a w G H hR j => by (have s := ((j.sf.know _ _ (j.gotE 5 rfl (hR.was rfl 5 rfl))).know _ _ (j.gotE 10 rfl (hR.was rfl 10 rfl))) ; exact o_build s (vs := [(0, .int .u8 d.p2.group), (1, .int .u8 d.p2.index)]) (z := .agg #[.int .u8 d.p2.group, .int .u8 d.p2.index]) rfl (by kernel_rfl) (j.did hok rfl (GS.Le.refl _) j.holds j.hr rfl)))
  · exact step_of rfl (fun D a w G H hR j => by (have s := j.sf ; exact o_fieldAddr (s.ev rfl) off40_3 (j.did hok rfl (GS.Le.refl _) j.holds j.hr rfl)))
  have s78 := (((((((((((((j.sf.know _ _ (j.gotE 0 rfl (hall 0 (by decide)))).know _ _ (j.gotE 1 rfl (hall 1 (by decide)))).know _ _ (j.gotE 2 rfl (hall 2 (by decide)))).know _ _ (j.gotE 3 rfl (hall 3 (by decide)))).know _ _ (j.gotE 4 rfl (hall 4 (by decide)))).know _ _ (j.gotE 5 rfl (hall 5 (by decide)))).know _ _ (j.gotE 6 rfl (hall 6 (by decide)))).know _ _ (j.gotE 7 rfl (hall 7 (by decide)))).know _ _ (j.gotE 8 rfl (hall 8 (by decide)))).know _ _ (j.gotE 9 rfl (hall 9 (by decide)))).know _ _ (j.gotE 10 rfl (hall 10 (by decide)))).know _ _ (j.gotE 11 rfl (hall 11 (by decide)))).know _ _ (j.gotE 12 rfl (hall 12 (by decide))))
  have hH := j.hr
  subst H
  have hle84 := j.le
  have hG82 := hG57.trans hle84
  have h83 : Holds _ _ ([(b11, .cells #[.int .u8 d.client.node, .int .u16 d.client.life, .int .u32 d.seq, .int .u8 d.depth, .int .u8 d.p0.group, .int .u8 d.p0.index, .int .u8 d.p1.group, .int .u8 d.p1.index, .int .u8 0, .int .u8 0] 40 (0, 0))] :: [(b6, .cells #[.int .u8 0, .int .u16 0, .int .u32 0, .int .u8 0, .int .u8 0, .int .u8 0, .int .u8 0, .int .u8 0, .int .u8 0, .int .u8 0] 40 (0, 0))] :: [(b1, .cells #[.int .u8 d.client.node, .int .u16 d.client.life, .int .u32 d.seq, .int .u8 d.depth, .int .u8 d.p0.group, .int .u8 d.p0.index, .int .u8 d.p1.group, .int .u8 d.p1.index, .int .u8 d.p2.group, .int .u8 d.p2.index] 33 (0, 0))] :: F) := j.holds
  clear j hall hok
  refine q_of s78 rfl (fun _ k => o_idxA (s78.ev rfl) (s78.ev rfl) und38 sz37 (i := 2) rfl (by decide) rfl k) (fun a85 s86 => ?_)
  refine q_store s86 rfl rfl sz37 rfl h83 (j := 0) rfl rfl rfl (cl := [.int .u8 d.client.node, .int .u16 d.client.life, .int .u32 d.seq, .int .u8 d.depth, .int .u8 d.p0.group, .int .u8 d.p0.index, .int .u8 d.p1.group, .int .u8 d.p1.index, .int .u8 d.p2.group, .int .u8 d.p2.index]) (by kernel_rfl) (fun a87 w89 s88 h90 => ?_)
  have h90 : Holds _ _ ([(b11, .cells #[.int .u8 d.client.node, .int .u16 d.client.life, .int .u32 d.seq, .int .u8 d.depth, .int .u8 d.p0.group, .int .u8 d.p0.index, .int .u8 d.p1.group, .int .u8 d.p1.index, .int .u8 d.p2.group, .int .u8 d.p2.index] 40 (0, 0))] :: [(b6, .cells #[.int .u8 0, .int .u16 0, .int .u32 0, .int .u8 0, .int .u8 0, .int .u8 0, .int .u8 0, .int .u8 0, .int .u8 0, .int .u8 0] 40 (0, 0))] :: [(b1, .cells #[.int .u8 d.client.node, .int .u16 d.client.life, .int .u32 d.seq, .int .u8 d.depth, .int .u8 d.p0.group, .int .u8 d.p0.index, .int .u8 d.p1.group, .int .u8 d.p1.index, .int .u8 d.p2.group, .int .u8 d.p2.index] 33 (0, 0))] :: F) := h90
  refine wpList_nil ?_
  refine x_blk_n ?_
  refine x_then_n ?_
  refine wp_region_lit ?_
  refine q_of s88 rfl (fun _ k => o_move (s88.ev rfl) k) (fun a91 s92 => ?_)
  refine q_of s92 rfl (fun _ k => o_add (s92.ev rfl) (s92.ev rfl) (z := 3) rfl k) (fun a93 s94 => ?_)
  refine q_of s94 rfl (fun _ k => o_assign (s94.ev rfl) k) (fun a95 s96 => ?_)
  refine wpList_nil ?_
  refine x_then_n ?_
  refine rounds_step (n := 0) ?_
  refine wp_seq ?_
  refine wp_seq ?_
  refine wp_region_lit ?_
  refine q_of s96 rfl (fun _ k => o_move (s96.ev rfl) k) (fun a97 s98 => ?_)
  refine q_of s98 rfl (fun _ k => o_lss (s98.ev rfl) (s98.ev rfl) k) (fun a99 s100 => ?_)
  refine wpList_nil ?_
  refine x_then_n ?_
  refine q_iff s100 rfl rfl ?_
  refine wp_exit ?_
  refine x_then_x ?_
  refine x_then_x ?_
  refine x_blk_x ?_
  refine x_then_n ?_
  refine wp_seq ?_
  refine wp_region_lit ?_
  refine q_of s100 rfl (fun _ k => o_loadAgg (s100.ev rfl) ag40 sz40 (cs := [.int .u8 d.client.node, .int .u16 d.client.life, .int .u32 d.seq, .int .u8 d.depth, .int .u8 d.p0.group, .int .u8 d.p0.index, .int .u8 d.p1.group, .int .u8 d.p1.index, .int .u8 d.p2.group, .int .u8 d.p2.index]) rfl (h90.rowI 0 0 (cs := [.int .u8 d.client.node, .int .u16 d.client.life, .int .u32 d.seq, .int .u8 d.depth, .int .u8 d.p0.group, .int .u8 d.p0.index, .int .u8 d.p1.group, .int .u8 d.p1.index, .int .u8 d.p2.group, .int .u8 d.p2.index]) (o := 0) rfl rfl rfl) k) (fun a102 s103 => ?_)
  have h104 : Holds _ _ ([(b6, .cells #[.int .u8 0, .int .u16 0, .int .u32 0, .int .u8 0, .int .u8 0, .int .u8 0, .int .u8 0, .int .u8 0, .int .u8 0, .int .u8 0] 40 (0, 0))] :: [(b11, .cells #[.int .u8 d.client.node, .int .u16 d.client.life, .int .u32 d.seq, .int .u8 d.depth, .int .u8 d.p0.group, .int .u8 d.p0.index, .int .u8 d.p1.group, .int .u8 d.p1.index, .int .u8 d.p2.group, .int .u8 d.p2.index] 40 (0, 0))] :: [(b1, .cells #[.int .u8 d.client.node, .int .u16 d.client.life, .int .u32 d.seq, .int .u8 d.depth, .int .u8 d.p0.group, .int .u8 d.p0.index, .int .u8 d.p1.group, .int .u8 d.p1.index, .int .u8 d.p2.group, .int .u8 d.p2.index] 33 (0, 0))] :: F) := h90.front 1 rfl
  refine q_store s103 rfl rfl sz40 rfl h104 (j := 0) rfl rfl rfl (cl := [.int .u8 d.client.node, .int .u16 d.client.life, .int .u32 d.seq, .int .u8 d.depth, .int .u8 d.p0.group, .int .u8 d.p0.index, .int .u8 d.p1.group, .int .u8 d.p1.index, .int .u8 d.p2.group, .int .u8 d.p2.index]) (by kernel_rfl) (fun a105 w107 s106 h108 => ?_)
  have h108 : Holds _ _ ([(b6, .cells #[.int .u8 d.client.node, .int .u16 d.client.life, .int .u32 d.seq, .int .u8 d.depth, .int .u8 d.p0.group, .int .u8 d.p0.index, .int .u8 d.p1.group, .int .u8 d.p1.index, .int .u8 d.p2.group, .int .u8 d.p2.index] 40 (0, 0))] :: [(b11, .cells #[.int .u8 d.client.node, .int .u16 d.client.life, .int .u32 d.seq, .int .u8 d.depth, .int .u8 d.p0.group, .int .u8 d.p0.index, .int .u8 d.p1.group, .int .u8 d.p1.index, .int .u8 d.p2.group, .int .u8 d.p2.index] 40 (0, 0))] :: [(b1, .cells #[.int .u8 d.client.node, .int .u16 d.client.life, .int .u32 d.seq, .int .u8 d.depth, .int .u8 d.p0.group, .int .u8 d.p0.index, .int .u8 d.p1.group, .int .u8 d.p1.index, .int .u8 d.p2.group, .int .u8 d.p2.index] 33 (0, 0))] :: F) := h108
  refine wpList_nil ?_
  refine x_then_n ?_
  refine wp_ret ?_
  refine finc s106 rfl rfl (run_loadVarAgg ag40 sz40 (cs := [.int .u8 d.client.node, .int .u16 d.client.life, .int .u32 d.seq, .int .u8 d.depth, .int .u8 d.p0.group, .int .u8 d.p0.index, .int .u8 d.p1.group, .int .u8 d.p1.index, .int .u8 d.p2.group, .int .u8 d.p2.index]) rfl (h108.rowI 0 0 (cs := [.int .u8 d.client.node, .int .u16 d.client.life, .int .u32 d.seq, .int .u8 d.depth, .int .u8 d.p0.group, .int .u8 d.p0.index, .int .u8 d.p1.group, .int .u8 d.p1.index, .int .u8 d.p2.group, .int .u8 d.p2.index]) (o := 0) rfl rfl rfl)) ⟨_, _, rfl, hG82, h108.drop.drop.drop, ?_⟩
  rfl

theorem bCopy_spec {b_T b : Nat} {b_l : List UInt8} {b_k : Chunk} {G : GS} {w : World} {F : List Chunk} (h_b_T : BldT b_T) (h_b : BuildC b_T b b_l b_k) (h : Holds G w (b_k :: F)) :
    Calls Tryd.prog 67 #[.pointer (some ⟨b, 0, none⟩)] w (RetO G F fun G v c1 => v = .tuple #[] ∧ BuildC b_T b (b_l) c1) := by
  obtain ⟨p, ao, cap, cr, hp, r, hao, rfl⟩ := h_b
  refine enter (N := 20) (L := [(0, .pointer (some ⟨b, 0, none⟩))]) rfl Tryd.func67 rfl rfl rfl (fun a0 s0 => ?_)
  rcases hp with rfl | rfl
  ·
    have h : Holds _ _ ([(b, .cells #[.pointer none, .slice ao b_l.length cap] b_T (0, 0))] :: cr :: F) := h.split
    refine wp_seq ?_
    refine wp_region_lit ?_
    refine q_of s0 rfl (fun _ k => o_move (s0.ev rfl) k) (fun a1 s2 => ?_)
    refine q_of s2 rfl (fun _ k => o_nil (s2.ev rfl) rfl k) (fun a3 s4 => ?_)
    refine q_of s4 rfl (fun _ k => o_fieldAddr (s4.ev rfl) off82_0 k) (fun a5 s6 => ?_)
    refine q_of s6 rfl (fun _ k => o_loadOne (s6.ev rfl) ag79 ((h.rowI 0 0 (cs := [.pointer none]) (o := 0) rfl rfl rfl) 0 _ rfl) k) (fun a7 s8 => ?_)
    refine q_of s8 rfl (fun _ k => o_bin (s8.ev rfl) (s8.ev rfl) (z := .bool true) (by kernel_rfl) k) (fun a9 s10 => ?_)
    refine wpList_nil ?_
    refine x_then_n ?_
    refine q_ift s10 rfl rfl ?_
    refine wp_region_lit ?_
    refine q_of s10 rfl (fun _ k => o_move (s10.ev rfl) k) (fun a12 s13 => ?_)
    refine q_of s13 rfl (fun _ k => o_move (s13.ev rfl) k) (fun a14 s15 => ?_)
    refine q_of s15 rfl (fun _ k => o_toUnsafe (s15.ev rfl) und79 und199 sz82 rfl (h.shapeI 0 0 rfl rfl) rfl k) (fun a16 s17 => ?_)
    refine q_of s17 rfl (fun _ k => o_noEscape (s17.ev rfl) Tryd.func94 (by kernel_rfl) (by kernel_rfl) (by kernel_rfl) (by kernel_rfl) k) (fun a18 s19 => ?_)
    refine q_of s19 rfl (fun _ k => o_fromUnsafe (s19.ev rfl) und199 und79 some82 (h.shapeI 0 0 rfl rfl) h_b_T k) (fun a20 s21 => ?_)
    refine q_of s21 rfl (fun _ k => o_nil (s21.ev rfl) rfl k) (fun a22 s23 => ?_)
    refine q_of s23 rfl (fun _ k => o_fieldAddr (s23.ev rfl) off82_0 k) (fun a24 s25 => ?_)
    refine q_store s25 rfl rfl sz79 rfl h (j := 0) rfl rfl rfl (cl := [.pointer (some ⟨b, 0, none⟩), .slice ao b_l.length cap]) (by kernel_rfl) (fun a26 w28 s27 h29 => ?_)
    have h29 : Holds _ _ ([(b, .cells #[.pointer (some ⟨b, 0, none⟩), .slice ao b_l.length cap] b_T (0, 0))] :: cr :: F) := h29
    refine wpList_nil ?_
    have h30 : Holds _ _ (cr :: [(b, .cells #[.pointer (some ⟨b, 0, none⟩), .slice ao b_l.length cap] b_T (0, 0))] :: F) := h29.front 1 rfl
    have h31 : Holds _ _ ([(b, .cells #[.pointer (some ⟨b, 0, none⟩), .slice ao b_l.length cap] b_T (0, 0))] :: cr :: F) := h30.front 1 rfl
    exact fin0n s27 rfl ⟨_, _, _, rfl, (GS.Le.refl _), h31.join, rfl, ⟨_, _, _, _, (.inr rfl), r, hao, rfl⟩⟩
  ·
    have h : Holds _ _ ([(b, .cells #[.pointer (some ⟨b, 0, none⟩), .slice ao b_l.length cap] b_T (0, 0))] :: cr :: F) := h.split
    refine wp_seq ?_
    refine wp_region_lit ?_
    refine q_of s0 rfl (fun _ k => o_move (s0.ev rfl) k) (fun a32 s33 => ?_)
    refine q_of s33 rfl (fun _ k => o_nil (s33.ev rfl) rfl k) (fun a34 s35 => ?_)
    refine q_of s35 rfl (fun _ k => o_fieldAddr (s35.ev rfl) off82_0 k) (fun a36 s37 => ?_)
    refine q_of s37 rfl (fun _ k => o_loadOne (s37.ev rfl) ag79 ((h.rowI 0 0 (cs := [.pointer (some ⟨b, 0, none⟩)]) (o := 0) rfl rfl rfl) 0 _ rfl) k) (fun a38 s39 => ?_)
    refine q_of s39 rfl (fun _ k => o_bin (s39.ev rfl) (s39.ev rfl) (z := .bool false) (by kernel_rfl) k) (fun a40 s41 => ?_)
    refine wpList_nil ?_
    refine x_then_n ?_
    refine q_iff s41 rfl rfl ?_
    refine wp_seq ?_
    refine wp_region_lit ?_
    refine q_of s41 rfl (fun _ k => o_move (s41.ev rfl) k) (fun a43 s44 => ?_)
    refine q_of s44 rfl (fun _ k => o_nil (s44.ev rfl) rfl k) (fun a45 s46 => ?_)
    refine q_of s46 rfl (fun _ k => o_fieldAddr (s46.ev rfl) off82_0 k) (fun a47 s48 => ?_)
    refine q_of s48 rfl (fun _ k => o_loadOne (s48.ev rfl) ag79 ((h.rowI 0 0 (cs := [.pointer (some ⟨b, 0, none⟩)]) (o := 0) rfl rfl rfl) 0 _ rfl) k) (fun a49 s50 => ?_)
    refine q_of s50 rfl (fun _ k => o_move (s50.ev rfl) k) (fun a51 s52 => ?_)
    refine q_of s52 rfl (fun _ k => o_pneqSelf (s52.ev rfl) (s52.ev rfl) und79 sz82 rfl k) (fun a53 s54 => ?_)
    refine wpList_nil ?_
    refine x_then_n ?_
    refine q_iff s54 rfl rfl ?_
    refine wp_skip ?_
    have h56 : Holds _ _ (cr :: [(b, .cells #[.pointer (some ⟨b, 0, none⟩), .slice ao b_l.length cap] b_T (0, 0))] :: F) := h.front 1 rfl
    have h57 : Holds _ _ ([(b, .cells #[.pointer (some ⟨b, 0, none⟩), .slice ao b_l.length cap] b_T (0, 0))] :: cr :: F) := h56.front 1 rfl
    exact fin0n s54 rfl ⟨_, _, _, rfl, (GS.Le.refl _), h57.join, rfl, ⟨_, _, _, _, (.inr rfl), r, hao, rfl⟩⟩

theorem bStr_spec {b_T b : Nat} {b_l : List UInt8} {b_k : Chunk} (t : List UInt8) {G : GS} {w : World} {F : List Chunk} (h_b_T : BldT b_T) (h_b : BuildC b_T b b_l b_k) (hl : b_l.length + t.length ≤ 140737488355328) (h : Holds G w (b_k :: F)) :
    Calls Tryd.prog 34 #[.pointer (some ⟨b, 0, none⟩), S t] w (RetO G F fun G v c1 => v = .tuple #[.int .i64 (t.length : Int), .nilIface] ∧ BuildC b_T b (b_l ++ t) c1) := by
  refine enter (N := 19) (L := [(0, .pointer (some ⟨b, 0, none⟩)), (1, S t)]) rfl Tryd.func34 rfl rfl rfl (fun a0 s0 => ?_)
  refine wp_seq ?_
  refine wp_region_lit ?_
  refine q_of s0 rfl (fun _ k => o_assign (s0.ev rfl) k) (fun a1 s2 => ?_)
  refine q_of s2 rfl (fun _ k => o_assign (s2.ev rfl) k) (fun a3 s4 => ?_)
  refine wpList_nil ?_
  refine x_then_n ?_
  refine wp_seq ?_
  refine wp_region_lit ?_
  refine q_of s4 rfl (fun _ k => o_move (s4.ev rfl) k) (fun a5 s6 => ?_)
  refine q_callO s6 rfl ok67 rfl (bCopy_spec  h_b_T h_b h) (fun a7 w9 v14 G11 c16 hs15 h10 hv13 s8 => ?_)
  obtain ⟨v14e, hb17⟩ := hv13
  subst v14e
  have hG12 := (GS.Le.refl _).trans hs15
  refine wpList_nil ?_
  refine x_then_n ?_
  refine wp_seq ?_
  refine wp_region_lit ?_
  obtain ⟨p18, ao19, cap20, cr21, hp22, r23, hao24, rfl⟩ := hb17
  have h25 : Holds _ _ ([(b, .cells #[p18, .slice ao19 b_l.length cap20] b_T (0, 0))] :: cr21 :: F) := h10.split
  refine q_of s8 rfl (fun _ k => o_move (s8.ev rfl) k) (fun a26 s27 => ?_)
  refine q_of s27 rfl (fun _ k => o_move (s27.ev rfl) k) (fun a28 s29 => ?_)
  refine q_of s29 rfl (fun _ k => o_nil (s29.ev rfl) rfl k) (fun a30 s31 => ?_)
  refine q_of s31 rfl (fun _ k => o_fieldAddr (s31.ev rfl) off82_1 k) (fun a32 s33 => ?_)
  refine q_of s33 rfl (fun _ k => o_loadOne (s33.ev rfl) ag80 ((h25.rowI 0 0 (cs := [.slice ao19 b_l.length cap20]) (o := 1) rfl rfl rfl) 0 _ rfl) k) (fun a34 s35 => ?_)
  refine q_of s35 rfl (fun _ k => o_move (s35.ev rfl) k) (fun a36 s37 => ?_)
  have h38 : Holds _ _ (cr21 :: [(b, .cells #[p18, .slice ao19 b_l.length cap20] b_T (0, 0))] :: F) := h25.front 1 rfl
  refine q_appendS s37 rfl r23 h38 rfl rfl und80 und9 elem5 zv5 (by omega) (fun a39 w41 ao43 cap44 c45 s40 r46 h42 hn47 => ?_)
  refine q_of s40 rfl (fun _ k => o_nil (s40.ev rfl) rfl k) (fun a48 s49 => ?_)
  refine q_of s49 rfl (fun _ k => o_fieldAddr (s49.ev rfl) off82_1 k) (fun a50 s51 => ?_)
  have h52 : Holds _ _ ([(b, .cells #[p18, .slice ao19 b_l.length cap20] b_T (0, 0))] :: c45 :: F) := h42.front 1 rfl
  refine q_store s51 rfl rfl sz80 rfl h52 (j := 0) rfl rfl rfl (cl := [p18, .slice ao43 (b_l.length + t.length) cap44]) (by kernel_rfl) (fun a53 w55 s54 h56 => ?_)
  have h56 : Holds _ _ ([(b, .cells #[p18, .slice ao43 (b_l.length + t.length) cap44] b_T (0, 0))] :: c45 :: F) := h56
  refine wpList_nil ?_
  refine x_then_n ?_
  refine wp_seq ?_
  refine wp_region_lit ?_
  refine q_of s54 rfl (fun _ k => o_move (s54.ev rfl) k) (fun a57 s58 => ?_)
  refine q_of s58 rfl (fun _ k => o_slen (s58.ev rfl) und9 k) (fun a59 s60 => ?_)
  refine q_of s60 rfl (fun _ k => o_assign (s60.ev rfl) k) (fun a61 s62 => ?_)
  refine q_of s62 rfl (fun _ k => o_assign (s62.ev rfl) k) (fun a63 s64 => ?_)
  refine wpList_nil ?_
  refine x_then_n ?_
  refine wp_ret ?_
  have h65 : Holds _ _ (c45 :: [(b, .cells #[p18, .slice ao43 (b_l.length + t.length) cap44] b_T (0, 0))] :: F) := h56.front 1 rfl
  have h66 : Holds _ _ ([(b, .cells #[p18, .slice ao43 (b_l.length + t.length) cap44] b_T (0, 0))] :: c45 :: F) := h65.front 1 rfl
  rw [show b_l.length + t.length = (b_l ++ t).length from (List.length_append ..).symm] at h66 r46
  rw [← List.map_append] at r46
  exact fin2 s64 rfl rfl rfl ⟨_, _, _, rfl, hG12, h66.join, rfl, ⟨_, _, _, _, hp22, r46, (fun e => hn47.2 ⟨hao24 (List.append_eq_nil_iff.1 e).1, (List.append_eq_nil_iff.1 e).2⟩), rfl⟩⟩

theorem bByte_spec {b_T b : Nat} {b_l : List UInt8} {b_k : Chunk} (c : Int) {G : GS} {w : World} {F : List Chunk} (h_b_T : BldT b_T) (h_b : BuildC b_T b b_l b_k) (h_c : 0 ≤ c ∧ c ≤ 255) (hl : b_l.length + 1 ≤ 140737488355328) (h : Holds G w (b_k :: F)) :
    Calls Tryd.prog 62 #[.pointer (some ⟨b, 0, none⟩), .int .u8 c] w (RetO G F fun G v c1 => v = .nilIface ∧ BuildC b_T b (b_l ++ [UInt8.ofNat c.toNat]) c1) := by
  refine enter (N := 17) (L := [(0, .pointer (some ⟨b, 0, none⟩)), (1, .int .u8 c)]) rfl Tryd.func62 rfl rfl rfl (fun a0 s0 => ?_)
  refine wp_seq ?_
  refine wp_region_lit ?_
  refine q_of s0 rfl (fun _ k => o_assign (s0.ev rfl) k) (fun a1 s2 => ?_)
  refine wpList_nil ?_
  refine x_then_n ?_
  refine wp_seq ?_
  refine wp_region_lit ?_
  refine q_of s2 rfl (fun _ k => o_move (s2.ev rfl) k) (fun a3 s4 => ?_)
  refine q_callO s4 rfl ok67 rfl (bCopy_spec  h_b_T h_b h) (fun a5 w7 v12 G9 c14 hs13 h8 hv11 s6 => ?_)
  obtain ⟨v12e, hb15⟩ := hv11
  subst v12e
  have hG10 := (GS.Le.refl _).trans hs13
  refine wpList_nil ?_
  refine x_then_n ?_
  refine wp_seq ?_
  refine wp_region_lit ?_
  obtain ⟨p16, ao17, cap18, cr19, hp20, r21, hao22, rfl⟩ := hb15
  have h23 : Holds _ _ ([(b, .cells #[p16, .slice ao17 b_l.length cap18] b_T (0, 0))] :: cr19 :: F) := h8.split
  refine q_of s6 rfl (fun _ k => o_move (s6.ev rfl) k) (fun a24 s25 => ?_)
  refine q_of s25 rfl (fun _ k => o_move (s25.ev rfl) k) (fun a26 s27 => ?_)
  refine q_of s27 rfl (fun _ k => o_nil (s27.ev rfl) rfl k) (fun a28 s29 => ?_)
  refine q_of s29 rfl (fun _ k => o_fieldAddr (s29.ev rfl) off82_1 k) (fun a30 s31 => ?_)
  refine q_of s31 rfl (fun _ k => o_loadOne (s31.ev rfl) ag80 ((h23.rowI 0 0 (cs := [.slice ao17 b_l.length cap18]) (o := 1) rfl rfl rfl) 0 _ rfl) k) (fun a32 s33 => ?_)
  refine q_of s33 rfl (fun _ k => o_move (s33.ev rfl) k) (fun a34 s35 => ?_)
  refine q_buildSlice s35 rfl h23 (vs := [(0, .int .u8 c)]) (cl := [.int .u8 c]) (E := 5) rfl (fun w => by kernel_rfl) (fun a37 w39 b36 s38 h40 => ?_)
  have h40 : Holds _ _ ([(b36, .cells #[.int .u8 c] 5 (0, 0))] :: [(b, .cells #[p16, .slice ao17 b_l.length cap18] b_T (0, 0))] :: cr19 :: F) := h40
  have h41 : Holds _ _ (cr19 :: [(b36, .cells #[.int .u8 c] 5 (0, 0))] :: [(b, .cells #[p16, .slice ao17 b_l.length cap18] b_T (0, 0))] :: F) := h40.front 2 rfl
  refine q_append s38 rfl r21 h41 rfl rfl und80 elem5 (news := [.int .u8 c]) rfl (h41.rowI 1 0 (o := 0) rfl rfl rfl) rfl (by omega) (by omega) (fun a42 w44 ao46 cap47 c48 s43 r49 h45 => ?_)
  have h50 : Holds _ _ ([(b36, .cells #[.int .u8 c] 5 (0, 0))] :: c48 :: [(b, .cells #[p16, .slice ao17 b_l.length cap18] b_T (0, 0))] :: F) := h45.front 1 rfl
  have h51 : Holds _ _ (c48 :: [(b, .cells #[p16, .slice ao17 b_l.length cap18] b_T (0, 0))] :: F) := h50.drop
  refine q_of s43 rfl (fun _ k => o_nil (s43.ev rfl) rfl k) (fun a52 s53 => ?_)
  refine q_of s53 rfl (fun _ k => o_fieldAddr (s53.ev rfl) off82_1 k) (fun a54 s55 => ?_)
  have h56 : Holds _ _ ([(b, .cells #[p16, .slice ao17 b_l.length cap18] b_T (0, 0))] :: c48 :: F) := h51.front 1 rfl
  refine q_store s55 rfl rfl sz80 rfl h56 (j := 0) rfl rfl rfl (cl := [p16, .slice ao46 (b_l.length + 1) cap47]) (by kernel_rfl) (fun a57 w59 s58 h60 => ?_)
  have h60 : Holds _ _ ([(b, .cells #[p16, .slice ao46 (b_l.length + 1) cap47] b_T (0, 0))] :: c48 :: F) := h60
  refine wpList_nil ?_
  refine x_then_n ?_
  refine wp_seq ?_
  refine wp_region_lit ?_
  refine q_of s58 rfl (fun _ k => o_assign (s58.ev rfl) k) (fun a61 s62 => ?_)
  refine wpList_nil ?_
  refine x_then_n ?_
  refine wp_ret ?_
  have h63 : Holds _ _ (c48 :: [(b, .cells #[p16, .slice ao46 (b_l.length + 1) cap47] b_T (0, 0))] :: F) := h60.front 1 rfl
  have h64 : Holds _ _ ([(b, .cells #[p16, .slice ao46 (b_l.length + 1) cap47] b_T (0, 0))] :: c48 :: F) := h63.front 1 rfl
  have r49 := r49.cast (n' := (b_l ++ [UInt8.ofNat c.toNat]).length) (xs' := (b_l ++ [UInt8.ofNat c.toNat]).map u8) (by simp) (by rw [u8_of h_c, List.map_append]; rfl)
  rw [show b_l.length + 1 = (b_l ++ [UInt8.ofNat c.toNat]).length by simp] at h64
  exact fin1 s62 rfl rfl ⟨_, _, _, rfl, hG10, h64.join, rfl, ⟨_, _, _, _, hp20, r49, (fun e => by simp at e), rfl⟩⟩

theorem bGet_spec {b_T b : Nat} {b_l : List UInt8} {b_k : Chunk} {G : GS} {w : World} {F : List Chunk} (h_b_T : BldT b_T) (h_b : BuildC b_T b b_l b_k) (h : Holds G w (b_k :: F)) :
    Calls Tryd.prog 28 #[.pointer (some ⟨b, 0, none⟩)] w (Ret G F fun G v => v = S b_l) := by
  obtain ⟨p, ao, cap, cr, hp, r, hao, rfl⟩ := h_b
  refine enter (N := 14) (L := [(0, .pointer (some ⟨b, 0, none⟩))]) rfl Tryd.func28 rfl rfl rfl (fun a0 s0 => ?_)
  rcases bEmpty b_l r hao with ⟨rfl, rfl, rfl⟩ | ⟨g0, rfl, hc, hne⟩
  ·
    have h : Holds _ _ ([(b, .cells #[p, .slice none 0 0] b_T (0, 0))] :: cr :: F) := h.split
    refine wp_seq ?_
    refine wp_region_lit ?_
    refine q_of s0 rfl (fun _ k => o_assign (s0.ev rfl) k) (fun a1 s2 => ?_)
    refine wpList_nil ?_
    refine x_then_n ?_
    refine wp_seq ?_
    have hok : okX 14 [(0, .pointer (some ⟨b, 0, none⟩))] [(some 3, Fact.eq (.pointer (some ⟨b, 0, none⟩))), (some 4, Fact.eq (.pointer (some ⟨b, 0, none⟩))), (some 5, Fact.eq (.pointer (some ⟨b, 1, none⟩))), (some 6, Fact.eq (.slice none 0 0)), (some 7, Fact.eq (.pointer none)), (some 8, Fact.eq (.pointer (some ⟨b, 0, none⟩))), (some 9, Fact.eq (.pointer (some ⟨b, 0, none⟩))), (some 10, Fact.eq (.pointer (some ⟨b, 1, none⟩))), (some 11, Fact.eq (.slice none 0 0)), (some 12, Fact.eq (.int .i64 0)), (some 13, Fact.eq (S [])), (some 2, Fact.eq (S []))] [] = true := rfl
    refine region_draw (N := 14) (L0 := [(0, .pointer (some ⟨b, 0, none⟩))]) (X := [(some 3, Fact.eq (.pointer (some ⟨b, 0, none⟩))), (some 4, Fact.eq (.pointer (some ⟨b, 0, none⟩))), (some 5, Fact.eq (.pointer (some ⟨b, 1, none⟩))), (some 6, Fact.eq (.slice none 0 0)), (some 7, Fact.eq (.pointer none)), (some 8, Fact.eq (.pointer (some ⟨b, 0, none⟩))), (some 9, Fact.eq (.pointer (some ⟨b, 0, none⟩))), (some 10, Fact.eq (.pointer (some ⟨b, 1, none⟩))), (some 11, Fact.eq (.slice none 0 0)), (some 12, Fact.eq (.int .i64 0)), (some 13, Fact.eq (S [])), (some 2, Fact.eq (S []))]) (O := []) (HR := fun D a _ H => H = ([(b, .cells #[p, .slice none 0 0] b_T (0, 0))] :: cr :: F)) mixed rfl h rfl (s2.sub (all_cons rfl (all_nil))) (fun i k t v hi => by simp at hi) ⟨?_, ?_, ?_, ?_, ?_, ?_, ?_, ?_, ?_, ?_, ?_, ?_, trivial⟩ (fun D a w G H hall j => ?_)
    · exact step_of rfl (fun D a w G H hR j => by (have s := j.sf ; exact o_move (s.ev rfl) (j.did hok rfl (GS.Le.refl _) j.holds j.hr rfl)))
    · exact step_of rfl (fun D a w G H hR j => by (have s := (j.sf.know _ _ (j.gotE 0 rfl (hR.was rfl 0 rfl))) ; exact o_nil (s.ev rfl) rfl (j.did hok rfl (GS.Le.refl _) j.holds j.hr rfl)))
    · exact step_of rfl (fun D a w G H hR j => by (have s := (j.sf.know _ _ (j.gotE 1 rfl (hR.was rfl 1 rfl))) ; exact o_fieldAddr (s.ev rfl) off82_1 (j.did hok rfl (GS.Le.refl _) j.holds j.hr rfl)))
    · exact step_of rfl (fun D a w G H hR j => by (have hH := j.hr ; subst H ; have s := (j.sf.know _ _ (j.gotE 2 rfl (hR.was rfl 2 rfl))) ; exact o_loadOne (s.ev rfl) ag80 ((j.holds.rowI 0 0 (cs := [.slice none 0 0]) (o := 1) rfl rfl rfl) 0 _ rfl) (j.did hok rfl (GS.Le.refl _) j.holds j.hr rfl)))
    · exact step_of rfl (fun D a w G H hR j => by (have s := (j.sf.know _ _ (j.gotE 3 rfl (hR.was rfl 3 rfl))) ; exact o_sliceData0 (s.ev rfl) (j.did hok rfl (GS.Le.refl _) j.holds j.hr rfl)))
    · exact step_of rfl (fun D a w G H hR j => by (have s := j.sf ; exact o_move (s.ev rfl) (j.did hok rfl (GS.Le.refl _) j.holds j.hr rfl)))
    · exact step_of rfl (fun D a w G H hR j => by (have s := (j.sf.know _ _ (j.gotE 5 rfl (hR.was rfl 5 rfl))) ; exact o_nil (s.ev rfl) rfl (j.did hok rfl (GS.Le.refl _) j.holds j.hr rfl)))
    · exact step_of rfl (fun D a w G H hR j => by (have s := (j.sf.know _ _ (j.gotE 6 rfl (hR.was rfl 6 rfl))) ; exact o_fieldAddr (s.ev rfl) off82_1 (j.did hok rfl (GS.Le.refl _) j.holds j.hr rfl)))
    · exact step_of rfl (fun D a w G H hR j => by (have hH := j.hr ; subst H ; have s := (j.sf.know _ _ (j.gotE 7 rfl (hR.was rfl 7 rfl))) ; exact o_loadOne (s.ev rfl) ag80 ((j.holds.rowI 0 0 (cs := [.slice none 0 0]) (o := 1) rfl rfl rfl) 0 _ rfl) (j.did hok rfl (GS.Le.refl _) j.holds j.hr rfl)))
    · exact step_of rfl (fun D a w G H hR j => by (have s := (j.sf.know _ _ (j.gotE 8 rfl (hR.was rfl 8 rfl))) ; exact o_len (s.ev rfl) und80 (j.did hok rfl (GS.Le.refl _) j.holds j.hr rfl)))
    · exact step_of rfl (fun D a w G H hR j => by (have s := ((j.sf.know _ _ (j.gotE 4 rfl (hR.was rfl 4 rfl))).know _ _ (j.gotE 9 rfl (hR.was rfl 9 rfl))) ; exact o_unsafeString0 (s.ev rfl) (s.ev rfl) (j.did hok rfl (GS.Le.refl _) j.holds j.hr rfl)))
    · exact step_of rfl (fun D a w G H hR j => by (have s := (j.sf.know _ _ (j.gotE 10 rfl (hR.was rfl 10 rfl))) ; exact o_assign (s.ev rfl) (j.did hok rfl (GS.Le.refl _) j.holds j.hr rfl)))
    have s4 := (j.sf.know _ _ (j.gotE 11 rfl (hall 11 (by decide))))
    have hH := j.hr
    subst H
    have hle10 := j.le
    have hG8 := (GS.Le.refl _).trans hle10
    have h9 : Holds _ _ ([(b, .cells #[p, .slice none 0 0] b_T (0, 0))] :: cr :: F) := j.holds
    clear j hall hok
    refine x_then_n ?_
    refine wp_ret ?_
    refine fin1 s4 rfl rfl ⟨_, _, rfl, hG8, h9.drop.drop, ?_⟩
    rfl
  ·
    have h : Holds _ _ ([(b, .cells #[p, .slice (some ⟨g0, 0, none⟩) b_l.length cap] b_T (0, 0))] :: cr :: F) := h.split
    refine wp_seq ?_
    refine wp_region_lit ?_
    refine q_of s0 rfl (fun _ k => o_assign (s0.ev rfl) k) (fun a11 s12 => ?_)
    refine wpList_nil ?_
    refine x_then_n ?_
    refine wp_seq ?_
    have hok : okX 14 [(0, .pointer (some ⟨b, 0, none⟩))] [(some 3, Fact.eq (.pointer (some ⟨b, 0, none⟩))), (some 4, Fact.eq (.pointer (some ⟨b, 0, none⟩))), (some 5, Fact.eq (.pointer (some ⟨b, 1, none⟩))), (some 6, Fact.eq (.slice (some ⟨g0, 0, none⟩) b_l.length cap)), (some 7, Fact.eq (.pointer (some ⟨g0, 0, none⟩))), (some 8, Fact.eq (.pointer (some ⟨b, 0, none⟩))), (some 9, Fact.eq (.pointer (some ⟨b, 0, none⟩))), (some 10, Fact.eq (.pointer (some ⟨b, 1, none⟩))), (some 11, Fact.eq (.slice (some ⟨g0, 0, none⟩) b_l.length cap)), (some 12, Fact.eq (.int .i64 (b_l.length : Int))), (some 13, Fact.eq (S b_l)), (some 2, Fact.eq (S b_l))] [] = true := rfl
    refine region_draw (N := 14) (L0 := [(0, .pointer (some ⟨b, 0, none⟩))]) (X := [(some 3, Fact.eq (.pointer (some ⟨b, 0, none⟩))), (some 4, Fact.eq (.pointer (some ⟨b, 0, none⟩))), (some 5, Fact.eq (.pointer (some ⟨b, 1, none⟩))), (some 6, Fact.eq (.slice (some ⟨g0, 0, none⟩) b_l.length cap)), (some 7, Fact.eq (.pointer (some ⟨g0, 0, none⟩))), (some 8, Fact.eq (.pointer (some ⟨b, 0, none⟩))), (some 9, Fact.eq (.pointer (some ⟨b, 0, none⟩))), (some 10, Fact.eq (.pointer (some ⟨b, 1, none⟩))), (some 11, Fact.eq (.slice (some ⟨g0, 0, none⟩) b_l.length cap)), (some 12, Fact.eq (.int .i64 (b_l.length : Int))), (some 13, Fact.eq (S b_l)), (some 2, Fact.eq (S b_l))]) (O := []) (HR := fun D a _ H => H = ((bif D 10 then F else ([(b, .cells #[p, .slice (some ⟨g0, 0, none⟩) b_l.length cap] b_T (0, 0))] :: cr :: F)))) mixed rfl h rfl (s12.sub (all_cons rfl (all_nil))) (fun i k t v hi => by simp at hi) ⟨?_, ?_, ?_, ?_, ?_, ?_, ?_, ?_, ?_, ?_, ?_, ?_, trivial⟩ (fun D a w G H hall j => ?_)
    · exact step_of rfl (fun D a w G H hR j => by (have s := j.sf ; exact o_move (s.ev rfl) (j.did hok rfl (GS.Le.refl _) j.holds j.hr rfl)))
    · exact step_of rfl (fun D a w G H hR j => by (have s := (j.sf.know _ _ (j.gotE 0 rfl (hR.was rfl 0 rfl))) ; exact o_nil (s.ev rfl) rfl (j.did hok rfl (GS.Le.refl _) j.holds j.hr rfl)))
    · exact step_of rfl (fun D a w G H hR j => by (have s := (j.sf.know _ _ (j.gotE 1 rfl (hR.was rfl 1 rfl))) ; exact o_fieldAddr (s.ev rfl) off82_1 (j.did hok rfl (GS.Le.refl _) j.holds j.hr rfl)))
    · exact step_of rfl (fun D a w G H hR j => by (have he10 : D 10 = false := (hR.not (k := 10) (j := 4) rfl rfl (hR.not (k := 4) (j := 3) rfl rfl hR.todo)) ; have hH := j.hr ; simp only [he10, cond_true, cond_false] at hH ; subst H ; have s := (j.sf.know _ _ (j.gotE 2 rfl (hR.was rfl 2 rfl))) ; exact o_loadOne (s.ev rfl) ag80 ((j.holds.rowI 0 0 (cs := [.slice (some ⟨g0, 0, none⟩) b_l.length cap]) (o := 1) rfl rfl rfl) 0 _ rfl) (j.did hok rfl (GS.Le.refl _) j.holds j.hr rfl)))
    · exact step_of rfl (fun D a w G H hR j => by (have s := (j.sf.know _ _ (j.gotE 3 rfl (hR.was rfl 3 rfl))) ; exact o_sliceData (s.ev rfl) (by omega) (j.did hok rfl (GS.Le.refl _) j.holds j.hr rfl)))
    · exact step_of rfl (fun D a w G H hR j => by (have s := j.sf ; exact o_move (s.ev rfl) (j.did hok rfl (GS.Le.refl _) j.holds j.hr rfl)))
    · exact step_of rfl (fun D a w G H hR j => by (have s := (j.sf.know _ _ (j.gotE 5 rfl (hR.was rfl 5 rfl))) ; exact o_nil (s.ev rfl) rfl (j.did hok rfl (GS.Le.refl _) j.holds j.hr rfl)))
    · exact step_of rfl (fun D a w G H hR j => by (have s := (j.sf.know _ _ (j.gotE 6 rfl (hR.was rfl 6 rfl))) ; exact o_fieldAddr (s.ev rfl) off82_1 (j.did hok rfl (GS.Le.refl _) j.holds j.hr rfl)))
    · exact step_of rfl (fun D a w G H hR j => by (have he10 : D 10 = false := (hR.not (k := 10) (j := 9) rfl rfl (hR.not (k := 9) (j := 8) rfl rfl hR.todo)) ; have hH := j.hr ; simp only [he10, cond_true, cond_false] at hH ; subst H ; have s := (j.sf.know _ _ (j.gotE 7 rfl (hR.was rfl 7 rfl))) ; exact o_loadOne (s.ev rfl) ag80 ((j.holds.rowI 0 0 (cs := [.slice (some ⟨g0, 0, none⟩) b_l.length cap]) (o := 1) rfl rfl rfl) 0 _ rfl) (j.did hok rfl (GS.Le.refl _) j.holds j.hr rfl)))
    · exact step_of rfl (fun D a w G H hR j => by (have s := (j.sf.know _ _ (j.gotE 8 rfl (hR.was rfl 8 rfl))) ; exact o_len (s.ev rfl) und80 (j.did hok rfl (GS.Le.refl _) j.holds j.hr rfl)))
    · exact step_of rfl (fun D a w G H hR j => by (have hH := j.hr ; simp only [cond_true, cond_false, hR.todo] at hH ; subst H ; have s := ((j.sf.know _ _ (j.gotE 4 rfl (hR.was rfl 4 rfl))).know _ _ (j.gotE 9 rfl (hR.was rfl 9 rfl))) ; exact o_unsafeString (j.holds.front 1 rfl).dropsnd r (s.ev rfl) (s.ev rfl) rfl und168 (by kernel_rfl) hne (fun w' hh => j.did hok rfl (GS.Le.refl _) (show Holds _ _ F from hh) (by simp only [setD_self, cond_true, cond_false, vblk_ptr, vblk_slice, put_none, getD_put_self (show 13 < a.tmps.size by rw [j.sf.size] ; decide)]) rfl)))
    · exact step_of rfl (fun D a w G H hR j => by (have s := (j.sf.know _ _ (j.gotE 10 rfl (hR.was rfl 10 rfl))) ; exact o_assign (s.ev rfl) (j.did hok rfl (GS.Le.refl _) j.holds j.hr rfl)))
    have s14 := (j.sf.know _ _ (j.gotE 11 rfl (hall 11 (by decide))))
    have hH := j.hr
    simp only [hall 10 (by decide), cond_true] at hH
    subst H
    have hle20 := j.le
    have hG18 := (GS.Le.refl _).trans hle20
    have h19 : Holds _ _ (F) := j.holds
    clear j hall hok
    refine x_then_n ?_
    refine wp_ret ?_
    refine fin1 s14 rfl rfl ⟨_, _, rfl, hG18, h19, ?_⟩
    rfl
end Go.Proofs.YtediojjcoohhoaaDoor
