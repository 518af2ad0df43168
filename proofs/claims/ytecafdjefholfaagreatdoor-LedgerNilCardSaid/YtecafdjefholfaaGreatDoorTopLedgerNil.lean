/- LedgerNil: of nothing nothing is told. Condition: the given tables are as the program lays them (the card's own). -/
import Derived.Test.YtecafdjefholfaaGreatDoorM2
import Derived.Test.YtecafdjefholfaaGreatDoorChecked
import Derived.KernelRfl
import Derived.Test.YtecafdjefholfaaGreatDoorProg
import Derived.Test.YtecafdjefholfaaGreatDoorRows
import Derived.Test.YtecafdjefholfaaGreatDoorTie
import Derived.Test.YtecafdjefholfaaGreatDoorCards
import Derived.WalkKit
import Derived.ProofKit
import Derived.OpenShut
import Derived.Below
import Derived.LaidLaws
import Derived.RowKit
import Derived.SizedLaws
namespace Go.Proofs.YtecafdjefholfaaGreatDoor
open Go Go.RowKit Go.Eng
set_option linter.unusedVariables false
set_option linter.unnecessarySimpa false
set_option maxHeartbeats 4000000
set_option maxRecDepth 100000
theorem ag22 : isAg Tryz.prog 22 = some false := by kernel_rfl
theorem ag25 : isAg Tryz.prog 25 = some false := by kernel_rfl
theorem ag5 : isAg Tryz.prog 5 = some false := by kernel_rfl
theorem ag68 : isAg Tryz.prog 68 = some true := by kernel_rfl
theorem elem9 : elemOk Tryz.prog 9 1 16 = true := by kernel_rfl
theorem off67_0 : fOff Tryz.prog 67 0 = some 0 := by kernel_rfl
theorem off67_1 : fOff Tryz.prog 67 1 = some 1 := by kernel_rfl
theorem off68_0 : fOff Tryz.prog 68 0 = some 0 := by kernel_rfl
theorem off68_1 : fOff Tryz.prog 68 1 = some 1 := by kernel_rfl
theorem off71_0 : fOff Tryz.prog 71 0 = some 0 := by kernel_rfl
theorem off71_1 : fOff Tryz.prog 71 1 = some 2 := by kernel_rfl
theorem off71_2 : fOff Tryz.prog 71 2 = some 3 := by kernel_rfl
theorem off71_3 : fOff Tryz.prog 71 3 = some 4 := by kernel_rfl
theorem ok14 : okF Tryz.prog 14 = some (false, false) := by kernel_rfl
theorem ok37 : okF Tryz.prog 37 = some (false, false) := by kernel_rfl
theorem ok45 : okF Tryz.prog 45 = some (false, false) := by kernel_rfl
theorem sz68 : szOf Tryz.prog 68 = some 2 := by kernel_rfl
theorem und102 : Tryz.prog.underlying 102 = some (.slice 9) := by kernel_rfl
theorem und147 : Tryz.prog.underlying 147 = some (.slice 68) := by kernel_rfl
theorem und22 : Tryz.prog.underlying 22 = some (.int .u16) := by kernel_rfl
theorem und25 : Tryz.prog.underlying 25 = some (.int .u32) := by kernel_rfl
theorem und3 : Tryz.prog.underlying 3 = some (.int .i64) := by kernel_rfl
theorem und5 : Tryz.prog.underlying 5 = some (.int .u8) := by kernel_rfl
theorem und69 : Tryz.prog.underlying 69 = some (.array 3 68) := by kernel_rfl
theorem zero68 : zeroC Tryz.prog 68 = some #[.int .u8 0, .int .u8 0] := by kernel_rfl
abbrev GTab (G : GS) : Prop := GVar Tryz.prog "internal/strconv.uint64pow10" (Lib.pow10Tab.map fun z => Value.int .u64 z).toArray G
theorem itoa_spec (n : Int) {G : GS} {w : World} {F : List Chunk} (h_n : I64 n) (ht : GTab G) (h : Holds G w F) : Calls Tryz.prog 14 #[.int .i64 n] w (Ret G F fun _ v => v = S (Lib.itoa n)) :=
  (Tryz.strconv_Itoa n h_n.1 h_n.2 w (ht.var h)).mono fun _ _ ⟨he, k, os, hw⟩ => ⟨_, G, he, GS.Le.refl G, h.ext (hw ▸ below_growN w k os), rfl⟩
theorem join_spec (ao : Option Addr) (cap : Nat) (ws : List (List UInt8)) (sep : List UInt8) {G : GS} {w : World} {F : List Chunk} (h_ws : RdF encS 1 G.M ao cap ws) (hl : (Lib.join ws sep).length ≤ 140737488355328) (hn : ws.length ≤ 140737488355328) (h : Holds G w F) :
    Calls Tryz.prog 45 #[.slice ao ws.length cap, S sep] w (Ret G F fun _ v => v = S (Lib.join ws sep)) := by
  rcases Nat.eq_zero_or_pos ws.length with h0 | h0
  · have : ws = [] := List.eq_nil_of_length_eq_zero h0
    subst this
    refine (Tryz.strings_Join_none ao cap ⟨sep.toArray⟩ w).mono fun _ _ ⟨he, hw⟩ => ⟨_, G, he, GS.Le.refl G, hw ▸ h, rfl⟩
  · have ha := h_ws.addr h0
    have e1 : (ws.map fun x => (⟨x.toArray⟩ : ByteArray)).map (fun b => b.data.toList) = ws := by simp [Function.comp_def]
    have hb : blk ao < w.heap.size := by
      have hc := h_ws.row 0 ws[0] (by simp) 0 (S ws[0]) rfl
      simp only [Nat.zero_mul, Nat.add_zero] at hc
      have := h.cellM hc
      unfold World.cell? at this
      rcases hh : w.heap[blk ao]? with _ | o
      · simp [hh] at this
      · exact lt_of_heap hh
    have hj := Tryz.strings_Join (blk ao) (ofs ao) cap (ws.map fun x => (⟨x.toArray⟩ : ByteArray)) ⟨sep.toArray⟩ w (fun j x hx => by
      rw [List.getElem?_map, Option.map_eq_some_iff] at hx
      obtain ⟨y, hy, rfl⟩ := hx
      have hc := h_ws.row j y hy 0 (S y) rfl
      simp only [Nat.mul_one, Nat.add_zero] at hc
      exact h.cellM hc) hb (by simpa using hn) (by simpa using h_ws.le) (by rw [e1]; exact hl)
    rw [e1, List.length_map, ← ha] at hj
    exact hj.mono fun _ _ ⟨he, hw⟩ => ⟨_, G, he, GS.Le.refl G, h.ext hw, rfl⟩
theorem point_spec (m : Int) (n : Int) {G : GS} {w : World} {F : List Chunk} (h_m : -9223372036854775808 ≤ m ∧ m ≤ 9223372036854775807) (h_n : -9223372036854775808 ≤ n ∧ n ≤ 9223372036854775807) (ht : GTab G) (h : Holds G w F) :
    Calls Tryz.prog 37 #[.int .i64 m, .int .i64 n] w (Ret G F fun G v => v = S (point m n)) := by
  refine enter (N := 11) (L := [(0, .int .i64 m), (1, .int .i64 n)]) rfl Tryz.func37 rfl rfl rfl (fun a0 s0 => ?_)
  refine wp_seq ?_
  refine wp_region_lit ?_
  refine q_of s0 rfl (fun _ k => o_assign (s0.ev rfl) k) (fun a1 s2 => ?_)
  refine wpList_nil ?_
  refine x_then_n ?_
  refine wp_seq ?_
  refine wp_region_lit ?_
  refine q_of s2 rfl (fun _ k => o_move (s2.ev rfl) k) (fun a3 s4 => ?_)
  refine q_call s4 rfl ok14 rfl (itoa_spec m (by omega) ht h) (fun a5 w7 v12 G9 hs13 h8 hv11 s6 => ?_)
  subst hv11
  have ht := ht.mono hs13
  have hG10 := (GS.Le.refl _).trans hs13
  have hL_1192 := Lib.itoa_length_le m (by omega) (by omega)
  refine q_of s6 rfl (fun _ k => o_sadd (s6.ev rfl) (s6.ev rfl) (by first | omega | (simp only [List.length_append, List.length_cons, List.length_nil] ; omega)) k) (fun a14 s15 => ?_)
  refine q_of s15 rfl (fun _ k => o_move (s15.ev rfl) k) (fun a16 s17 => ?_)
  refine q_call s17 rfl ok14 rfl (itoa_spec n (by omega) ht h8) (fun a18 w20 v25 G22 hs26 h21 hv24 s19 => ?_)
  subst hv24
  have ht := ht.mono hs26
  have hG23 := hG10.trans hs26
  have hL_832146 := Lib.itoa_length_le n (by omega) (by omega)
  refine q_of s19 rfl (fun _ k => o_sadd (s19.ev rfl) (s19.ev rfl) (by first | omega | (simp only [List.length_append, List.length_cons, List.length_nil] ; omega)) k) (fun a27 s28 => ?_)
  refine q_of s28 rfl (fun _ k => o_assign (s28.ev rfl) k) (fun a29 s30 => ?_)
  refine wpList_nil ?_
  refine x_then_n ?_
  refine wp_ret ?_
  refine fin1 s30 rfl rfl ⟨_, _, rfl, hG23, h21, ?_⟩
  rfl
theorem name_spec (d : ID) {G : GS} {w : World} {F : List Chunk} (h_d : d.ok) (ht : GTab G) (h : Holds G w F) :
    Calls Tryz.prog 19 #[.agg #[.int .u8 d.client.node, .int .u16 d.client.life, .int .u32 d.seq, .int .u8 d.depth, .int .u8 d.p0.group, .int .u8 d.p0.index, .int .u8 d.p1.group, .int .u8 d.p1.index, .int .u8 d.p2.group, .int .u8 d.p2.index]] w (Ret G F fun G v => v = S (idText d)) := by
  obtain ⟨⟨⟨hi1, hi2⟩, hi3, hi4⟩, ⟨hi5, hi6⟩, ⟨hi7, hi8⟩, ⟨⟨hj1, hj2⟩, hj3, hj4⟩, ⟨⟨hj5, hj6⟩, hj7, hj8⟩, ⟨hk1, hk2⟩, hk3, hk4⟩ := h_d
  have hLa := itoaL d.client.node (by constructor <;> omega)
  have hLa := itoaL d.client.life (by constructor <;> omega)
  have hLa := itoaL d.seq (by constructor <;> omega)
  have hLa := itoaL d.p0.group (by constructor <;> omega)
  have hLa := itoaL d.p0.index (by constructor <;> omega)
  have hLa := itoaL d.p1.group (by constructor <;> omega)
  have hLa := itoaL d.p1.index (by constructor <;> omega)
  have hLa := itoaL d.p2.group (by constructor <;> omega)
  have hLa := itoaL d.p2.index (by constructor <;> omega)
  have hLa := point_len d.client.node d.client.life (by constructor <;> omega) (by constructor <;> omega)
  have hLa := point_len d.p0.group d.p0.index (by constructor <;> omega) (by constructor <;> omega)
  have hLa := point_len d.p1.group d.p1.index (by constructor <;> omega) (by constructor <;> omega)
  have hLa := point_len d.p2.group d.p2.index (by constructor <;> omega) (by constructor <;> omega)
  refine enter (N := 44) (L := [(0, .agg #[.int .u8 d.client.node, .int .u16 d.client.life, .int .u32 d.seq, .int .u8 d.depth, .int .u8 d.p0.group, .int .u8 d.p0.index, .int .u8 d.p1.group, .int .u8 d.p1.index, .int .u8 d.p2.group, .int .u8 d.p2.index])]) rfl Tryz.func19 rfl rfl rfl (fun a0 s0 => ?_)
  rcases (show d.depth ≤ 0 ∨ d.depth = 1 ∨ d.depth = 2 ∨ 3 ≤ d.depth by omega) with hd | hd | hd | hd
  ·
    refine wp_seq ?_
    refine wp_region_lit ?_
    refine q_box s0 rfl rfl h (fun a2 w4 b1 s3 h5 => ?_)
    have h5 : Holds _ _ ([(b1, .cells #[.int .u8 d.client.node, .int .u16 d.client.life, .int .u32 d.seq, .int .u8 d.depth, .int .u8 d.p0.group, .int .u8 d.p0.index, .int .u8 d.p1.group, .int .u8 d.p1.index, .int .u8 d.p2.group, .int .u8 d.p2.index] 71 (0, 0))] :: F) := h5
    refine q_of s3 rfl (fun _ k => o_assign (s3.ev rfl) k) (fun a6 s7 => ?_)
    refine wpList_nil ?_
    refine x_then_n ?_
    refine wp_seq ?_
    have hok : okX 44 [(1, .pointer (some ⟨b1, 0, none⟩)), (2, S [])] [(some 6, Fact.eq (.pointer (some ⟨b1, 0, none⟩))), (some 7, Fact.eq (.pointer (some ⟨b1, 0, none⟩))), (some 8, Fact.eq (.int .u8 d.client.node)), (some 9, Fact.eq (.int .i64 d.client.node)), (some 10, Fact.eq (.pointer (some ⟨b1, 0, none⟩))), (some 11, Fact.eq (.pointer (some ⟨b1, 1, none⟩))), (some 12, Fact.eq (.int .u16 d.client.life)), (some 13, Fact.eq (.int .i64 d.client.life)), (some 14, Fact.eq (S (point d.client.node d.client.life))), (some 15, Fact.eq (.pointer (some ⟨b1, 2, none⟩))), (some 16, Fact.eq (.int .u32 d.seq)), (some 17, Fact.eq (.int .i64 d.seq))] [] = true := rfl
    refine region_split 12 [1, 2, 3, 8, 5, 6, 7, 8, 12, 10, 11, 12, 13, 14] (N := 44) (L0 := [(1, .pointer (some ⟨b1, 0, none⟩)), (2, S [])]) (X := [(some 6, Fact.eq (.pointer (some ⟨b1, 0, none⟩))), (some 7, Fact.eq (.pointer (some ⟨b1, 0, none⟩))), (some 8, Fact.eq (.int .u8 d.client.node)), (some 9, Fact.eq (.int .i64 d.client.node)), (some 10, Fact.eq (.pointer (some ⟨b1, 0, none⟩))), (some 11, Fact.eq (.pointer (some ⟨b1, 1, none⟩))), (some 12, Fact.eq (.int .u16 d.client.life)), (some 13, Fact.eq (.int .i64 d.client.life)), (some 14, Fact.eq (S (point d.client.node d.client.life))), (some 15, Fact.eq (.pointer (some ⟨b1, 2, none⟩))), (some 16, Fact.eq (.int .u32 d.seq)), (some 17, Fact.eq (.int .i64 d.seq))]) (O := []) (HR := fun D a _ H => H = ([(b1, .cells #[.int .u8 d.client.node, .int .u16 d.client.life, .int .u32 d.seq, .int .u8 d.depth, .int .u8 d.p0.group, .int .u8 d.p0.index, .int .u8 d.p1.group, .int .u8 d.p1.index, .int .u8 d.p2.group, .int .u8 d.p2.index] 71 (0, 0))] :: F)) mixed rfl rfl rfl h5 rfl (s7.sub (all_cons rfl (all_cons rfl (all_nil)))) (fun i k t v hi => by simp at hi) ⟨?_, ?_, ?_, ?_, ?_, ?_, ?_, ?_, ?_, ?_, ?_, ?_, trivial⟩ (fun D a w G H hall j => ?_)
    · exact step_of rfl (fun D a w G H hR j => by (have s := j.sf ; exact o_fieldAddr (s.ev rfl) off71_0 (j.did hok rfl (GS.Le.refl _) j.holds j.hr rfl)))
    · exact step_of rfl (fun D a w G H hR j => by (have s := (j.sf.know _ _ (j.gotE 0 rfl (hR.was rfl 0 rfl))) ; exact o_fieldAddr (s.ev rfl) off67_0 (j.did hok rfl (GS.Le.refl _) j.holds j.hr rfl)))
    · exact step_of rfl (fun D a w G H hR j => by (have hH := j.hr ; subst H ; have s := (j.sf.know _ _ (j.gotE 1 rfl (hR.was rfl 1 rfl))) ; exact o_loadOne (s.ev rfl) ag5 ((j.holds.rowI 0 0 (cs := [.int .u8 d.client.node]) (o := 0) rfl rfl rfl) 0 _ rfl) (j.did hok rfl (GS.Le.refl _) j.holds j.hr rfl)))
    · exact step_of rfl (fun D a w G H hR j => by (have s := (j.sf.know _ _ (j.gotE 2 rfl (hR.was rfl 2 rfl))) ; exact o_conv (s.ev rfl) und5 und3 (wrap_i64 (by omega) (by omega)) (j.did hok rfl (GS.Le.refl _) j.holds j.hr rfl)))
    · exact step_of rfl (fun D a w G H hR j => by (have s := j.sf ; exact o_fieldAddr (s.ev rfl) off71_0 (j.did hok rfl (GS.Le.refl _) j.holds j.hr rfl)))
    · exact step_of rfl (fun D a w G H hR j => by (have s := (j.sf.know _ _ (j.gotE 4 rfl (hR.was rfl 4 rfl))) ; exact o_fieldAddr (s.ev rfl) off67_1 (j.did hok rfl (GS.Le.refl _) j.holds j.hr rfl)))
    · exact step_of rfl (fun D a w G H hR j => by (have hH := j.hr ; subst H ; have s := (j.sf.know _ _ (j.gotE 5 rfl (hR.was rfl 5 rfl))) ; exact o_loadOne (s.ev rfl) ag22 ((j.holds.rowI 0 0 (cs := [.int .u16 d.client.life]) (o := 1) rfl rfl rfl) 0 _ rfl) (j.did hok rfl (GS.Le.refl _) j.holds j.hr rfl)))
    · exact step_of rfl (fun D a w G H hR j => by (have s := (j.sf.know _ _ (j.gotE 6 rfl (hR.was rfl 6 rfl))) ; exact o_conv (s.ev rfl) und22 und3 (wrap_i64 (by omega) (by omega)) (j.did hok rfl (GS.Le.refl _) j.holds j.hr rfl)))
    · exact step_of rfl (fun D a w G H hR j => by (have s := ((j.sf.know _ _ (j.gotE 3 rfl (hR.was rfl 3 rfl))).know _ _ (j.gotE 7 rfl (hR.was rfl 7 rfl))) ; exact o_call s rfl ok37 (point_spec d.client.node d.client.life (by omega) (by omega) (ht.mono j.le) j.holds) (fun e w' ⟨v, G', he, hG, hh, hv⟩ => ⟨v, he, j.did hok rfl hG hh j.hr hv⟩)))
    · exact step_of rfl (fun D a w G H hR j => by (have s := j.sf ; exact o_fieldAddr (s.ev rfl) off71_1 (j.did hok rfl (GS.Le.refl _) j.holds j.hr rfl)))
    · exact step_of rfl (fun D a w G H hR j => by (have hH := j.hr ; subst H ; have s := (j.sf.know _ _ (j.gotE 9 rfl (hR.was rfl 9 rfl))) ; exact o_loadOne (s.ev rfl) ag25 ((j.holds.rowI 0 0 (cs := [.int .u32 d.seq]) (o := 2) rfl rfl rfl) 0 _ rfl) (j.did hok rfl (GS.Le.refl _) j.holds j.hr rfl)))
    · exact step_of rfl (fun D a w G H hR j => by (have s := (j.sf.know _ _ (j.gotE 10 rfl (hR.was rfl 10 rfl))) ; exact o_conv (s.ev rfl) und25 und3 (wrap_i64 (by omega) (by omega)) (j.did hok rfl (GS.Le.refl _) j.holds j.hr rfl)))
    have s9 := ((j.sf.know _ _ (j.gotE 8 rfl (hall 8 (by decide)))).know _ _ (j.gotE 11 rfl (hall 11 (by decide))))
    have hH := j.hr
    subst H
    have hle15 := j.le
    have ht := ht.mono hle15
    have hG13 := (GS.Le.refl _).trans hle15
    have h14 : Holds _ _ ([(b1, .cells #[.int .u8 d.client.node, .int .u16 d.client.life, .int .u32 d.seq, .int .u8 d.depth, .int .u8 d.p0.group, .int .u8 d.p0.index, .int .u8 d.p1.group, .int .u8 d.p1.index, .int .u8 d.p2.group, .int .u8 d.p2.index] 71 (0, 0))] :: F) := j.holds
    clear j hall hok
    refine q_call s9 rfl ok14 rfl (itoa_spec d.seq (by omega) ht h14) (fun a16 w18 v23 G20 hs24 h19 hv22 s17 => ?_)
    subst hv22
    have ht := ht.mono hs24
    have hG21 := hG13.trans hs24
    have hL_203868 := Lib.itoa_length_le d.seq (by omega) (by omega)
    refine q_buildSlice s17 rfl h19 (vs := [(0, S (point d.client.node d.client.life)), (1, S (Lib.itoa d.seq))]) (cl := [S (point d.client.node d.client.life), S (Lib.itoa d.seq)]) (E := 9) rfl (fun w => by kernel_rfl) (fun a26 w28 b25 s27 h29 => ?_)
    have h29 : Holds _ _ ([(b25, .cells #[S (point d.client.node d.client.life), S (Lib.itoa d.seq)] 9 (0, 0))] :: [(b1, .cells #[.int .u8 d.client.node, .int .u16 d.client.life, .int .u32 d.seq, .int .u8 d.depth, .int .u8 d.p0.group, .int .u8 d.p0.index, .int .u8 d.p1.group, .int .u8 d.p1.index, .int .u8 d.p2.group, .int .u8 d.p2.index] 71 (0, 0))] :: F) := h29
    refine q_of s27 rfl (fun _ k => o_assign (s27.ev rfl) k) (fun a30 s31 => ?_)
    refine wpList_nil ?_
    refine x_then_n ?_
    refine wp_seq ?_
    refine wp_seq ?_
    refine wp_region_lit ?_
    refine q_of s31 rfl (fun _ k => o_fieldAddr (s31.ev rfl) off71_3 k) (fun a32 s33 => ?_)
    refine q_of s33 rfl (fun _ k => o_fieldAddr (s33.ev rfl) off71_2 k) (fun a34 s35 => ?_)
    refine q_of s35 rfl (fun _ k => o_loadOne (s35.ev rfl) ag5 ((h29.rowI 1 0 (cs := [.int .u8 d.depth]) (o := 3) rfl rfl rfl) 0 _ rfl) k) (fun a36 s37 => ?_)
    refine q_of s37 rfl (fun _ k => o_conv (s37.ev rfl) und5 und3 (wrap_i64 (by omega) (by omega)) k) (fun a38 s39 => ?_)
    refine q_of s39 rfl (fun _ k => o_minz (s39.ev rfl) (s39.ev rfl) (z := 0) (by omega) k) (fun a40 s41 => ?_)
    refine q_of s41 rfl (fun _ k => o_sliceA (s41.ev rfl) (s41.ev rfl) und69 (m := 0) sz68 rfl (by decide) k) (fun a42 s43 => ?_)
    refine q_of s43 rfl (fun _ k => o_len (s43.ev rfl) und147 k) (fun a44 s45 => ?_)
    refine q_of s45 rfl (fun _ k => o_move (s45.ev rfl) k) (fun a46 s47 => ?_)
    refine wpList_nil ?_
    refine x_then_n ?_
    refine wp_block ?_
    refine wp_loop_rounds 4 ?_
    refine rounds_step (n := 3) ?_
    refine wp_seq ?_
    refine wp_region_lit ?_
    refine q_of s47 rfl (fun _ k => o_lss (s47.ev rfl) (s47.ev rfl) k) (fun a48 s49 => ?_)
    refine wpList_nil ?_
    refine x_then_n ?_
    refine wp_seq ?_
    refine q_iff s49 rfl rfl ?_
    refine wp_exit ?_
    refine x_then_x ?_
    refine x_then_x ?_
    refine x_blk_x ?_
    refine x_then_n ?_
    refine wp_seq ?_
    refine wp_region_lit ?_
    refine q_of s49 rfl (fun _ k => o_move (s49.ev rfl) k) (fun a51 s52 => ?_)
    obtain ⟨G53, hs54, h55, hr56⟩ := Row.toG (enc := encS) (l := [point d.client.node d.client.life, Lib.itoa d.seq]) (fun _ => rfl) (Row.lit (E := 9) (size := 1) (n := 2) (b := b25) (xs := [S (point d.client.node d.client.life), S (Lib.itoa d.seq)]) rfl (by decide)) (by first | rfl | (simp only [List.length_take] ; omega)) h29
    have ht := ht.mono hs54
    have hG57 := hG21.trans hs54
    refine q_call s52 rfl ok45 rfl (join_spec (some ⟨b25, 0, none⟩) 2 [point d.client.node d.client.life, Lib.itoa d.seq] [47] hr56 (by first | exact hl | (refine Nat.le_trans (join_len _ _) ?_ ; simp only [List.map_append, List.map_cons, List.map_nil, List.sum_append, List.sum_cons, List.sum_nil, List.length_append, List.length_cons, List.length_nil] ; omega)) (by first | exact hn | (simp only [List.length_append, List.length_cons, List.length_nil] ; omega)) h55) (fun a58 w60 v65 G62 hs66 h61 hv64 s59 => ?_)
    subst hv64
    have ht := ht.mono hs66
    have hr56 := hr56.mono hs66
    have hG63 := hG57.trans hs66
    refine q_of s59 rfl (fun _ k => o_assign (s59.ev rfl) k) (fun a67 s68 => ?_)
    refine wpList_nil ?_
    refine x_then_n ?_
    refine wp_ret ?_
    refine fin1 s68 rfl rfl ⟨_, _, rfl, hG63, h61.drop, ?_⟩
    first | (unfold idText; rw [path0 d (by omega)]; rfl) | (unfold idText; rw [path1 d (by omega) (by omega)]; rfl) | (unfold idText; rw [path2 d (by omega) (by omega)]; rfl) | (unfold idText; rw [path3 d (by omega)]; rfl)
  ·
    refine wp_seq ?_
    refine wp_region_lit ?_
    refine q_box s0 rfl rfl h (fun a70 w72 b69 s71 h73 => ?_)
    have h73 : Holds _ _ ([(b69, .cells #[.int .u8 d.client.node, .int .u16 d.client.life, .int .u32 d.seq, .int .u8 d.depth, .int .u8 d.p0.group, .int .u8 d.p0.index, .int .u8 d.p1.group, .int .u8 d.p1.index, .int .u8 d.p2.group, .int .u8 d.p2.index] 71 (0, 0))] :: F) := h73
    refine q_of s71 rfl (fun _ k => o_assign (s71.ev rfl) k) (fun a74 s75 => ?_)
    refine wpList_nil ?_
    refine x_then_n ?_
    refine wp_seq ?_
    have hok : okX 44 [(1, .pointer (some ⟨b69, 0, none⟩)), (2, S [])] [(some 6, Fact.eq (.pointer (some ⟨b69, 0, none⟩))), (some 7, Fact.eq (.pointer (some ⟨b69, 0, none⟩))), (some 8, Fact.eq (.int .u8 d.client.node)), (some 9, Fact.eq (.int .i64 d.client.node)), (some 10, Fact.eq (.pointer (some ⟨b69, 0, none⟩))), (some 11, Fact.eq (.pointer (some ⟨b69, 1, none⟩))), (some 12, Fact.eq (.int .u16 d.client.life)), (some 13, Fact.eq (.int .i64 d.client.life)), (some 14, Fact.eq (S (point d.client.node d.client.life))), (some 15, Fact.eq (.pointer (some ⟨b69, 2, none⟩))), (some 16, Fact.eq (.int .u32 d.seq)), (some 17, Fact.eq (.int .i64 d.seq))] [] = true := rfl
    refine region_split 12 [1, 2, 3, 8, 5, 6, 7, 8, 12, 10, 11, 12, 13, 14] (N := 44) (L0 := [(1, .pointer (some ⟨b69, 0, none⟩)), (2, S [])]) (X := [(some 6, Fact.eq (.pointer (some ⟨b69, 0, none⟩))), (some 7, Fact.eq (.pointer (some ⟨b69, 0, none⟩))), (some 8, Fact.eq (.int .u8 d.client.node)), (some 9, Fact.eq (.int .i64 d.client.node)), (some 10, Fact.eq (.pointer (some ⟨b69, 0, none⟩))), (some 11, Fact.eq (.pointer (some ⟨b69, 1, none⟩))), (some 12, Fact.eq (.int .u16 d.client.life)), (some 13, Fact.eq (.int .i64 d.client.life)), (some 14, Fact.eq (S (point d.client.node d.client.life))), (some 15, Fact.eq (.pointer (some ⟨b69, 2, none⟩))), (some 16, Fact.eq (.int .u32 d.seq)), (some 17, Fact.eq (.int .i64 d.seq))]) (O := []) (HR := fun D a _ H => H = ([(b69, .cells #[.int .u8 d.client.node, .int .u16 d.client.life, .int .u32 d.seq, .int .u8 d.depth, .int .u8 d.p0.group, .int .u8 d.p0.index, .int .u8 d.p1.group, .int .u8 d.p1.index, .int .u8 d.p2.group, .int .u8 d.p2.index] 71 (0, 0))] :: F)) mixed rfl rfl rfl h73 rfl (s75.sub (all_cons rfl (all_cons rfl (all_nil)))) (fun i k t v hi => by simp at hi) ⟨?_, ?_, ?_, ?_, ?_, ?_, ?_, ?_, ?_, ?_, ?_, ?_, trivial⟩ (fun D a w G H hall j => ?_)
    · exact step_of rfl (fun D a w G H hR j => by (have s := j.sf ; exact o_fieldAddr (s.ev rfl) off71_0 (j.did hok rfl (GS.Le.refl _) j.holds j.hr rfl)))
    · exact step_of rfl (fun D a w G H hR j => by (have s := (j.sf.know _ _ (j.gotE 0 rfl (hR.was rfl 0 rfl))) ; exact o_fieldAddr (s.ev rfl) off67_0 (j.did hok rfl (GS.Le.refl _) j.holds j.hr rfl)))
    · exact step_of rfl (fun D a w G H hR j => by (have hH := j.hr ; subst H ; have s := (j.sf.know _ _ (j.gotE 1 rfl (hR.was rfl 1 rfl))) ; exact o_loadOne (s.ev rfl) ag5 ((j.holds.rowI 0 0 (cs := [.int .u8 d.client.node]) (o := 0) rfl rfl rfl) 0 _ rfl) (j.did hok rfl (GS.Le.refl _) j.holds j.hr rfl)))
    · exact step_of rfl (fun D a w G H hR j => by (have s := (j.sf.know _ _ (j.gotE 2 rfl (hR.was rfl 2 rfl))) ; exact o_conv (s.ev rfl) und5 und3 (wrap_i64 (by omega) (by omega)) (j.did hok rfl (GS.Le.refl _) j.holds j.hr rfl)))
    · exact step_of rfl (fun D a w G H hR j => by (have s := j.sf ; exact o_fieldAddr (s.ev rfl) off71_0 (j.did hok rfl (GS.Le.refl _) j.holds j.hr rfl)))
    · exact step_of rfl (fun D a w G H hR j => by (have s := (j.sf.know _ _ (j.gotE 4 rfl (hR.was rfl 4 rfl))) ; exact o_fieldAddr (s.ev rfl) off67_1 (j.did hok rfl (GS.Le.refl _) j.holds j.hr rfl)))
    · exact step_of rfl (fun D a w G H hR j => by (have hH := j.hr ; subst H ; have s := (j.sf.know _ _ (j.gotE 5 rfl (hR.was rfl 5 rfl))) ; exact o_loadOne (s.ev rfl) ag22 ((j.holds.rowI 0 0 (cs := [.int .u16 d.client.life]) (o := 1) rfl rfl rfl) 0 _ rfl) (j.did hok rfl (GS.Le.refl _) j.holds j.hr rfl)))
    · exact step_of rfl (fun D a w G H hR j => by (have s := (j.sf.know _ _ (j.gotE 6 rfl (hR.was rfl 6 rfl))) ; exact o_conv (s.ev rfl) und22 und3 (wrap_i64 (by omega) (by omega)) (j.did hok rfl (GS.Le.refl _) j.holds j.hr rfl)))
    · exact step_of rfl (fun D a w G H hR j => by (have s := ((j.sf.know _ _ (j.gotE 3 rfl (hR.was rfl 3 rfl))).know _ _ (j.gotE 7 rfl (hR.was rfl 7 rfl))) ; exact o_call s rfl ok37 (point_spec d.client.node d.client.life (by omega) (by omega) (ht.mono j.le) j.holds) (fun e w' ⟨v, G', he, hG, hh, hv⟩ => ⟨v, he, j.did hok rfl hG hh j.hr hv⟩)))
    · exact step_of rfl (fun D a w G H hR j => by (have s := j.sf ; exact o_fieldAddr (s.ev rfl) off71_1 (j.did hok rfl (GS.Le.refl _) j.holds j.hr rfl)))
    · exact step_of rfl (fun D a w G H hR j => by (have hH := j.hr ; subst H ; have s := (j.sf.know _ _ (j.gotE 9 rfl (hR.was rfl 9 rfl))) ; exact o_loadOne (s.ev rfl) ag25 ((j.holds.rowI 0 0 (cs := [.int .u32 d.seq]) (o := 2) rfl rfl rfl) 0 _ rfl) (j.did hok rfl (GS.Le.refl _) j.holds j.hr rfl)))
    · exact step_of rfl (fun D a w G H hR j => by (have s := (j.sf.know _ _ (j.gotE 10 rfl (hR.was rfl 10 rfl))) ; exact o_conv (s.ev rfl) und25 und3 (wrap_i64 (by omega) (by omega)) (j.did hok rfl (GS.Le.refl _) j.holds j.hr rfl)))
    have s77 := ((j.sf.know _ _ (j.gotE 8 rfl (hall 8 (by decide)))).know _ _ (j.gotE 11 rfl (hall 11 (by decide))))
    have hH := j.hr
    subst H
    have hle83 := j.le
    have ht := ht.mono hle83
    have hG81 := (GS.Le.refl _).trans hle83
    have h82 : Holds _ _ ([(b69, .cells #[.int .u8 d.client.node, .int .u16 d.client.life, .int .u32 d.seq, .int .u8 d.depth, .int .u8 d.p0.group, .int .u8 d.p0.index, .int .u8 d.p1.group, .int .u8 d.p1.index, .int .u8 d.p2.group, .int .u8 d.p2.index] 71 (0, 0))] :: F) := j.holds
    clear j hall hok
    refine q_call s77 rfl ok14 rfl (itoa_spec d.seq (by omega) ht h82) (fun a84 w86 v91 G88 hs92 h87 hv90 s85 => ?_)
    subst hv90
    have ht := ht.mono hs92
    have hG89 := hG81.trans hs92
    have hL_203868 := Lib.itoa_length_le d.seq (by omega) (by omega)
    refine q_buildSlice s85 rfl h87 (vs := [(0, S (point d.client.node d.client.life)), (1, S (Lib.itoa d.seq))]) (cl := [S (point d.client.node d.client.life), S (Lib.itoa d.seq)]) (E := 9) rfl (fun w => by kernel_rfl) (fun a94 w96 b93 s95 h97 => ?_)
    have h97 : Holds _ _ ([(b93, .cells #[S (point d.client.node d.client.life), S (Lib.itoa d.seq)] 9 (0, 0))] :: [(b69, .cells #[.int .u8 d.client.node, .int .u16 d.client.life, .int .u32 d.seq, .int .u8 d.depth, .int .u8 d.p0.group, .int .u8 d.p0.index, .int .u8 d.p1.group, .int .u8 d.p1.index, .int .u8 d.p2.group, .int .u8 d.p2.index] 71 (0, 0))] :: F) := h97
    refine q_of s95 rfl (fun _ k => o_assign (s95.ev rfl) k) (fun a98 s99 => ?_)
    refine wpList_nil ?_
    refine x_then_n ?_
    refine wp_seq ?_
    refine wp_seq ?_
    refine wp_region_lit ?_
    refine q_of s99 rfl (fun _ k => o_fieldAddr (s99.ev rfl) off71_3 k) (fun a100 s101 => ?_)
    refine q_of s101 rfl (fun _ k => o_fieldAddr (s101.ev rfl) off71_2 k) (fun a102 s103 => ?_)
    refine q_of s103 rfl (fun _ k => o_loadOne (s103.ev rfl) ag5 ((h97.rowI 1 0 (cs := [.int .u8 d.depth]) (o := 3) rfl rfl rfl) 0 _ rfl) k) (fun a104 s105 => ?_)
    refine q_of s105 rfl (fun _ k => o_conv (s105.ev rfl) und5 und3 (wrap_i64 (by omega) (by omega)) k) (fun a106 s107 => ?_)
    refine q_of s107 rfl (fun _ k => o_minz (s107.ev rfl) (s107.ev rfl) (z := 1) (by omega) k) (fun a108 s109 => ?_)
    refine q_of s109 rfl (fun _ k => o_sliceA (s109.ev rfl) (s109.ev rfl) und69 (m := 1) sz68 rfl (by decide) k) (fun a110 s111 => ?_)
    refine q_of s111 rfl (fun _ k => o_len (s111.ev rfl) und147 k) (fun a112 s113 => ?_)
    refine q_of s113 rfl (fun _ k => o_move (s113.ev rfl) k) (fun a114 s115 => ?_)
    refine wpList_nil ?_
    refine x_then_n ?_
    refine wp_block ?_
    refine wp_loop_rounds 4 ?_
    refine rounds_step (n := 3) ?_
    refine wp_seq ?_
    refine wp_region_lit ?_
    refine q_of s115 rfl (fun _ k => o_lss (s115.ev rfl) (s115.ev rfl) k) (fun a116 s117 => ?_)
    refine wpList_nil ?_
    refine x_then_n ?_
    refine wp_seq ?_
    refine q_ift s117 rfl rfl ?_
    refine wp_skip ?_
    refine x_then_n ?_
    refine wp_seq ?_
    refine wp_block ?_
    refine wp_seq ?_
    refine wp_region_lit ?_
    refine q_of s117 rfl (fun _ k => o_idxSm (s117.ev rfl) (s117.ev rfl) und147 sz68 (i := 0) rfl (by decide) rfl rfl (m := 4) rfl k) (fun a119 s120 => ?_)
    refine q_of s120 rfl (fun _ k => o_loadAgg (s120.ev rfl) ag68 sz68 (cs := [.int .u8 d.p0.group, .int .u8 d.p0.index]) rfl (h97.rowI 1 0 (cs := [.int .u8 d.p0.group, .int .u8 d.p0.index]) (o := 4) rfl rfl rfl) k) (fun a121 s122 => ?_)
    refine q_alloc s122 rfl h97 zero68 (fun a124 w126 b123 s125 h127 => ?_)
    refine q_store s125 rfl rfl sz68 rfl h127 (j := 0) rfl rfl rfl (cl := [.int .u8 d.p0.group, .int .u8 d.p0.index]) (by kernel_rfl) (fun a128 w130 s129 h131 => ?_)
    have h131 : Holds _ _ ([(b123, .cells #[.int .u8 d.p0.group, .int .u8 d.p0.index] 68 (0, 0))] :: [(b93, .cells #[S (point d.client.node d.client.life), S (Lib.itoa d.seq)] 9 (0, 0))] :: [(b69, .cells #[.int .u8 d.client.node, .int .u16 d.client.life, .int .u32 d.seq, .int .u8 d.depth, .int .u8 d.p0.group, .int .u8 d.p0.index, .int .u8 d.p1.group, .int .u8 d.p1.index, .int .u8 d.p2.group, .int .u8 d.p2.index] 71 (0, 0))] :: F) := h131
    refine wpList_nil ?_
    refine x_then_n ?_
    refine wp_region_lit ?_
    refine q_of s129 rfl (fun _ k => o_move (s129.ev rfl) k) (fun a132 s133 => ?_)
    refine q_of s133 rfl (fun _ k => o_fieldAddr (s133.ev rfl) off68_0 k) (fun a134 s135 => ?_)
    refine q_of s135 rfl (fun _ k => o_loadOne (s135.ev rfl) ag5 ((h131.rowI 0 0 (cs := [.int .u8 d.p0.group]) (o := 0) rfl rfl rfl) 0 _ rfl) k) (fun a136 s137 => ?_)
    refine q_of s137 rfl (fun _ k => o_conv (s137.ev rfl) und5 und3 (wrap_i64 (by omega) (by omega)) k) (fun a138 s139 => ?_)
    refine q_of s139 rfl (fun _ k => o_fieldAddr (s139.ev rfl) off68_1 k) (fun a140 s141 => ?_)
    refine q_of s141 rfl (fun _ k => o_loadOne (s141.ev rfl) ag5 ((h131.rowI 0 0 (cs := [.int .u8 d.p0.index]) (o := 1) rfl rfl rfl) 0 _ rfl) k) (fun a142 s143 => ?_)
    refine q_of s143 rfl (fun _ k => o_conv (s143.ev rfl) und5 und3 (wrap_i64 (by omega) (by omega)) k) (fun a144 s145 => ?_)
    refine q_call s145 rfl ok37 rfl (point_spec d.p0.group d.p0.index (by omega) (by omega) ht h131) (fun a146 w148 v153 G150 hs154 h149 hv152 s147 => ?_)
    subst hv152
    have ht := ht.mono hs154
    have hG151 := hG89.trans hs154
    have hL_738460 := point_len d.p0.group d.p0.index (by omega) (by omega)
    refine q_buildSlice s147 rfl h149 (vs := [(0, S (point d.p0.group d.p0.index))]) (cl := [S (point d.p0.group d.p0.index)]) (E := 9) rfl (fun w => by kernel_rfl) (fun a156 w158 b155 s157 h159 => ?_)
    have h159 : Holds _ _ ([(b155, .cells #[S (point d.p0.group d.p0.index)] 9 (0, 0))] :: [(b123, .cells #[.int .u8 d.p0.group, .int .u8 d.p0.index] 68 (0, 0))] :: [(b93, .cells #[S (point d.client.node d.client.life), S (Lib.itoa d.seq)] 9 (0, 0))] :: [(b69, .cells #[.int .u8 d.client.node, .int .u16 d.client.life, .int .u32 d.seq, .int .u8 d.depth, .int .u8 d.p0.group, .int .u8 d.p0.index, .int .u8 d.p1.group, .int .u8 d.p1.index, .int .u8 d.p2.group, .int .u8 d.p2.index] 71 (0, 0))] :: F) := h159
    have h160 : Holds _ _ ([(b93, .cells #[S (point d.client.node d.client.life), S (Lib.itoa d.seq)] 9 (0, 0))] :: [(b155, .cells #[S (point d.p0.group d.p0.index)] 9 (0, 0))] :: [(b123, .cells #[.int .u8 d.p0.group, .int .u8 d.p0.index] 68 (0, 0))] :: [(b69, .cells #[.int .u8 d.client.node, .int .u16 d.client.life, .int .u32 d.seq, .int .u8 d.depth, .int .u8 d.p0.group, .int .u8 d.p0.index, .int .u8 d.p1.group, .int .u8 d.p1.index, .int .u8 d.p2.group, .int .u8 d.p2.index] 71 (0, 0))] :: F) := h159.front 2 rfl
    refine q_append s157 rfl (Row.lit (E := 9) (size := 1) (n := 2) (b := b93) (xs := [S (point d.client.node d.client.life), S (Lib.itoa d.seq)]) rfl (by decide)) h160 rfl rfl und102 elem9 (news := [S (point d.p0.group d.p0.index)]) rfl (h160.rowI 1 0 (o := 0) rfl rfl rfl) rfl (by omega) (by omega) (fun a161 w163 ao165 cap166 c167 s162 r168 h164 => ?_)
    have h169 : Holds _ _ ([(b155, .cells #[S (point d.p0.group d.p0.index)] 9 (0, 0))] :: c167 :: [(b123, .cells #[.int .u8 d.p0.group, .int .u8 d.p0.index] 68 (0, 0))] :: [(b69, .cells #[.int .u8 d.client.node, .int .u16 d.client.life, .int .u32 d.seq, .int .u8 d.depth, .int .u8 d.p0.group, .int .u8 d.p0.index, .int .u8 d.p1.group, .int .u8 d.p1.index, .int .u8 d.p2.group, .int .u8 d.p2.index] 71 (0, 0))] :: F) := h164.front 1 rfl
    have h170 : Holds _ _ (c167 :: [(b123, .cells #[.int .u8 d.p0.group, .int .u8 d.p0.index] 68 (0, 0))] :: [(b69, .cells #[.int .u8 d.client.node, .int .u16 d.client.life, .int .u32 d.seq, .int .u8 d.depth, .int .u8 d.p0.group, .int .u8 d.p0.index, .int .u8 d.p1.group, .int .u8 d.p1.index, .int .u8 d.p2.group, .int .u8 d.p2.index] 71 (0, 0))] :: F) := h169.drop
    refine q_of s162 rfl (fun _ k => o_assign (s162.ev rfl) k) (fun a171 s172 => ?_)
    refine wpList_nil ?_
    refine x_blk_n ?_
    refine x_then_n ?_
    refine wp_region_lit ?_
    refine q_of s172 rfl (fun _ k => o_add (s172.ev rfl) (s172.ev rfl) (z := 1) rfl k) (fun a173 s174 => ?_)
    refine q_of s174 rfl (fun _ k => o_move (s174.ev rfl) k) (fun a175 s176 => ?_)
    refine wpList_nil ?_
    refine x_then_n ?_
    refine rounds_step (n := 2) ?_
    refine wp_seq ?_
    refine wp_region_lit ?_
    refine q_of s176 rfl (fun _ k => o_lss (s176.ev rfl) (s176.ev rfl) k) (fun a177 s178 => ?_)
    refine wpList_nil ?_
    refine x_then_n ?_
    refine wp_seq ?_
    refine q_iff s178 rfl rfl ?_
    refine wp_exit ?_
    refine x_then_x ?_
    refine x_then_x ?_
    refine x_blk_x ?_
    refine x_then_n ?_
    refine wp_seq ?_
    refine wp_region_lit ?_
    refine q_of s178 rfl (fun _ k => o_move (s178.ev rfl) k) (fun a180 s181 => ?_)
    obtain ⟨G182, hs183, h184, hr185⟩ := Row.toG (enc := encS) (l := [point d.client.node d.client.life, Lib.itoa d.seq, point d.p0.group d.p0.index]) (fun _ => rfl) r168 (by first | rfl | (simp only [List.length_take] ; omega)) h170
    have ht := ht.mono hs183
    have hG186 := hG151.trans hs183
    refine q_call s181 rfl ok45 rfl (join_spec ao165 cap166 [point d.client.node d.client.life, Lib.itoa d.seq, point d.p0.group d.p0.index] [47] hr185 (by first | exact hl | (refine Nat.le_trans (join_len _ _) ?_ ; simp only [List.map_append, List.map_cons, List.map_nil, List.sum_append, List.sum_cons, List.sum_nil, List.length_append, List.length_cons, List.length_nil] ; omega)) (by first | exact hn | (simp only [List.length_append, List.length_cons, List.length_nil] ; omega)) h184) (fun a187 w189 v194 G191 hs195 h190 hv193 s188 => ?_)
    subst hv193
    have ht := ht.mono hs195
    have hr185 := hr185.mono hs195
    have hG192 := hG186.trans hs195
    refine q_of s188 rfl (fun _ k => o_assign (s188.ev rfl) k) (fun a196 s197 => ?_)
    refine wpList_nil ?_
    refine x_then_n ?_
    refine wp_ret ?_
    refine fin1 s197 rfl rfl ⟨_, _, rfl, hG192, h190.drop.drop, ?_⟩
    first | (unfold idText; rw [path0 d (by omega)]; rfl) | (unfold idText; rw [path1 d (by omega) (by omega)]; rfl) | (unfold idText; rw [path2 d (by omega) (by omega)]; rfl) | (unfold idText; rw [path3 d (by omega)]; rfl)
  ·
    refine wp_seq ?_
    refine wp_region_lit ?_
    refine q_box s0 rfl rfl h (fun a199 w201 b198 s200 h202 => ?_)
    have h202 : Holds _ _ ([(b198, .cells #[.int .u8 d.client.node, .int .u16 d.client.life, .int .u32 d.seq, .int .u8 d.depth, .int .u8 d.p0.group, .int .u8 d.p0.index, .int .u8 d.p1.group, .int .u8 d.p1.index, .int .u8 d.p2.group, .int .u8 d.p2.index] 71 (0, 0))] :: F) := h202
    refine q_of s200 rfl (fun _ k => o_assign (s200.ev rfl) k) (fun a203 s204 => ?_)
    refine wpList_nil ?_
    refine x_then_n ?_
    refine wp_seq ?_
    have hok : okX 44 [(1, .pointer (some ⟨b198, 0, none⟩)), (2, S [])] [(some 6, Fact.eq (.pointer (some ⟨b198, 0, none⟩))), (some 7, Fact.eq (.pointer (some ⟨b198, 0, none⟩))), (some 8, Fact.eq (.int .u8 d.client.node)), (some 9, Fact.eq (.int .i64 d.client.node)), (some 10, Fact.eq (.pointer (some ⟨b198, 0, none⟩))), (some 11, Fact.eq (.pointer (some ⟨b198, 1, none⟩))), (some 12, Fact.eq (.int .u16 d.client.life)), (some 13, Fact.eq (.int .i64 d.client.life)), (some 14, Fact.eq (S (point d.client.node d.client.life))), (some 15, Fact.eq (.pointer (some ⟨b198, 2, none⟩))), (some 16, Fact.eq (.int .u32 d.seq)), (some 17, Fact.eq (.int .i64 d.seq))] [] = true := rfl
    refine region_split 12 [1, 2, 3, 8, 5, 6, 7, 8, 12, 10, 11, 12, 13, 14] (N := 44) (L0 := [(1, .pointer (some ⟨b198, 0, none⟩)), (2, S [])]) (X := [(some 6, Fact.eq (.pointer (some ⟨b198, 0, none⟩))), (some 7, Fact.eq (.pointer (some ⟨b198, 0, none⟩))), (some 8, Fact.eq (.int .u8 d.client.node)), (some 9, Fact.eq (.int .i64 d.client.node)), (some 10, Fact.eq (.pointer (some ⟨b198, 0, none⟩))), (some 11, Fact.eq (.pointer (some ⟨b198, 1, none⟩))), (some 12, Fact.eq (.int .u16 d.client.life)), (some 13, Fact.eq (.int .i64 d.client.life)), (some 14, Fact.eq (S (point d.client.node d.client.life))), (some 15, Fact.eq (.pointer (some ⟨b198, 2, none⟩))), (some 16, Fact.eq (.int .u32 d.seq)), (some 17, Fact.eq (.int .i64 d.seq))]) (O := []) (HR := fun D a _ H => H = ([(b198, .cells #[.int .u8 d.client.node, .int .u16 d.client.life, .int .u32 d.seq, .int .u8 d.depth, .int .u8 d.p0.group, .int .u8 d.p0.index, .int .u8 d.p1.group, .int .u8 d.p1.index, .int .u8 d.p2.group, .int .u8 d.p2.index] 71 (0, 0))] :: F)) mixed rfl rfl rfl h202 rfl (s204.sub (all_cons rfl (all_cons rfl (all_nil)))) (fun i k t v hi => by simp at hi) ⟨?_, ?_, ?_, ?_, ?_, ?_, ?_, ?_, ?_, ?_, ?_, ?_, trivial⟩ (fun D a w G H hall j => ?_)
    · exact step_of rfl (fun D a w G H hR j => by (have s := j.sf ; exact o_fieldAddr (s.ev rfl) off71_0 (j.did hok rfl (GS.Le.refl _) j.holds j.hr rfl)))
    · exact step_of rfl (fun D a w G H hR j => by (have s := (j.sf.know _ _ (j.gotE 0 rfl (hR.was rfl 0 rfl))) ; exact o_fieldAddr (s.ev rfl) off67_0 (j.did hok rfl (GS.Le.refl _) j.holds j.hr rfl)))
    · exact step_of rfl (fun D a w G H hR j => by (have hH := j.hr ; subst H ; have s := (j.sf.know _ _ (j.gotE 1 rfl (hR.was rfl 1 rfl))) ; exact o_loadOne (s.ev rfl) ag5 ((j.holds.rowI 0 0 (cs := [.int .u8 d.client.node]) (o := 0) rfl rfl rfl) 0 _ rfl) (j.did hok rfl (GS.Le.refl _) j.holds j.hr rfl)))
    · exact step_of rfl (fun D a w G H hR j => by (have s := (j.sf.know _ _ (j.gotE 2 rfl (hR.was rfl 2 rfl))) ; exact o_conv (s.ev rfl) und5 und3 (wrap_i64 (by omega) (by omega)) (j.did hok rfl (GS.Le.refl _) j.holds j.hr rfl)))
    · exact step_of rfl (fun D a w G H hR j => by (have s := j.sf ; exact o_fieldAddr (s.ev rfl) off71_0 (j.did hok rfl (GS.Le.refl _) j.holds j.hr rfl)))
    · exact step_of rfl (fun D a w G H hR j => by (have s := (j.sf.know _ _ (j.gotE 4 rfl (hR.was rfl 4 rfl))) ; exact o_fieldAddr (s.ev rfl) off67_1 (j.did hok rfl (GS.Le.refl _) j.holds j.hr rfl)))
    · exact step_of rfl (fun D a w G H hR j => by (have hH := j.hr ; subst H ; have s := (j.sf.know _ _ (j.gotE 5 rfl (hR.was rfl 5 rfl))) ; exact o_loadOne (s.ev rfl) ag22 ((j.holds.rowI 0 0 (cs := [.int .u16 d.client.life]) (o := 1) rfl rfl rfl) 0 _ rfl) (j.did hok rfl (GS.Le.refl _) j.holds j.hr rfl)))
    · exact step_of rfl (fun D a w G H hR j => by (have s := (j.sf.know _ _ (j.gotE 6 rfl (hR.was rfl 6 rfl))) ; exact o_conv (s.ev rfl) und22 und3 (wrap_i64 (by omega) (by omega)) (j.did hok rfl (GS.Le.refl _) j.holds j.hr rfl)))
    · exact step_of rfl (fun D a w G H hR j => by (have s := ((j.sf.know _ _ (j.gotE 3 rfl (hR.was rfl 3 rfl))).know _ _ (j.gotE 7 rfl (hR.was rfl 7 rfl))) ; exact o_call s rfl ok37 (point_spec d.client.node d.client.life (by omega) (by omega) (ht.mono j.le) j.holds) (fun e w' ⟨v, G', he, hG, hh, hv⟩ => ⟨v, he, j.did hok rfl hG hh j.hr hv⟩)))
    · exact step_of rfl (fun D a w G H hR j => by (have s := j.sf ; exact o_fieldAddr (s.ev rfl) off71_1 (j.did hok rfl (GS.Le.refl _) j.holds j.hr rfl)))
    · exact step_of rfl (fun D a w G H hR j => by (have hH := j.hr ; subst H ; have s := (j.sf.know _ _ (j.gotE 9 rfl (hR.was rfl 9 rfl))) ; exact o_loadOne (s.ev rfl) ag25 ((j.holds.rowI 0 0 (cs := [.int .u32 d.seq]) (o := 2) rfl rfl rfl) 0 _ rfl) (j.did hok rfl (GS.Le.refl _) j.holds j.hr rfl)))
    · exact step_of rfl (fun D a w G H hR j => by (have s := (j.sf.know _ _ (j.gotE 10 rfl (hR.was rfl 10 rfl))) ; exact o_conv (s.ev rfl) und25 und3 (wrap_i64 (by omega) (by omega)) (j.did hok rfl (GS.Le.refl _) j.holds j.hr rfl)))
    have s206 := ((j.sf.know _ _ (j.gotE 8 rfl (hall 8 (by decide)))).know _ _ (j.gotE 11 rfl (hall 11 (by decide))))
    have hH := j.hr
    subst H
    have hle212 := j.le
    have ht := ht.mono hle212
    have hG210 := (GS.Le.refl _).trans hle212
    have h211 : Holds _ _ ([(b198, .cells #[.int .u8 d.client.node, .int .u16 d.client.life, .int .u32 d.seq, .int .u8 d.depth, .int .u8 d.p0.group, .int .u8 d.p0.index, .int .u8 d.p1.group, .int .u8 d.p1.index, .int .u8 d.p2.group, .int .u8 d.p2.index] 71 (0, 0))] :: F) := j.holds
    clear j hall hok
    refine q_call s206 rfl ok14 rfl (itoa_spec d.seq (by omega) ht h211) (fun a213 w215 v220 G217 hs221 h216 hv219 s214 => ?_)
    subst hv219
    have ht := ht.mono hs221
    have hG218 := hG210.trans hs221
    have hL_203868 := Lib.itoa_length_le d.seq (by omega) (by omega)
    refine q_buildSlice s214 rfl h216 (vs := [(0, S (point d.client.node d.client.life)), (1, S (Lib.itoa d.seq))]) (cl := [S (point d.client.node d.client.life), S (Lib.itoa d.seq)]) (E := 9) rfl (fun w => by kernel_rfl) (fun a223 w225 b222 s224 h226 => ?_)
    have h226 : Holds _ _ ([(b222, .cells #[S (point d.client.node d.client.life), S (Lib.itoa d.seq)] 9 (0, 0))] :: [(b198, .cells #[.int .u8 d.client.node, .int .u16 d.client.life, .int .u32 d.seq, .int .u8 d.depth, .int .u8 d.p0.group, .int .u8 d.p0.index, .int .u8 d.p1.group, .int .u8 d.p1.index, .int .u8 d.p2.group, .int .u8 d.p2.index] 71 (0, 0))] :: F) := h226
    refine q_of s224 rfl (fun _ k => o_assign (s224.ev rfl) k) (fun a227 s228 => ?_)
    refine wpList_nil ?_
    refine x_then_n ?_
    refine wp_seq ?_
    refine wp_seq ?_
    refine wp_region_lit ?_
    refine q_of s228 rfl (fun _ k => o_fieldAddr (s228.ev rfl) off71_3 k) (fun a229 s230 => ?_)
    refine q_of s230 rfl (fun _ k => o_fieldAddr (s230.ev rfl) off71_2 k) (fun a231 s232 => ?_)
    refine q_of s232 rfl (fun _ k => o_loadOne (s232.ev rfl) ag5 ((h226.rowI 1 0 (cs := [.int .u8 d.depth]) (o := 3) rfl rfl rfl) 0 _ rfl) k) (fun a233 s234 => ?_)
    refine q_of s234 rfl (fun _ k => o_conv (s234.ev rfl) und5 und3 (wrap_i64 (by omega) (by omega)) k) (fun a235 s236 => ?_)
    refine q_of s236 rfl (fun _ k => o_minz (s236.ev rfl) (s236.ev rfl) (z := 2) (by omega) k) (fun a237 s238 => ?_)
    refine q_of s238 rfl (fun _ k => o_sliceA (s238.ev rfl) (s238.ev rfl) und69 (m := 2) sz68 rfl (by decide) k) (fun a239 s240 => ?_)
    refine q_of s240 rfl (fun _ k => o_len (s240.ev rfl) und147 k) (fun a241 s242 => ?_)
    refine q_of s242 rfl (fun _ k => o_move (s242.ev rfl) k) (fun a243 s244 => ?_)
    refine wpList_nil ?_
    refine x_then_n ?_
    refine wp_block ?_
    refine wp_loop_rounds 4 ?_
    refine rounds_step (n := 3) ?_
    refine wp_seq ?_
    refine wp_region_lit ?_
    refine q_of s244 rfl (fun _ k => o_lss (s244.ev rfl) (s244.ev rfl) k) (fun a245 s246 => ?_)
    refine wpList_nil ?_
    refine x_then_n ?_
    refine wp_seq ?_
    refine q_ift s246 rfl rfl ?_
    refine wp_skip ?_
    refine x_then_n ?_
    refine wp_seq ?_
    refine wp_block ?_
    refine wp_seq ?_
    refine wp_region_lit ?_
    refine q_of s246 rfl (fun _ k => o_idxSm (s246.ev rfl) (s246.ev rfl) und147 sz68 (i := 0) rfl (by decide) rfl rfl (m := 4) rfl k) (fun a248 s249 => ?_)
    refine q_of s249 rfl (fun _ k => o_loadAgg (s249.ev rfl) ag68 sz68 (cs := [.int .u8 d.p0.group, .int .u8 d.p0.index]) rfl (h226.rowI 1 0 (cs := [.int .u8 d.p0.group, .int .u8 d.p0.index]) (o := 4) rfl rfl rfl) k) (fun a250 s251 => ?_)
    refine q_alloc s251 rfl h226 zero68 (fun a253 w255 b252 s254 h256 => ?_)
    refine q_store s254 rfl rfl sz68 rfl h256 (j := 0) rfl rfl rfl (cl := [.int .u8 d.p0.group, .int .u8 d.p0.index]) (by kernel_rfl) (fun a257 w259 s258 h260 => ?_)
    have h260 : Holds _ _ ([(b252, .cells #[.int .u8 d.p0.group, .int .u8 d.p0.index] 68 (0, 0))] :: [(b222, .cells #[S (point d.client.node d.client.life), S (Lib.itoa d.seq)] 9 (0, 0))] :: [(b198, .cells #[.int .u8 d.client.node, .int .u16 d.client.life, .int .u32 d.seq, .int .u8 d.depth, .int .u8 d.p0.group, .int .u8 d.p0.index, .int .u8 d.p1.group, .int .u8 d.p1.index, .int .u8 d.p2.group, .int .u8 d.p2.index] 71 (0, 0))] :: F) := h260
    refine wpList_nil ?_
    refine x_then_n ?_
    refine wp_region_lit ?_
    refine q_of s258 rfl (fun _ k => o_move (s258.ev rfl) k) (fun a261 s262 => ?_)
    refine q_of s262 rfl (fun _ k => o_fieldAddr (s262.ev rfl) off68_0 k) (fun a263 s264 => ?_)
    refine q_of s264 rfl (fun _ k => o_loadOne (s264.ev rfl) ag5 ((h260.rowI 0 0 (cs := [.int .u8 d.p0.group]) (o := 0) rfl rfl rfl) 0 _ rfl) k) (fun a265 s266 => ?_)
    refine q_of s266 rfl (fun _ k => o_conv (s266.ev rfl) und5 und3 (wrap_i64 (by omega) (by omega)) k) (fun a267 s268 => ?_)
    refine q_of s268 rfl (fun _ k => o_fieldAddr (s268.ev rfl) off68_1 k) (fun a269 s270 => ?_)
    refine q_of s270 rfl (fun _ k => o_loadOne (s270.ev rfl) ag5 ((h260.rowI 0 0 (cs := [.int .u8 d.p0.index]) (o := 1) rfl rfl rfl) 0 _ rfl) k) (fun a271 s272 => ?_)
    refine q_of s272 rfl (fun _ k => o_conv (s272.ev rfl) und5 und3 (wrap_i64 (by omega) (by omega)) k) (fun a273 s274 => ?_)
    refine q_call s274 rfl ok37 rfl (point_spec d.p0.group d.p0.index (by omega) (by omega) ht h260) (fun a275 w277 v282 G279 hs283 h278 hv281 s276 => ?_)
    subst hv281
    have ht := ht.mono hs283
    have hG280 := hG218.trans hs283
    have hL_738460 := point_len d.p0.group d.p0.index (by omega) (by omega)
    refine q_buildSlice s276 rfl h278 (vs := [(0, S (point d.p0.group d.p0.index))]) (cl := [S (point d.p0.group d.p0.index)]) (E := 9) rfl (fun w => by kernel_rfl) (fun a285 w287 b284 s286 h288 => ?_)
    have h288 : Holds _ _ ([(b284, .cells #[S (point d.p0.group d.p0.index)] 9 (0, 0))] :: [(b252, .cells #[.int .u8 d.p0.group, .int .u8 d.p0.index] 68 (0, 0))] :: [(b222, .cells #[S (point d.client.node d.client.life), S (Lib.itoa d.seq)] 9 (0, 0))] :: [(b198, .cells #[.int .u8 d.client.node, .int .u16 d.client.life, .int .u32 d.seq, .int .u8 d.depth, .int .u8 d.p0.group, .int .u8 d.p0.index, .int .u8 d.p1.group, .int .u8 d.p1.index, .int .u8 d.p2.group, .int .u8 d.p2.index] 71 (0, 0))] :: F) := h288
    have h289 : Holds _ _ ([(b222, .cells #[S (point d.client.node d.client.life), S (Lib.itoa d.seq)] 9 (0, 0))] :: [(b284, .cells #[S (point d.p0.group d.p0.index)] 9 (0, 0))] :: [(b252, .cells #[.int .u8 d.p0.group, .int .u8 d.p0.index] 68 (0, 0))] :: [(b198, .cells #[.int .u8 d.client.node, .int .u16 d.client.life, .int .u32 d.seq, .int .u8 d.depth, .int .u8 d.p0.group, .int .u8 d.p0.index, .int .u8 d.p1.group, .int .u8 d.p1.index, .int .u8 d.p2.group, .int .u8 d.p2.index] 71 (0, 0))] :: F) := h288.front 2 rfl
    refine q_append s286 rfl (Row.lit (E := 9) (size := 1) (n := 2) (b := b222) (xs := [S (point d.client.node d.client.life), S (Lib.itoa d.seq)]) rfl (by decide)) h289 rfl rfl und102 elem9 (news := [S (point d.p0.group d.p0.index)]) rfl (h289.rowI 1 0 (o := 0) rfl rfl rfl) rfl (by omega) (by omega) (fun a290 w292 ao294 cap295 c296 s291 r297 h293 => ?_)
    have h298 : Holds _ _ ([(b284, .cells #[S (point d.p0.group d.p0.index)] 9 (0, 0))] :: c296 :: [(b252, .cells #[.int .u8 d.p0.group, .int .u8 d.p0.index] 68 (0, 0))] :: [(b198, .cells #[.int .u8 d.client.node, .int .u16 d.client.life, .int .u32 d.seq, .int .u8 d.depth, .int .u8 d.p0.group, .int .u8 d.p0.index, .int .u8 d.p1.group, .int .u8 d.p1.index, .int .u8 d.p2.group, .int .u8 d.p2.index] 71 (0, 0))] :: F) := h293.front 1 rfl
    have h299 : Holds _ _ (c296 :: [(b252, .cells #[.int .u8 d.p0.group, .int .u8 d.p0.index] 68 (0, 0))] :: [(b198, .cells #[.int .u8 d.client.node, .int .u16 d.client.life, .int .u32 d.seq, .int .u8 d.depth, .int .u8 d.p0.group, .int .u8 d.p0.index, .int .u8 d.p1.group, .int .u8 d.p1.index, .int .u8 d.p2.group, .int .u8 d.p2.index] 71 (0, 0))] :: F) := h298.drop
    refine q_of s291 rfl (fun _ k => o_assign (s291.ev rfl) k) (fun a300 s301 => ?_)
    refine wpList_nil ?_
    refine x_blk_n ?_
    refine x_then_n ?_
    refine wp_region_lit ?_
    refine q_of s301 rfl (fun _ k => o_add (s301.ev rfl) (s301.ev rfl) (z := 1) rfl k) (fun a302 s303 => ?_)
    refine q_of s303 rfl (fun _ k => o_move (s303.ev rfl) k) (fun a304 s305 => ?_)
    refine wpList_nil ?_
    refine x_then_n ?_
    refine rounds_step (n := 2) ?_
    refine wp_seq ?_
    refine wp_region_lit ?_
    refine q_of s305 rfl (fun _ k => o_lss (s305.ev rfl) (s305.ev rfl) k) (fun a306 s307 => ?_)
    refine wpList_nil ?_
    refine x_then_n ?_
    refine wp_seq ?_
    refine q_ift s307 rfl rfl ?_
    refine wp_skip ?_
    refine x_then_n ?_
    refine wp_seq ?_
    refine wp_block ?_
    refine wp_seq ?_
    refine wp_region_lit ?_
    refine q_of s307 rfl (fun _ k => o_idxSm (s307.ev rfl) (s307.ev rfl) und147 sz68 (i := 1) rfl (by decide) rfl rfl (m := 6) rfl k) (fun a309 s310 => ?_)
    refine q_of s310 rfl (fun _ k => o_loadAgg (s310.ev rfl) ag68 sz68 (cs := [.int .u8 d.p1.group, .int .u8 d.p1.index]) rfl (h299.rowI 2 0 (cs := [.int .u8 d.p1.group, .int .u8 d.p1.index]) (o := 6) rfl rfl rfl) k) (fun a311 s312 => ?_)
    refine q_alloc s312 rfl h299 zero68 (fun a314 w316 b313 s315 h317 => ?_)
    refine q_store s315 rfl rfl sz68 rfl h317 (j := 0) rfl rfl rfl (cl := [.int .u8 d.p1.group, .int .u8 d.p1.index]) (by kernel_rfl) (fun a318 w320 s319 h321 => ?_)
    have h321 : Holds _ _ ([(b313, .cells #[.int .u8 d.p1.group, .int .u8 d.p1.index] 68 (0, 0))] :: c296 :: [(b252, .cells #[.int .u8 d.p0.group, .int .u8 d.p0.index] 68 (0, 0))] :: [(b198, .cells #[.int .u8 d.client.node, .int .u16 d.client.life, .int .u32 d.seq, .int .u8 d.depth, .int .u8 d.p0.group, .int .u8 d.p0.index, .int .u8 d.p1.group, .int .u8 d.p1.index, .int .u8 d.p2.group, .int .u8 d.p2.index] 71 (0, 0))] :: F) := h321
    refine wpList_nil ?_
    refine x_then_n ?_
    refine wp_region_lit ?_
    refine q_of s319 rfl (fun _ k => o_move (s319.ev rfl) k) (fun a322 s323 => ?_)
    refine q_of s323 rfl (fun _ k => o_fieldAddr (s323.ev rfl) off68_0 k) (fun a324 s325 => ?_)
    refine q_of s325 rfl (fun _ k => o_loadOne (s325.ev rfl) ag5 ((h321.rowI 0 0 (cs := [.int .u8 d.p1.group]) (o := 0) rfl rfl rfl) 0 _ rfl) k) (fun a326 s327 => ?_)
    refine q_of s327 rfl (fun _ k => o_conv (s327.ev rfl) und5 und3 (wrap_i64 (by omega) (by omega)) k) (fun a328 s329 => ?_)
    refine q_of s329 rfl (fun _ k => o_fieldAddr (s329.ev rfl) off68_1 k) (fun a330 s331 => ?_)
    refine q_of s331 rfl (fun _ k => o_loadOne (s331.ev rfl) ag5 ((h321.rowI 0 0 (cs := [.int .u8 d.p1.index]) (o := 1) rfl rfl rfl) 0 _ rfl) k) (fun a332 s333 => ?_)
    refine q_of s333 rfl (fun _ k => o_conv (s333.ev rfl) und5 und3 (wrap_i64 (by omega) (by omega)) k) (fun a334 s335 => ?_)
    refine q_call s335 rfl ok37 rfl (point_spec d.p1.group d.p1.index (by omega) (by omega) ht h321) (fun a336 w338 v343 G340 hs344 h339 hv342 s337 => ?_)
    subst hv342
    have ht := ht.mono hs344
    have hG341 := hG280.trans hs344
    have hL_960299 := point_len d.p1.group d.p1.index (by omega) (by omega)
    refine q_buildSlice s337 rfl h339 (vs := [(0, S (point d.p1.group d.p1.index))]) (cl := [S (point d.p1.group d.p1.index)]) (E := 9) rfl (fun w => by kernel_rfl) (fun a346 w348 b345 s347 h349 => ?_)
    have h349 : Holds _ _ ([(b345, .cells #[S (point d.p1.group d.p1.index)] 9 (0, 0))] :: [(b313, .cells #[.int .u8 d.p1.group, .int .u8 d.p1.index] 68 (0, 0))] :: c296 :: [(b252, .cells #[.int .u8 d.p0.group, .int .u8 d.p0.index] 68 (0, 0))] :: [(b198, .cells #[.int .u8 d.client.node, .int .u16 d.client.life, .int .u32 d.seq, .int .u8 d.depth, .int .u8 d.p0.group, .int .u8 d.p0.index, .int .u8 d.p1.group, .int .u8 d.p1.index, .int .u8 d.p2.group, .int .u8 d.p2.index] 71 (0, 0))] :: F) := h349
    have h350 : Holds _ _ (c296 :: [(b345, .cells #[S (point d.p1.group d.p1.index)] 9 (0, 0))] :: [(b313, .cells #[.int .u8 d.p1.group, .int .u8 d.p1.index] 68 (0, 0))] :: [(b252, .cells #[.int .u8 d.p0.group, .int .u8 d.p0.index] 68 (0, 0))] :: [(b198, .cells #[.int .u8 d.client.node, .int .u16 d.client.life, .int .u32 d.seq, .int .u8 d.depth, .int .u8 d.p0.group, .int .u8 d.p0.index, .int .u8 d.p1.group, .int .u8 d.p1.index, .int .u8 d.p2.group, .int .u8 d.p2.index] 71 (0, 0))] :: F) := h349.front 2 rfl
    refine q_append s347 rfl r297 h350 rfl rfl und102 elem9 (news := [S (point d.p1.group d.p1.index)]) rfl (h350.rowI 1 0 (o := 0) rfl rfl rfl) rfl (by omega) (by omega) (fun a351 w353 ao355 cap356 c357 s352 r358 h354 => ?_)
    have h359 : Holds _ _ ([(b345, .cells #[S (point d.p1.group d.p1.index)] 9 (0, 0))] :: c357 :: [(b313, .cells #[.int .u8 d.p1.group, .int .u8 d.p1.index] 68 (0, 0))] :: [(b252, .cells #[.int .u8 d.p0.group, .int .u8 d.p0.index] 68 (0, 0))] :: [(b198, .cells #[.int .u8 d.client.node, .int .u16 d.client.life, .int .u32 d.seq, .int .u8 d.depth, .int .u8 d.p0.group, .int .u8 d.p0.index, .int .u8 d.p1.group, .int .u8 d.p1.index, .int .u8 d.p2.group, .int .u8 d.p2.index] 71 (0, 0))] :: F) := h354.front 1 rfl
    have h360 : Holds _ _ (c357 :: [(b313, .cells #[.int .u8 d.p1.group, .int .u8 d.p1.index] 68 (0, 0))] :: [(b252, .cells #[.int .u8 d.p0.group, .int .u8 d.p0.index] 68 (0, 0))] :: [(b198, .cells #[.int .u8 d.client.node, .int .u16 d.client.life, .int .u32 d.seq, .int .u8 d.depth, .int .u8 d.p0.group, .int .u8 d.p0.index, .int .u8 d.p1.group, .int .u8 d.p1.index, .int .u8 d.p2.group, .int .u8 d.p2.index] 71 (0, 0))] :: F) := h359.drop
    refine q_of s352 rfl (fun _ k => o_assign (s352.ev rfl) k) (fun a361 s362 => ?_)
    refine wpList_nil ?_
    refine x_blk_n ?_
    refine x_then_n ?_
    refine wp_region_lit ?_
    refine q_of s362 rfl (fun _ k => o_add (s362.ev rfl) (s362.ev rfl) (z := 2) rfl k) (fun a363 s364 => ?_)
    refine q_of s364 rfl (fun _ k => o_move (s364.ev rfl) k) (fun a365 s366 => ?_)
    refine wpList_nil ?_
    refine x_then_n ?_
    refine rounds_step (n := 1) ?_
    refine wp_seq ?_
    refine wp_region_lit ?_
    refine q_of s366 rfl (fun _ k => o_lss (s366.ev rfl) (s366.ev rfl) k) (fun a367 s368 => ?_)
    refine wpList_nil ?_
    refine x_then_n ?_
    refine wp_seq ?_
    refine q_iff s368 rfl rfl ?_
    refine wp_exit ?_
    refine x_then_x ?_
    refine x_then_x ?_
    refine x_blk_x ?_
    refine x_then_n ?_
    refine wp_seq ?_
    refine wp_region_lit ?_
    refine q_of s368 rfl (fun _ k => o_move (s368.ev rfl) k) (fun a370 s371 => ?_)
    obtain ⟨G372, hs373, h374, hr375⟩ := Row.toG (enc := encS) (l := [point d.client.node d.client.life, Lib.itoa d.seq, point d.p0.group d.p0.index, point d.p1.group d.p1.index]) (fun _ => rfl) r358 (by first | rfl | (simp only [List.length_take] ; omega)) h360
    have ht := ht.mono hs373
    have hG376 := hG341.trans hs373
    refine q_call s371 rfl ok45 rfl (join_spec ao355 cap356 [point d.client.node d.client.life, Lib.itoa d.seq, point d.p0.group d.p0.index, point d.p1.group d.p1.index] [47] hr375 (by first | exact hl | (refine Nat.le_trans (join_len _ _) ?_ ; simp only [List.map_append, List.map_cons, List.map_nil, List.sum_append, List.sum_cons, List.sum_nil, List.length_append, List.length_cons, List.length_nil] ; omega)) (by first | exact hn | (simp only [List.length_append, List.length_cons, List.length_nil] ; omega)) h374) (fun a377 w379 v384 G381 hs385 h380 hv383 s378 => ?_)
    subst hv383
    have ht := ht.mono hs385
    have hr375 := hr375.mono hs385
    have hG382 := hG376.trans hs385
    refine q_of s378 rfl (fun _ k => o_assign (s378.ev rfl) k) (fun a386 s387 => ?_)
    refine wpList_nil ?_
    refine x_then_n ?_
    refine wp_ret ?_
    refine fin1 s387 rfl rfl ⟨_, _, rfl, hG382, h380.drop.drop.drop, ?_⟩
    first | (unfold idText; rw [path0 d (by omega)]; rfl) | (unfold idText; rw [path1 d (by omega) (by omega)]; rfl) | (unfold idText; rw [path2 d (by omega) (by omega)]; rfl) | (unfold idText; rw [path3 d (by omega)]; rfl)
  ·
    refine wp_seq ?_
    refine wp_region_lit ?_
    refine q_box s0 rfl rfl h (fun a389 w391 b388 s390 h392 => ?_)
    have h392 : Holds _ _ ([(b388, .cells #[.int .u8 d.client.node, .int .u16 d.client.life, .int .u32 d.seq, .int .u8 d.depth, .int .u8 d.p0.group, .int .u8 d.p0.index, .int .u8 d.p1.group, .int .u8 d.p1.index, .int .u8 d.p2.group, .int .u8 d.p2.index] 71 (0, 0))] :: F) := h392
    refine q_of s390 rfl (fun _ k => o_assign (s390.ev rfl) k) (fun a393 s394 => ?_)
    refine wpList_nil ?_
    refine x_then_n ?_
    refine wp_seq ?_
    have hok : okX 44 [(1, .pointer (some ⟨b388, 0, none⟩)), (2, S [])] [(some 6, Fact.eq (.pointer (some ⟨b388, 0, none⟩))), (some 7, Fact.eq (.pointer (some ⟨b388, 0, none⟩))), (some 8, Fact.eq (.int .u8 d.client.node)), (some 9, Fact.eq (.int .i64 d.client.node)), (some 10, Fact.eq (.pointer (some ⟨b388, 0, none⟩))), (some 11, Fact.eq (.pointer (some ⟨b388, 1, none⟩))), (some 12, Fact.eq (.int .u16 d.client.life)), (some 13, Fact.eq (.int .i64 d.client.life)), (some 14, Fact.eq (S (point d.client.node d.client.life))), (some 15, Fact.eq (.pointer (some ⟨b388, 2, none⟩))), (some 16, Fact.eq (.int .u32 d.seq)), (some 17, Fact.eq (.int .i64 d.seq))] [] = true := rfl
    refine region_split 12 [1, 2, 3, 8, 5, 6, 7, 8, 12, 10, 11, 12, 13, 14] (N := 44) (L0 := [(1, .pointer (some ⟨b388, 0, none⟩)), (2, S [])]) (X := [(some 6, Fact.eq (.pointer (some ⟨b388, 0, none⟩))), (some 7, Fact.eq (.pointer (some ⟨b388, 0, none⟩))), (some 8, Fact.eq (.int .u8 d.client.node)), (some 9, Fact.eq (.int .i64 d.client.node)), (some 10, Fact.eq (.pointer (some ⟨b388, 0, none⟩))), (some 11, Fact.eq (.pointer (some ⟨b388, 1, none⟩))), (some 12, Fact.eq (.int .u16 d.client.life)), (some 13, Fact.eq (.int .i64 d.client.life)), (some 14, Fact.eq (S (point d.client.node d.client.life))), (some 15, Fact.eq (.pointer (some ⟨b388, 2, none⟩))), (some 16, Fact.eq (.int .u32 d.seq)), (some 17, Fact.eq (.int .i64 d.seq))]) (O := []) (HR := fun D a _ H => H = ([(b388, .cells #[.int .u8 d.client.node, .int .u16 d.client.life, .int .u32 d.seq, .int .u8 d.depth, .int .u8 d.p0.group, .int .u8 d.p0.index, .int .u8 d.p1.group, .int .u8 d.p1.index, .int .u8 d.p2.group, .int .u8 d.p2.index] 71 (0, 0))] :: F)) mixed rfl rfl rfl h392 rfl (s394.sub (all_cons rfl (all_cons rfl (all_nil)))) (fun i k t v hi => by simp at hi) ⟨?_, ?_, ?_, ?_, ?_, ?_, ?_, ?_, ?_, ?_, ?_, ?_, trivial⟩ (fun D a w G H hall j => ?_)
    · exact step_of rfl (fun D a w G H hR j => by (have s := j.sf ; exact o_fieldAddr (s.ev rfl) off71_0 (j.did hok rfl (GS.Le.refl _) j.holds j.hr rfl)))
    · exact step_of rfl (fun D a w G H hR j => by (have s := (j.sf.know _ _ (j.gotE 0 rfl (hR.was rfl 0 rfl))) ; exact o_fieldAddr (s.ev rfl) off67_0 (j.did hok rfl (GS.Le.refl _) j.holds j.hr rfl)))
    · exact step_of rfl (fun D a w G H hR j => by (have hH := j.hr ; subst H ; have s := (j.sf.know _ _ (j.gotE 1 rfl (hR.was rfl 1 rfl))) ; exact o_loadOne (s.ev rfl) ag5 ((j.holds.rowI 0 0 (cs := [.int .u8 d.client.node]) (o := 0) rfl rfl rfl) 0 _ rfl) (j.did hok rfl (GS.Le.refl _) j.holds j.hr rfl)))
    · exact step_of rfl (fun D a w G H hR j => by (have s := (j.sf.know _ _ (j.gotE 2 rfl (hR.was rfl 2 rfl))) ; exact o_conv (s.ev rfl) und5 und3 (wrap_i64 (by omega) (by omega)) (j.did hok rfl (GS.Le.refl _) j.holds j.hr rfl)))
    · exact step_of rfl (fun D a w G H hR j => by (have s := j.sf ; exact o_fieldAddr (s.ev rfl) off71_0 (j.did hok rfl (GS.Le.refl _) j.holds j.hr rfl)))
    · exact step_of rfl (fun D a w G H hR j => by (have s := (j.sf.know _ _ (j.gotE 4 rfl (hR.was rfl 4 rfl))) ; exact o_fieldAddr (s.ev rfl) off67_1 (j.did hok rfl (GS.Le.refl _) j.holds j.hr rfl)))
    · exact step_of rfl (fun D a w G H hR j => by (have hH := j.hr ; subst H ; have s := (j.sf.know _ _ (j.gotE 5 rfl (hR.was rfl 5 rfl))) ; exact o_loadOne (s.ev rfl) ag22 ((j.holds.rowI 0 0 (cs := [.int .u16 d.client.life]) (o := 1) rfl rfl rfl) 0 _ rfl) (j.did hok rfl (GS.Le.refl _) j.holds j.hr rfl)))
    · exact step_of rfl (fun D a w G H hR j => by (have s := (j.sf.know _ _ (j.gotE 6 rfl (hR.was rfl 6 rfl))) ; exact o_conv (s.ev rfl) und22 und3 (wrap_i64 (by omega) (by omega)) (j.did hok rfl (GS.Le.refl _) j.holds j.hr rfl)))
    · exact step_of rfl (fun D a w G H hR j => by (have s := ((j.sf.know _ _ (j.gotE 3 rfl (hR.was rfl 3 rfl))).know _ _ (j.gotE 7 rfl (hR.was rfl 7 rfl))) ; exact o_call s rfl ok37 (point_spec d.client.node d.client.life (by omega) (by omega) (ht.mono j.le) j.holds) (fun e w' ⟨v, G', he, hG, hh, hv⟩ => ⟨v, he, j.did hok rfl hG hh j.hr hv⟩)))
    · exact step_of rfl (fun D a w G H hR j => by (have s := j.sf ; exact o_fieldAddr (s.ev rfl) off71_1 (j.did hok rfl (GS.Le.refl _) j.holds j.hr rfl)))
    · exact step_of rfl (fun D a w G H hR j => by (have hH := j.hr ; subst H ; have s := (j.sf.know _ _ (j.gotE 9 rfl (hR.was rfl 9 rfl))) ; exact o_loadOne (s.ev rfl) ag25 ((j.holds.rowI 0 0 (cs := [.int .u32 d.seq]) (o := 2) rfl rfl rfl) 0 _ rfl) (j.did hok rfl (GS.Le.refl _) j.holds j.hr rfl)))
    · exact step_of rfl (fun D a w G H hR j => by (have s := (j.sf.know _ _ (j.gotE 10 rfl (hR.was rfl 10 rfl))) ; exact o_conv (s.ev rfl) und25 und3 (wrap_i64 (by omega) (by omega)) (j.did hok rfl (GS.Le.refl _) j.holds j.hr rfl)))
    have s396 := ((j.sf.know _ _ (j.gotE 8 rfl (hall 8 (by decide)))).know _ _ (j.gotE 11 rfl (hall 11 (by decide))))
    have hH := j.hr
    subst H
    have hle402 := j.le
    have ht := ht.mono hle402
    have hG400 := (GS.Le.refl _).trans hle402
    have h401 : Holds _ _ ([(b388, .cells #[.int .u8 d.client.node, .int .u16 d.client.life, .int .u32 d.seq, .int .u8 d.depth, .int .u8 d.p0.group, .int .u8 d.p0.index, .int .u8 d.p1.group, .int .u8 d.p1.index, .int .u8 d.p2.group, .int .u8 d.p2.index] 71 (0, 0))] :: F) := j.holds
    clear j hall hok
    refine q_call s396 rfl ok14 rfl (itoa_spec d.seq (by omega) ht h401) (fun a403 w405 v410 G407 hs411 h406 hv409 s404 => ?_)
    subst hv409
    have ht := ht.mono hs411
    have hG408 := hG400.trans hs411
    have hL_203868 := Lib.itoa_length_le d.seq (by omega) (by omega)
    refine q_buildSlice s404 rfl h406 (vs := [(0, S (point d.client.node d.client.life)), (1, S (Lib.itoa d.seq))]) (cl := [S (point d.client.node d.client.life), S (Lib.itoa d.seq)]) (E := 9) rfl (fun w => by kernel_rfl) (fun a413 w415 b412 s414 h416 => ?_)
    have h416 : Holds _ _ ([(b412, .cells #[S (point d.client.node d.client.life), S (Lib.itoa d.seq)] 9 (0, 0))] :: [(b388, .cells #[.int .u8 d.client.node, .int .u16 d.client.life, .int .u32 d.seq, .int .u8 d.depth, .int .u8 d.p0.group, .int .u8 d.p0.index, .int .u8 d.p1.group, .int .u8 d.p1.index, .int .u8 d.p2.group, .int .u8 d.p2.index] 71 (0, 0))] :: F) := h416
    refine q_of s414 rfl (fun _ k => o_assign (s414.ev rfl) k) (fun a417 s418 => ?_)
    refine wpList_nil ?_
    refine x_then_n ?_
    refine wp_seq ?_
    refine wp_seq ?_
    refine wp_region_lit ?_
    refine q_of s418 rfl (fun _ k => o_fieldAddr (s418.ev rfl) off71_3 k) (fun a419 s420 => ?_)
    refine q_of s420 rfl (fun _ k => o_fieldAddr (s420.ev rfl) off71_2 k) (fun a421 s422 => ?_)
    refine q_of s422 rfl (fun _ k => o_loadOne (s422.ev rfl) ag5 ((h416.rowI 1 0 (cs := [.int .u8 d.depth]) (o := 3) rfl rfl rfl) 0 _ rfl) k) (fun a423 s424 => ?_)
    refine q_of s424 rfl (fun _ k => o_conv (s424.ev rfl) und5 und3 (wrap_i64 (by omega) (by omega)) k) (fun a425 s426 => ?_)
    refine q_of s426 rfl (fun _ k => o_minz (s426.ev rfl) (s426.ev rfl) (z := 3) (by omega) k) (fun a427 s428 => ?_)
    refine q_of s428 rfl (fun _ k => o_sliceA (s428.ev rfl) (s428.ev rfl) und69 (m := 3) sz68 rfl (by decide) k) (fun a429 s430 => ?_)
    refine q_of s430 rfl (fun _ k => o_len (s430.ev rfl) und147 k) (fun a431 s432 => ?_)
    refine q_of s432 rfl (fun _ k => o_move (s432.ev rfl) k) (fun a433 s434 => ?_)
    refine wpList_nil ?_
    refine x_then_n ?_
    refine wp_block ?_
    refine wp_loop_rounds 4 ?_
    refine rounds_step (n := 3) ?_
    refine wp_seq ?_
    refine wp_region_lit ?_
    refine q_of s434 rfl (fun _ k => o_lss (s434.ev rfl) (s434.ev rfl) k) (fun a435 s436 => ?_)
    refine wpList_nil ?_
    refine x_then_n ?_
    refine wp_seq ?_
    refine q_ift s436 rfl rfl ?_
    refine wp_skip ?_
    refine x_then_n ?_
    refine wp_seq ?_
    refine wp_block ?_
    refine wp_seq ?_
    refine wp_region_lit ?_
    refine q_of s436 rfl (fun _ k => o_idxSm (s436.ev rfl) (s436.ev rfl) und147 sz68 (i := 0) rfl (by decide) rfl rfl (m := 4) rfl k) (fun a438 s439 => ?_)
    refine q_of s439 rfl (fun _ k => o_loadAgg (s439.ev rfl) ag68 sz68 (cs := [.int .u8 d.p0.group, .int .u8 d.p0.index]) rfl (h416.rowI 1 0 (cs := [.int .u8 d.p0.group, .int .u8 d.p0.index]) (o := 4) rfl rfl rfl) k) (fun a440 s441 => ?_)
    refine q_alloc s441 rfl h416 zero68 (fun a443 w445 b442 s444 h446 => ?_)
    refine q_store s444 rfl rfl sz68 rfl h446 (j := 0) rfl rfl rfl (cl := [.int .u8 d.p0.group, .int .u8 d.p0.index]) (by kernel_rfl) (fun a447 w449 s448 h450 => ?_)
    have h450 : Holds _ _ ([(b442, .cells #[.int .u8 d.p0.group, .int .u8 d.p0.index] 68 (0, 0))] :: [(b412, .cells #[S (point d.client.node d.client.life), S (Lib.itoa d.seq)] 9 (0, 0))] :: [(b388, .cells #[.int .u8 d.client.node, .int .u16 d.client.life, .int .u32 d.seq, .int .u8 d.depth, .int .u8 d.p0.group, .int .u8 d.p0.index, .int .u8 d.p1.group, .int .u8 d.p1.index, .int .u8 d.p2.group, .int .u8 d.p2.index] 71 (0, 0))] :: F) := h450
    refine wpList_nil ?_
    refine x_then_n ?_
    refine wp_region_lit ?_
    refine q_of s448 rfl (fun _ k => o_move (s448.ev rfl) k) (fun a451 s452 => ?_)
    refine q_of s452 rfl (fun _ k => o_fieldAddr (s452.ev rfl) off68_0 k) (fun a453 s454 => ?_)
    refine q_of s454 rfl (fun _ k => o_loadOne (s454.ev rfl) ag5 ((h450.rowI 0 0 (cs := [.int .u8 d.p0.group]) (o := 0) rfl rfl rfl) 0 _ rfl) k) (fun a455 s456 => ?_)
    refine q_of s456 rfl (fun _ k => o_conv (s456.ev rfl) und5 und3 (wrap_i64 (by omega) (by omega)) k) (fun a457 s458 => ?_)
    refine q_of s458 rfl (fun _ k => o_fieldAddr (s458.ev rfl) off68_1 k) (fun a459 s460 => ?_)
    refine q_of s460 rfl (fun _ k => o_loadOne (s460.ev rfl) ag5 ((h450.rowI 0 0 (cs := [.int .u8 d.p0.index]) (o := 1) rfl rfl rfl) 0 _ rfl) k) (fun a461 s462 => ?_)
    refine q_of s462 rfl (fun _ k => o_conv (s462.ev rfl) und5 und3 (wrap_i64 (by omega) (by omega)) k) (fun a463 s464 => ?_)
    refine q_call s464 rfl ok37 rfl (point_spec d.p0.group d.p0.index (by omega) (by omega) ht h450) (fun a465 w467 v472 G469 hs473 h468 hv471 s466 => ?_)
    subst hv471
    have ht := ht.mono hs473
    have hG470 := hG408.trans hs473
    have hL_738460 := point_len d.p0.group d.p0.index (by omega) (by omega)
    refine q_buildSlice s466 rfl h468 (vs := [(0, S (point d.p0.group d.p0.index))]) (cl := [S (point d.p0.group d.p0.index)]) (E := 9) rfl (fun w => by kernel_rfl) (fun a475 w477 b474 s476 h478 => ?_)
    have h478 : Holds _ _ ([(b474, .cells #[S (point d.p0.group d.p0.index)] 9 (0, 0))] :: [(b442, .cells #[.int .u8 d.p0.group, .int .u8 d.p0.index] 68 (0, 0))] :: [(b412, .cells #[S (point d.client.node d.client.life), S (Lib.itoa d.seq)] 9 (0, 0))] :: [(b388, .cells #[.int .u8 d.client.node, .int .u16 d.client.life, .int .u32 d.seq, .int .u8 d.depth, .int .u8 d.p0.group, .int .u8 d.p0.index, .int .u8 d.p1.group, .int .u8 d.p1.index, .int .u8 d.p2.group, .int .u8 d.p2.index] 71 (0, 0))] :: F) := h478
    have h479 : Holds _ _ ([(b412, .cells #[S (point d.client.node d.client.life), S (Lib.itoa d.seq)] 9 (0, 0))] :: [(b474, .cells #[S (point d.p0.group d.p0.index)] 9 (0, 0))] :: [(b442, .cells #[.int .u8 d.p0.group, .int .u8 d.p0.index] 68 (0, 0))] :: [(b388, .cells #[.int .u8 d.client.node, .int .u16 d.client.life, .int .u32 d.seq, .int .u8 d.depth, .int .u8 d.p0.group, .int .u8 d.p0.index, .int .u8 d.p1.group, .int .u8 d.p1.index, .int .u8 d.p2.group, .int .u8 d.p2.index] 71 (0, 0))] :: F) := h478.front 2 rfl
    refine q_append s476 rfl (Row.lit (E := 9) (size := 1) (n := 2) (b := b412) (xs := [S (point d.client.node d.client.life), S (Lib.itoa d.seq)]) rfl (by decide)) h479 rfl rfl und102 elem9 (news := [S (point d.p0.group d.p0.index)]) rfl (h479.rowI 1 0 (o := 0) rfl rfl rfl) rfl (by omega) (by omega) (fun a480 w482 ao484 cap485 c486 s481 r487 h483 => ?_)
    have h488 : Holds _ _ ([(b474, .cells #[S (point d.p0.group d.p0.index)] 9 (0, 0))] :: c486 :: [(b442, .cells #[.int .u8 d.p0.group, .int .u8 d.p0.index] 68 (0, 0))] :: [(b388, .cells #[.int .u8 d.client.node, .int .u16 d.client.life, .int .u32 d.seq, .int .u8 d.depth, .int .u8 d.p0.group, .int .u8 d.p0.index, .int .u8 d.p1.group, .int .u8 d.p1.index, .int .u8 d.p2.group, .int .u8 d.p2.index] 71 (0, 0))] :: F) := h483.front 1 rfl
    have h489 : Holds _ _ (c486 :: [(b442, .cells #[.int .u8 d.p0.group, .int .u8 d.p0.index] 68 (0, 0))] :: [(b388, .cells #[.int .u8 d.client.node, .int .u16 d.client.life, .int .u32 d.seq, .int .u8 d.depth, .int .u8 d.p0.group, .int .u8 d.p0.index, .int .u8 d.p1.group, .int .u8 d.p1.index, .int .u8 d.p2.group, .int .u8 d.p2.index] 71 (0, 0))] :: F) := h488.drop
    refine q_of s481 rfl (fun _ k => o_assign (s481.ev rfl) k) (fun a490 s491 => ?_)
    refine wpList_nil ?_
    refine x_blk_n ?_
    refine x_then_n ?_
    refine wp_region_lit ?_
    refine q_of s491 rfl (fun _ k => o_add (s491.ev rfl) (s491.ev rfl) (z := 1) rfl k) (fun a492 s493 => ?_)
    refine q_of s493 rfl (fun _ k => o_move (s493.ev rfl) k) (fun a494 s495 => ?_)
    refine wpList_nil ?_
    refine x_then_n ?_
    refine rounds_step (n := 2) ?_
    refine wp_seq ?_
    refine wp_region_lit ?_
    refine q_of s495 rfl (fun _ k => o_lss (s495.ev rfl) (s495.ev rfl) k) (fun a496 s497 => ?_)
    refine wpList_nil ?_
    refine x_then_n ?_
    refine wp_seq ?_
    refine q_ift s497 rfl rfl ?_
    refine wp_skip ?_
    refine x_then_n ?_
    refine wp_seq ?_
    refine wp_block ?_
    refine wp_seq ?_
    refine wp_region_lit ?_
    refine q_of s497 rfl (fun _ k => o_idxSm (s497.ev rfl) (s497.ev rfl) und147 sz68 (i := 1) rfl (by decide) rfl rfl (m := 6) rfl k) (fun a499 s500 => ?_)
    refine q_of s500 rfl (fun _ k => o_loadAgg (s500.ev rfl) ag68 sz68 (cs := [.int .u8 d.p1.group, .int .u8 d.p1.index]) rfl (h489.rowI 2 0 (cs := [.int .u8 d.p1.group, .int .u8 d.p1.index]) (o := 6) rfl rfl rfl) k) (fun a501 s502 => ?_)
    refine q_alloc s502 rfl h489 zero68 (fun a504 w506 b503 s505 h507 => ?_)
    refine q_store s505 rfl rfl sz68 rfl h507 (j := 0) rfl rfl rfl (cl := [.int .u8 d.p1.group, .int .u8 d.p1.index]) (by kernel_rfl) (fun a508 w510 s509 h511 => ?_)
    have h511 : Holds _ _ ([(b503, .cells #[.int .u8 d.p1.group, .int .u8 d.p1.index] 68 (0, 0))] :: c486 :: [(b442, .cells #[.int .u8 d.p0.group, .int .u8 d.p0.index] 68 (0, 0))] :: [(b388, .cells #[.int .u8 d.client.node, .int .u16 d.client.life, .int .u32 d.seq, .int .u8 d.depth, .int .u8 d.p0.group, .int .u8 d.p0.index, .int .u8 d.p1.group, .int .u8 d.p1.index, .int .u8 d.p2.group, .int .u8 d.p2.index] 71 (0, 0))] :: F) := h511
    refine wpList_nil ?_
    refine x_then_n ?_
    refine wp_region_lit ?_
    refine q_of s509 rfl (fun _ k => o_move (s509.ev rfl) k) (fun a512 s513 => ?_)
    refine q_of s513 rfl (fun _ k => o_fieldAddr (s513.ev rfl) off68_0 k) (fun a514 s515 => ?_)
    refine q_of s515 rfl (fun _ k => o_loadOne (s515.ev rfl) ag5 ((h511.rowI 0 0 (cs := [.int .u8 d.p1.group]) (o := 0) rfl rfl rfl) 0 _ rfl) k) (fun a516 s517 => ?_)
    refine q_of s517 rfl (fun _ k => o_conv (s517.ev rfl) und5 und3 (wrap_i64 (by omega) (by omega)) k) (fun a518 s519 => ?_)
    refine q_of s519 rfl (fun _ k => o_fieldAddr (s519.ev rfl) off68_1 k) (fun a520 s521 => ?_)
    refine q_of s521 rfl (fun _ k => o_loadOne (s521.ev rfl) ag5 ((h511.rowI 0 0 (cs := [.int .u8 d.p1.index]) (o := 1) rfl rfl rfl) 0 _ rfl) k) (fun a522 s523 => ?_)
    refine q_of s523 rfl (fun _ k => o_conv (s523.ev rfl) und5 und3 (wrap_i64 (by omega) (by omega)) k) (fun a524 s525 => ?_)
    refine q_call s525 rfl ok37 rfl (point_spec d.p1.group d.p1.index (by omega) (by omega) ht h511) (fun a526 w528 v533 G530 hs534 h529 hv532 s527 => ?_)
    subst hv532
    have ht := ht.mono hs534
    have hG531 := hG470.trans hs534
    have hL_960299 := point_len d.p1.group d.p1.index (by omega) (by omega)
    refine q_buildSlice s527 rfl h529 (vs := [(0, S (point d.p1.group d.p1.index))]) (cl := [S (point d.p1.group d.p1.index)]) (E := 9) rfl (fun w => by kernel_rfl) (fun a536 w538 b535 s537 h539 => ?_)
    have h539 : Holds _ _ ([(b535, .cells #[S (point d.p1.group d.p1.index)] 9 (0, 0))] :: [(b503, .cells #[.int .u8 d.p1.group, .int .u8 d.p1.index] 68 (0, 0))] :: c486 :: [(b442, .cells #[.int .u8 d.p0.group, .int .u8 d.p0.index] 68 (0, 0))] :: [(b388, .cells #[.int .u8 d.client.node, .int .u16 d.client.life, .int .u32 d.seq, .int .u8 d.depth, .int .u8 d.p0.group, .int .u8 d.p0.index, .int .u8 d.p1.group, .int .u8 d.p1.index, .int .u8 d.p2.group, .int .u8 d.p2.index] 71 (0, 0))] :: F) := h539
    have h540 : Holds _ _ (c486 :: [(b535, .cells #[S (point d.p1.group d.p1.index)] 9 (0, 0))] :: [(b503, .cells #[.int .u8 d.p1.group, .int .u8 d.p1.index] 68 (0, 0))] :: [(b442, .cells #[.int .u8 d.p0.group, .int .u8 d.p0.index] 68 (0, 0))] :: [(b388, .cells #[.int .u8 d.client.node, .int .u16 d.client.life, .int .u32 d.seq, .int .u8 d.depth, .int .u8 d.p0.group, .int .u8 d.p0.index, .int .u8 d.p1.group, .int .u8 d.p1.index, .int .u8 d.p2.group, .int .u8 d.p2.index] 71 (0, 0))] :: F) := h539.front 2 rfl
    refine q_append s537 rfl r487 h540 rfl rfl und102 elem9 (news := [S (point d.p1.group d.p1.index)]) rfl (h540.rowI 1 0 (o := 0) rfl rfl rfl) rfl (by omega) (by omega) (fun a541 w543 ao545 cap546 c547 s542 r548 h544 => ?_)
    have h549 : Holds _ _ ([(b535, .cells #[S (point d.p1.group d.p1.index)] 9 (0, 0))] :: c547 :: [(b503, .cells #[.int .u8 d.p1.group, .int .u8 d.p1.index] 68 (0, 0))] :: [(b442, .cells #[.int .u8 d.p0.group, .int .u8 d.p0.index] 68 (0, 0))] :: [(b388, .cells #[.int .u8 d.client.node, .int .u16 d.client.life, .int .u32 d.seq, .int .u8 d.depth, .int .u8 d.p0.group, .int .u8 d.p0.index, .int .u8 d.p1.group, .int .u8 d.p1.index, .int .u8 d.p2.group, .int .u8 d.p2.index] 71 (0, 0))] :: F) := h544.front 1 rfl
    have h550 : Holds _ _ (c547 :: [(b503, .cells #[.int .u8 d.p1.group, .int .u8 d.p1.index] 68 (0, 0))] :: [(b442, .cells #[.int .u8 d.p0.group, .int .u8 d.p0.index] 68 (0, 0))] :: [(b388, .cells #[.int .u8 d.client.node, .int .u16 d.client.life, .int .u32 d.seq, .int .u8 d.depth, .int .u8 d.p0.group, .int .u8 d.p0.index, .int .u8 d.p1.group, .int .u8 d.p1.index, .int .u8 d.p2.group, .int .u8 d.p2.index] 71 (0, 0))] :: F) := h549.drop
    refine q_of s542 rfl (fun _ k => o_assign (s542.ev rfl) k) (fun a551 s552 => ?_)
    refine wpList_nil ?_
    refine x_blk_n ?_
    refine x_then_n ?_
    refine wp_region_lit ?_
    refine q_of s552 rfl (fun _ k => o_add (s552.ev rfl) (s552.ev rfl) (z := 2) rfl k) (fun a553 s554 => ?_)
    refine q_of s554 rfl (fun _ k => o_move (s554.ev rfl) k) (fun a555 s556 => ?_)
    refine wpList_nil ?_
    refine x_then_n ?_
    refine rounds_step (n := 1) ?_
    refine wp_seq ?_
    refine wp_region_lit ?_
    refine q_of s556 rfl (fun _ k => o_lss (s556.ev rfl) (s556.ev rfl) k) (fun a557 s558 => ?_)
    refine wpList_nil ?_
    refine x_then_n ?_
    refine wp_seq ?_
    refine q_ift s558 rfl rfl ?_
    refine wp_skip ?_
    refine x_then_n ?_
    refine wp_seq ?_
    refine wp_block ?_
    refine wp_seq ?_
    refine wp_region_lit ?_
    refine q_of s558 rfl (fun _ k => o_idxSm (s558.ev rfl) (s558.ev rfl) und147 sz68 (i := 2) rfl (by decide) rfl rfl (m := 8) rfl k) (fun a560 s561 => ?_)
    refine q_of s561 rfl (fun _ k => o_loadAgg (s561.ev rfl) ag68 sz68 (cs := [.int .u8 d.p2.group, .int .u8 d.p2.index]) rfl (h550.rowI 3 0 (cs := [.int .u8 d.p2.group, .int .u8 d.p2.index]) (o := 8) rfl rfl rfl) k) (fun a562 s563 => ?_)
    refine q_alloc s563 rfl h550 zero68 (fun a565 w567 b564 s566 h568 => ?_)
    refine q_store s566 rfl rfl sz68 rfl h568 (j := 0) rfl rfl rfl (cl := [.int .u8 d.p2.group, .int .u8 d.p2.index]) (by kernel_rfl) (fun a569 w571 s570 h572 => ?_)
    have h572 : Holds _ _ ([(b564, .cells #[.int .u8 d.p2.group, .int .u8 d.p2.index] 68 (0, 0))] :: c547 :: [(b503, .cells #[.int .u8 d.p1.group, .int .u8 d.p1.index] 68 (0, 0))] :: [(b442, .cells #[.int .u8 d.p0.group, .int .u8 d.p0.index] 68 (0, 0))] :: [(b388, .cells #[.int .u8 d.client.node, .int .u16 d.client.life, .int .u32 d.seq, .int .u8 d.depth, .int .u8 d.p0.group, .int .u8 d.p0.index, .int .u8 d.p1.group, .int .u8 d.p1.index, .int .u8 d.p2.group, .int .u8 d.p2.index] 71 (0, 0))] :: F) := h572
    refine wpList_nil ?_
    refine x_then_n ?_
    refine wp_region_lit ?_
    refine q_of s570 rfl (fun _ k => o_move (s570.ev rfl) k) (fun a573 s574 => ?_)
    refine q_of s574 rfl (fun _ k => o_fieldAddr (s574.ev rfl) off68_0 k) (fun a575 s576 => ?_)
    refine q_of s576 rfl (fun _ k => o_loadOne (s576.ev rfl) ag5 ((h572.rowI 0 0 (cs := [.int .u8 d.p2.group]) (o := 0) rfl rfl rfl) 0 _ rfl) k) (fun a577 s578 => ?_)
    refine q_of s578 rfl (fun _ k => o_conv (s578.ev rfl) und5 und3 (wrap_i64 (by omega) (by omega)) k) (fun a579 s580 => ?_)
    refine q_of s580 rfl (fun _ k => o_fieldAddr (s580.ev rfl) off68_1 k) (fun a581 s582 => ?_)
    refine q_of s582 rfl (fun _ k => o_loadOne (s582.ev rfl) ag5 ((h572.rowI 0 0 (cs := [.int .u8 d.p2.index]) (o := 1) rfl rfl rfl) 0 _ rfl) k) (fun a583 s584 => ?_)
    refine q_of s584 rfl (fun _ k => o_conv (s584.ev rfl) und5 und3 (wrap_i64 (by omega) (by omega)) k) (fun a585 s586 => ?_)
    refine q_call s586 rfl ok37 rfl (point_spec d.p2.group d.p2.index (by omega) (by omega) ht h572) (fun a587 w589 v594 G591 hs595 h590 hv593 s588 => ?_)
    subst hv593
    have ht := ht.mono hs595
    have hG592 := hG531.trans hs595
    have hL_726770 := point_len d.p2.group d.p2.index (by omega) (by omega)
    refine q_buildSlice s588 rfl h590 (vs := [(0, S (point d.p2.group d.p2.index))]) (cl := [S (point d.p2.group d.p2.index)]) (E := 9) rfl (fun w => by kernel_rfl) (fun a597 w599 b596 s598 h600 => ?_)
    have h600 : Holds _ _ ([(b596, .cells #[S (point d.p2.group d.p2.index)] 9 (0, 0))] :: [(b564, .cells #[.int .u8 d.p2.group, .int .u8 d.p2.index] 68 (0, 0))] :: c547 :: [(b503, .cells #[.int .u8 d.p1.group, .int .u8 d.p1.index] 68 (0, 0))] :: [(b442, .cells #[.int .u8 d.p0.group, .int .u8 d.p0.index] 68 (0, 0))] :: [(b388, .cells #[.int .u8 d.client.node, .int .u16 d.client.life, .int .u32 d.seq, .int .u8 d.depth, .int .u8 d.p0.group, .int .u8 d.p0.index, .int .u8 d.p1.group, .int .u8 d.p1.index, .int .u8 d.p2.group, .int .u8 d.p2.index] 71 (0, 0))] :: F) := h600
    have h601 : Holds _ _ (c547 :: [(b596, .cells #[S (point d.p2.group d.p2.index)] 9 (0, 0))] :: [(b564, .cells #[.int .u8 d.p2.group, .int .u8 d.p2.index] 68 (0, 0))] :: [(b503, .cells #[.int .u8 d.p1.group, .int .u8 d.p1.index] 68 (0, 0))] :: [(b442, .cells #[.int .u8 d.p0.group, .int .u8 d.p0.index] 68 (0, 0))] :: [(b388, .cells #[.int .u8 d.client.node, .int .u16 d.client.life, .int .u32 d.seq, .int .u8 d.depth, .int .u8 d.p0.group, .int .u8 d.p0.index, .int .u8 d.p1.group, .int .u8 d.p1.index, .int .u8 d.p2.group, .int .u8 d.p2.index] 71 (0, 0))] :: F) := h600.front 2 rfl
    refine q_append s598 rfl r548 h601 rfl rfl und102 elem9 (news := [S (point d.p2.group d.p2.index)]) rfl (h601.rowI 1 0 (o := 0) rfl rfl rfl) rfl (by omega) (by omega) (fun a602 w604 ao606 cap607 c608 s603 r609 h605 => ?_)
    have h610 : Holds _ _ ([(b596, .cells #[S (point d.p2.group d.p2.index)] 9 (0, 0))] :: c608 :: [(b564, .cells #[.int .u8 d.p2.group, .int .u8 d.p2.index] 68 (0, 0))] :: [(b503, .cells #[.int .u8 d.p1.group, .int .u8 d.p1.index] 68 (0, 0))] :: [(b442, .cells #[.int .u8 d.p0.group, .int .u8 d.p0.index] 68 (0, 0))] :: [(b388, .cells #[.int .u8 d.client.node, .int .u16 d.client.life, .int .u32 d.seq, .int .u8 d.depth, .int .u8 d.p0.group, .int .u8 d.p0.index, .int .u8 d.p1.group, .int .u8 d.p1.index, .int .u8 d.p2.group, .int .u8 d.p2.index] 71 (0, 0))] :: F) := h605.front 1 rfl
    have h611 : Holds _ _ (c608 :: [(b564, .cells #[.int .u8 d.p2.group, .int .u8 d.p2.index] 68 (0, 0))] :: [(b503, .cells #[.int .u8 d.p1.group, .int .u8 d.p1.index] 68 (0, 0))] :: [(b442, .cells #[.int .u8 d.p0.group, .int .u8 d.p0.index] 68 (0, 0))] :: [(b388, .cells #[.int .u8 d.client.node, .int .u16 d.client.life, .int .u32 d.seq, .int .u8 d.depth, .int .u8 d.p0.group, .int .u8 d.p0.index, .int .u8 d.p1.group, .int .u8 d.p1.index, .int .u8 d.p2.group, .int .u8 d.p2.index] 71 (0, 0))] :: F) := h610.drop
    refine q_of s603 rfl (fun _ k => o_assign (s603.ev rfl) k) (fun a612 s613 => ?_)
    refine wpList_nil ?_
    refine x_blk_n ?_
    refine x_then_n ?_
    refine wp_region_lit ?_
    refine q_of s613 rfl (fun _ k => o_add (s613.ev rfl) (s613.ev rfl) (z := 3) rfl k) (fun a614 s615 => ?_)
    refine q_of s615 rfl (fun _ k => o_move (s615.ev rfl) k) (fun a616 s617 => ?_)
    refine wpList_nil ?_
    refine x_then_n ?_
    refine rounds_step (n := 0) ?_
    refine wp_seq ?_
    refine wp_region_lit ?_
    refine q_of s617 rfl (fun _ k => o_lss (s617.ev rfl) (s617.ev rfl) k) (fun a618 s619 => ?_)
    refine wpList_nil ?_
    refine x_then_n ?_
    refine wp_seq ?_
    refine q_iff s619 rfl rfl ?_
    refine wp_exit ?_
    refine x_then_x ?_
    refine x_then_x ?_
    refine x_blk_x ?_
    refine x_then_n ?_
    refine wp_seq ?_
    refine wp_region_lit ?_
    refine q_of s619 rfl (fun _ k => o_move (s619.ev rfl) k) (fun a621 s622 => ?_)
    obtain ⟨G623, hs624, h625, hr626⟩ := Row.toG (enc := encS) (l := [point d.client.node d.client.life, Lib.itoa d.seq, point d.p0.group d.p0.index, point d.p1.group d.p1.index, point d.p2.group d.p2.index]) (fun _ => rfl) r609 (by first | rfl | (simp only [List.length_take] ; omega)) h611
    have ht := ht.mono hs624
    have hG627 := hG592.trans hs624
    refine q_call s622 rfl ok45 rfl (join_spec ao606 cap607 [point d.client.node d.client.life, Lib.itoa d.seq, point d.p0.group d.p0.index, point d.p1.group d.p1.index, point d.p2.group d.p2.index] [47] hr626 (by first | exact hl | (refine Nat.le_trans (join_len _ _) ?_ ; simp only [List.map_append, List.map_cons, List.map_nil, List.sum_append, List.sum_cons, List.sum_nil, List.length_append, List.length_cons, List.length_nil] ; omega)) (by first | exact hn | (simp only [List.length_append, List.length_cons, List.length_nil] ; omega)) h625) (fun a628 w630 v635 G632 hs636 h631 hv634 s629 => ?_)
    subst hv634
    have ht := ht.mono hs636
    have hr626 := hr626.mono hs636
    have hG633 := hG627.trans hs636
    refine q_of s629 rfl (fun _ k => o_assign (s629.ev rfl) k) (fun a637 s638 => ?_)
    refine wpList_nil ?_
    refine x_then_n ?_
    refine wp_ret ?_
    refine fin1 s638 rfl rfl ⟨_, _, rfl, hG633, h631.drop.drop.drop.drop, ?_⟩
    first | (unfold idText; rw [path0 d (by omega)]; rfl) | (unfold idText; rw [path1 d (by omega) (by omega)]; rfl) | (unfold idText; rw [path2 d (by omega) (by omega)]; rfl) | (unfold idText; rw [path3 d (by omega)]; rfl)
end Go.Proofs.YtecafdjefholfaaGreatDoor
namespace Go.Sy
open Go Go.RowKit
open Go.Eng hiding allB
noncomputable def spId : SpecE := fun us _ _ K => match us with
  | [.agg [a, b, c, d, e, f, g, h, i, j]] => zA 1 a fun a => zA 2 b fun b => zA 3 c fun c => zA 1 d fun d => zA 1 e fun e => zA 1 f fun f => zA 1 g fun g => zA 1 h fun h => zA 1 i fun i => zA 1 j fun j =>
    must (prB (ID.ok ⟨⟨a, b⟩, c, d, ⟨e, f⟩, ⟨g, h⟩, ⟨i, j⟩⟩)) (K (.sy (.str (idText ⟨⟨a, b⟩, c, d, ⟨e, f⟩, ⟨g, h⟩, ⟨i, j⟩⟩))) .leaf 0)
  | _ => false
theorem natE_id {P : Program} {f : Nat} (hI : ∀ (d : ID) (G : GS) (w : World) (F : List Chunk), d.ok → Tied G.M → Holds G w F → Calls P f #[.agg #[.int .u8 d.client.node, .int .u16 d.client.life, .int .u32 d.seq, .int .u8 d.depth, .int .u8 d.p0.group, .int .u8 d.p0.index, .int .u8 d.p1.group, .int .u8 d.p1.index, .int .u8 d.p2.group, .int .u8 d.p2.index]] w (Ret G F fun _ v => v = S (idText d))) : NatE P f 0 spId := by
  intro us xs E ρ G F M nx w K R hE hs hd hk hr
  unfold spId at hk
  split at hk
  case h_2 => cases hk
  rename_i a b c d e f' g h i j
  obtain ⟨x, ys, h1, h2, rfl⟩ := denL_cons hd
  obtain rfl : ys = [] := by simpa [denL] using h2.symm
  obtain ⟨za, ha, hk⟩ := zA_ok (E := E) (ρ := ρ) hk
  obtain ⟨zb, hb, hk⟩ := zA_ok (E := E) (ρ := ρ) hk
  obtain ⟨zc, hc, hk⟩ := zA_ok (E := E) (ρ := ρ) hk
  obtain ⟨zd, hd', hk⟩ := zA_ok (E := E) (ρ := ρ) hk
  obtain ⟨ze, he, hk⟩ := zA_ok (E := E) (ρ := ρ) hk
  obtain ⟨zf, hf, hk⟩ := zA_ok (E := E) (ρ := ρ) hk
  obtain ⟨zg, hg, hk⟩ := zA_ok (E := E) (ρ := ρ) hk
  obtain ⟨zh, hh', hk⟩ := zA_ok (E := E) (ρ := ρ) hk
  obtain ⟨zi, hi, hk⟩ := zA_ok (E := E) (ρ := ρ) hk
  obtain ⟨zj, hj, hk⟩ := zA_ok (E := E) (ρ := ρ) hk
  obtain ⟨hok, hk⟩ := mustP_ok hk
  unfold den at h1
  rcases q : denL E ρ [a, b, c, d, e, f', g, h, i, j] with _ | cs
  · rw [q] at h1; cases h1
  rw [q] at h1
  obtain rfl := Option.some.inj h1
  obtain ⟨x0, y0, p0, q0, rfl⟩ := denL_cons q
  obtain ⟨x1, y1, p1, q1, rfl⟩ := denL_cons q0
  obtain ⟨x2, y2, p2, q2, rfl⟩ := denL_cons q1
  obtain ⟨x3, y3, p3, q3, rfl⟩ := denL_cons q2
  obtain ⟨x4, y4, p4, q4, rfl⟩ := denL_cons q3
  obtain ⟨x5, y5, p5, q5, rfl⟩ := denL_cons q4
  obtain ⟨x6, y6, p6, q6, rfl⟩ := denL_cons q5
  obtain ⟨x7, y7, p7, q7, rfl⟩ := denL_cons q6
  obtain ⟨x8, y8, p8, q8, rfl⟩ := denL_cons q7
  obtain ⟨x9, y9, p9, q9, rfl⟩ := denL_cons q8
  obtain rfl : y9 = [] := by simpa [denL] using q9.symm
  obtain rfl := ha x0 p0
  obtain rfl := hb x1 p1
  obtain rfl := hc x2 p2
  obtain rfl := hd' x3 p3
  obtain rfl := he x4 p4
  obtain rfl := hf x5 p5
  obtain rfl := hg x6 p6
  obtain rfl := hh' x7 p7
  obtain rfl := hi x8 p8
  obtain rfl := hj x9 p9
  obtain ⟨c, hh, _, _⟩ := hs.ex
  exact doneR hE hs (hI _ { G with M := E.M } w F hok hE.2 hh.drop) hk hr
end Go.Sy
namespace Go.Proofs.YtecafdjefholfaaGreatDoor
open Go Go.RowKit Go.Eng Go.Sy
theorem tabG {G : GS} (t : Tied G.M) : GTab G := Tied.gvar tabAt t
theorem na_name : NatE Tryz.prog 19 0 spId := natE_id fun d G w F hd t h => name_spec d hd (tabG t) h
end Go.Proofs.YtecafdjefholfaaGreatDoor
namespace Go.Proofs.Tryz
open Go Go.RowKit Go.Eng Go.Sy
set_option maxRecDepth 100000
def p_ (i d : Nat) (x : XO) : XSt := .p i (some d) none x
def pg_ (i d t : Nat) (b : Bool) (x : XO) : XSt := .p i (some d) (some (t, b)) x
def r_ (i d : Nat) (x : XO) : XSt := .r i (some d) none x
def rg_ (i d t : Nat) (b : Bool) (x : XO) : XSt := .r i (some d) (some (t, b)) x
def e_ (i d : Nat) (x : XO) : XSt := .e i (some d) none x
def e0_ (i : Nat) (x : XO) : XSt := .e i none none x
def c_ (i d f : Nat) (xs : List XP) : XSt := .c i (some d) none f xs
def cg_ (i d t : Nat) (b : Bool) (f : Nat) (xs : List XP) : XSt := .c i (some d) (some (t, b)) f xs
def a_ (i d : Nat) (x : XO) : XSt := .a i d none x
def ag_ (i d t : Nat) (b : Bool) (x : XO) : XSt := .a i d (some (t, b)) x
def m_ (n : Nat) : XO := .mv (.t n)
def n_ (n : Nat) : XO := .nck (.t n)
def f_ (k n : Nat) : XO := .fa k (.t n)
def l_ (n : Nat) : XO := .ld false 1 (.t n)
def k_ (n : Nat) : XO := .len 1 (.t n)
def i_ (n : Nat) : XP := .c (.int 0 (.ofNat n))
def o_ (n : Nat) : AV := .int 0 (.ofNat n)
def g_ (n : Nat) (l : List XSt) : XC := .reg false n (.leaf l)
def h_ (n : Nat) (l : List XSt) : XC := .reg true n (.leaf l)
def tn_Good (f : Nat) (x : XF) : Prop := chkF Tryz.prog f x = true ∧ plain (bodyOf x) = true
def tn4 : XF := .mk 40 (.one 2) (.seq (g_ 1 [p_ 0 2 (.mv (.c (.str [])))]) (.seq (g_ 1 [e_ 0 3 (.al 80 [.nilP, .nilS])]) (.seq (.seq (g_ 1 [p_ 0 8 (.mv (.c (.int 1 (.ofNat 0))))]) (.block 2 (.loop [0, 2, 3, 4, 5, 6, 7, 8, 9, 10, 11, 12, 13, 14, 15, 16, 17, 18, 19, 20, 22, 23, 24, 25, 26, 27, 28, 29, 30, 31, 32, 33, 34, 36, 37, 38, 39] (.seq (g_ 1 [p_ 0 9 (.bin 3 0 (.t 8) (.c (.int 1 (.ofNat 4))))]) (.seq (.cond (.t 9) .skip (.exit 2)) (.seq (.block 3 (.seq (g_ 2 [p_ 0 10 (m_ 8), p_ 1 4 (m_ 10)]) (.seq (g_ 4 [p_ 0 11 (m_ 0), p_ 1 12 (m_ 4), c_ 2 13 12 [(.t 11), (.t 12)], p_ 3 5 (m_ 13)]) (.seq (.seq (g_ 3 [p_ 0 14 (m_ 5), p_ 1 15 (k_ 14), p_ 2 16 (.bin 3 2 (.t 15) (i_ 0))]) (.cond (.t 16) (g_ 5 [p_ 0 17 (m_ 4), p_ 1 18 (.cnv 0 (.t 17)), c_ 2 19 14 [.t 18], e_ 3 20 (.bsl 9 1 2 [(.str []), (.str [])] [(0, 1), (1, 1)] [(.c (.str [111, 114, 100, 101, 114])), (.t 19)]), c_ 4 21 13 [(.t 3), (.t 20)]]) .skip)) (.seq (g_ 3 [p_ 0 22 (m_ 5), p_ 1 23 (k_ 22), p_ 2 24 (.mv (i_ 0))]) (.block 4 (.loop [0, 2, 3, 4, 5, 6, 7, 8, 9, 10, 11, 12, 13, 14, 15, 16, 17, 18, 19, 20, 22, 23, 24, 25, 26, 27, 28, 29, 30, 31, 32, 33, 34, 36, 37, 38, 39] (.seq (g_ 1 [p_ 0 25 (.bin 3 0 (.t 24) (.t 23))]) (.seq (.cond (.t 25) .skip (.exit 4)) (.seq (.block 5 (.seq (g_ 6 [p_ 0 26 (m_ 24), p_ 1 27 (.ixs 18 (.t 22) (.t 24)), r_ 2 28 (.ld true 18 (.t 27)), e_ 3 7 (.al 89 [(.int 1 (.ofNat 0)), (.int 1 (.ofNat 0)), (.int 2 (.ofNat 0)), (.int 3 (.ofNat 0)), (.int 1 (.ofNat 0)), (.int 1 (.ofNat 0)), (.int 1 (.ofNat 0)), (.int 1 (.ofNat 0)), (.int 1 (.ofNat 0)), (.int 1 (.ofNat 0)), (.int 1 (.ofNat 0)), (.int 3 (.ofNat 0)), .nilS, (.int 1 (.ofNat 0)), (.str []), .nilS, (.int 1 (.ofNat 0)), (.int 2 (.ofNat 0))]), p_ 4 6 (m_ 26), e0_ 5 (.st 18 (.t 7) (.t 28))]) (h_ 7 [p_ 0 29 (m_ 6), r_ 3 32 (.ld true 18 (.t 7)), c_ 1 30 14 [.t 29], a_ 3 32 (.ld true 18 (.t 7)), p_ 2 31 (.bin 4 0 (.t 30) (.c (.str [58]))), c_ 4 33 15 [.t 32], e_ 5 34 (.bsl 9 1 2 [(.str []), (.str [])] [(0, 1), (1, 1)] [(.t 31), (.t 33)]), c_ 6 35 13 [(.t 3), (.t 34)]]))) (g_ 2 [p_ 0 36 (.bin 0 0 (.t 24) (i_ 1)), p_ 1 24 (m_ 36)]))))))))))) (g_ 2 [p_ 0 37 (.bin 0 0 (.t 8) (.c (.int 1 (.ofNat 1)))), p_ 1 8 (m_ 37)]))))))) (.seq (g_ 3 [p_ 0 38 (f_ 0 3), c_ 1 39 16 [.t 38], p_ 2 2 (m_ 39)]) .ret))))
theorem tn4_g : tn_Good 4 tn4 := ⟨by kernel_rfl, by kernel_rfl⟩
def tn5 : XF := .mk 78 (.one 2) (.seq (g_ 1 [p_ 0 2 (.mv (.c (.str [])))]) (.seq (g_ 2 [e_ 0 12 .mkm, p_ 1 3 (m_ 12)]) (.seq (.seq (g_ 4 [p_ 0 13 (m_ 0), c_ 1 14 17 [.t 13], p_ 2 15 (k_ 14), p_ 3 16 (.mv (i_ 0))]) (.block 2 (.loop [0, 2, 3, 5, 6, 8, 9, 10, 11, 14, 15, 16, 17, 18, 19, 20, 21, 22, 23, 24, 25, 26, 27, 28, 29, 30, 31, 32, 33, 34, 35, 36, 37, 38, 39, 40, 41, 42, 43, 44, 45, 46, 47, 48, 49, 50, 51, 52, 53, 54, 55, 56, 57, 58, 59, 60, 61, 62, 63, 64, 65, 66, 67, 68, 69, 70, 71, 72, 73, 75, 76, 77] (.seq (g_ 1 [p_ 0 17 (.bin 3 0 (.t 16) (.t 15))]) (.seq (.cond (.t 17) .skip (.exit 2)) (.seq (.block 3 (.seq (g_ 4 [p_ 0 18 (.ixs 17 (.t 14) (.t 16)), r_ 1 19 (.ld true 17 (.t 18)), e_ 2 5 (.al 96 [(.int 1 (.ofNat 0)), (.int 2 (.ofNat 0)), (.int 3 (.ofNat 0)), (.int 1 (.ofNat 0)), (.int 1 (.ofNat 0)), (.int 1 (.ofNat 0)), (.int 1 (.ofNat 0)), (.int 1 (.ofNat 0)), (.int 1 (.ofNat 0)), (.int 1 (.ofNat 0)), (.int 1 (.ofNat 0)), (o_ 0), (o_ 0), (o_ 0), (o_ 0), (.int 1 (.ofNat 0)), (.str [])]), e0_ 3 (.st 17 (.t 5) (.t 19))]) (g_ 5 [p_ 0 20 (m_ 3), p_ 1 21 (f_ 0 5), r_ 2 22 (.ld true 10 (.t 21)), r_ 3 23 (.ld true 17 (.t 5)), e0_ 4 (.mu 4 (.st [(0, 2, true, (.st [(0, 1, false, .int), (1, 1, false, .int)])), (2, 1, false, .int), (3, 1, false, .int), (4, 6, true, (.ar [0, 2, 4] 2 true (.st [(0, 1, false, .int), (1, 1, false, .int)])))]) (.t 20) (.t 22) (.t 23))]))) (g_ 2 [p_ 0 24 (.bin 0 0 (.t 16) (i_ 1)), p_ 1 16 (m_ 24)]))))))) (.seq (g_ 1 [e_ 0 6 (.al 80 [.nilP, .nilS])]) (.seq (.seq (g_ 4 [p_ 0 25 (m_ 0), c_ 1 26 18 [.t 25], p_ 2 27 (k_ 26), p_ 3 28 (.mv (i_ 0))]) (.block 4 (.loop [2, 3, 6, 8, 9, 10, 11, 26, 27, 28, 29, 30, 31, 32, 33, 34, 35, 36, 37, 38, 39, 40, 41, 42, 43, 44, 45, 46, 47, 48, 49, 50, 51, 52, 53, 54, 55, 56, 57, 58, 59, 60, 61, 62, 63, 64, 65, 66, 67, 68, 69, 70, 71, 72, 73, 75, 76, 77] (.seq (g_ 1 [p_ 0 29 (.bin 3 0 (.t 28) (.t 27))]) (.seq (.cond (.t 29) .skip (.exit 4)) (.seq (.block 5 (.seq (g_ 4 [p_ 0 30 (.ixs 14 (.t 26) (.t 28)), r_ 1 31 (.ld true 14 (.t 30)), e_ 2 8 (.al 99 [(.int 1 (.ofNat 0)), (.int 2 (.ofNat 0)), (.int 3 (.ofNat 0)), (.int 1 (.ofNat 0)), (.int 1 (.ofNat 0)), (.int 1 (.ofNat 0)), (.int 1 (.ofNat 0)), (.int 1 (.ofNat 0)), (.int 1 (.ofNat 0)), (.int 1 (.ofNat 0)), (.int 1 (.ofNat 0)), (o_ 0), (o_ 0), .nilS]), e0_ 3 (.st 14 (.t 8) (.t 31))]) (.seq (.reg true 12 (.split 2 5 (.leaf [p_ 0 32 (f_ 0 8), r_ 1 33 (.ld true 10 (.t 32)), p_ 3 35 (f_ 11 8), r_ 4 36 (l_ 35), p_ 7 39 (f_ 12 8), r_ 8 40 (l_ 39), c_ 2 34 19 [.t 33], a_ 4 36 (l_ 35), a_ 8 40 (l_ 39), e_ 5 37 (.bsl 9 1 3 [(.str []), (.str []), (.str [])] [(0, 1), (1, 1), (2, 1)] [(.c (.str [102, 105, 114, 115, 116])), (.c (.str [109, 97, 106, 111, 114, 105, 116, 121])), (.c (.str [97, 108, 108]))]), a_ 4 36 (l_ 35), a_ 8 40 (l_ 39), c_ 6 38 20 [(.t 36), (.t 37)], a_ 8 40 (l_ 39), c_ 9 41 14 [.t 40], e_ 10 42 (.bsl 9 1 4 [(.str []), (.str []), (.str []), (.str [])] [(0, 1), (1, 1), (2, 1), (3, 1)] [(.c (.str [99, 97, 108, 108])), (.t 34), (.t 38), (.t 41)]), p_ 11 9 (m_ 42)]) (.leaf [p_ 0 32 (f_ 0 8), r_ 1 33 (.ld true 10 (.t 32)), p_ 3 35 (f_ 11 8), r_ 4 36 (l_ 35), p_ 7 39 (f_ 12 8), r_ 8 40 (l_ 39), e_ 5 37 (.bsl 9 1 3 [(.str []), (.str []), (.str [])] [(0, 1), (1, 1), (2, 1)] [(.c (.str [102, 105, 114, 115, 116])), (.c (.str [109, 97, 106, 111, 114, 105, 116, 121])), (.c (.str [97, 108, 108]))]), a_ 1 33 (.ld true 10 (.t 32)), a_ 4 36 (l_ 35), a_ 8 40 (l_ 39), c_ 2 34 19 [.t 33], a_ 4 36 (l_ 35), a_ 8 40 (l_ 39), c_ 6 38 20 [(.t 36), (.t 37)], a_ 8 40 (l_ 39), c_ 9 41 14 [.t 40], e_ 10 42 (.bsl 9 1 4 [(.str []), (.str []), (.str []), (.str [])] [(0, 1), (1, 1), (2, 1), (3, 1)] [(.c (.str [99, 97, 108, 108])), (.t 34), (.t 38), (.t 41)]), p_ 11 9 (m_ 42)]))) (.seq (g_ 10 [p_ 0 44 (m_ 3), p_ 1 45 (f_ 0 8), r_ 2 46 (.ld true 10 (.t 45)), r_ 3 47 (.lk 4 (.st [(0, 2, true, (.st [(0, 1, false, .int), (1, 1, false, .int)])), (2, 1, false, .int), (3, 1, false, .int), (4, 6, true, (.ar [0, 2, 4] 2 true (.st [(0, 1, false, .int), (1, 1, false, .int)])))]) (.agg [(.int 1 (.ofNat 0)), (.int 2 (.ofNat 0)), (.int 3 (.ofNat 0)), (.int 1 (.ofNat 0)), (.int 1 (.ofNat 0)), (.int 1 (.ofNat 0)), (.int 1 (.ofNat 0)), (.int 1 (.ofNat 0)), (.int 1 (.ofNat 0)), (.int 1 (.ofNat 0)), (.int 1 (.ofNat 0)), (o_ 0), (o_ 0), (o_ 0), (o_ 0), (.int 1 (.ofNat 0)), (.str [])]) true (.t 44) (.t 46)), p_ 4 43 (m_ 47), p_ 5 48 (.ext 0 (.t 43)), p_ 6 49 (.ext 1 (.t 43)), e_ 7 10 (.al 96 [(.int 1 (.ofNat 0)), (.int 2 (.ofNat 0)), (.int 3 (.ofNat 0)), (.int 1 (.ofNat 0)), (.int 1 (.ofNat 0)), (.int 1 (.ofNat 0)), (.int 1 (.ofNat 0)), (.int 1 (.ofNat 0)), (.int 1 (.ofNat 0)), (.int 1 (.ofNat 0)), (.int 1 (.ofNat 0)), (o_ 0), (o_ 0), (o_ 0), (o_ 0), (.int 1 (.ofNat 0)), (.str [])]), e0_ 8 (.st 17 (.t 10) (.t 48)), p_ 9 11 (m_ 49)]) (.seq (.block 6 (.seq (g_ 3 [p_ 0 68 (m_ 11), p_ 1 69 (.un 0 (.t 68)), p_ 2 67 (m_ 69)]) (.cond (.t 67) (g_ 4 [p_ 0 70 (m_ 9), e_ 1 71 (.bsl 9 1 1 [(.str [])] [(0, 1)] [(.c (.str [111, 112, 101, 110]))]), e_ 2 72 (.app 9 1 16 (.t 70) (.t 71)), p_ 3 9 (m_ 72)]) (.seq (h_ 10 [p_ 0 50 (m_ 9), p_ 1 51 (f_ 13 10), r_ 2 52 (l_ 51), p_ 4 54 (f_ 14 10), r_ 5 55 (l_ 54), c_ 3 53 14 [.t 52], a_ 5 55 (l_ 54), c_ 6 56 14 [.t 55], e_ 7 57 (.bsl 9 1 2 [(.str []), (.str [])] [(0, 1), (1, 1)] [(.t 53), (.t 56)]), e_ 8 58 (.app 9 1 16 (.t 50) (.t 57)), p_ 9 9 (m_ 58)]) (.seq (g_ 3 [p_ 0 59 (f_ 14 10), r_ 1 60 (l_ 59), p_ 2 61 (.bin 3 4 (.t 60) (i_ 0))]) (.cond (.t 61) (g_ 6 [p_ 0 62 (m_ 9), p_ 1 63 (f_ 15 10), r_ 2 64 (.ld true 2 (.t 63)), c_ 3 65 21 [.t 64], e_ 4 66 (.app 9 1 16 (.t 62) (.t 65)), p_ 5 9 (m_ 66)]) .skip)))))) (g_ 2 [p_ 0 73 (m_ 9), c_ 1 74 13 [(.t 6), (.t 73)]])))))) (g_ 2 [p_ 0 75 (.bin 0 0 (.t 28) (i_ 1)), p_ 1 28 (m_ 75)]))))))) (.seq (g_ 3 [p_ 0 76 (f_ 0 6), c_ 1 77 16 [.t 76], p_ 2 2 (m_ 77)]) .ret))))))
theorem tn5_g : tn_Good 5 tn5 := ⟨by kernel_rfl, by kernel_rfl⟩
def tn6 : XF := .mk 30 (.one 2) (.seq (g_ 1 [p_ 0 2 (.mv (.c (.str [])))]) (.seq (g_ 1 [e_ 0 3 (.al 80 [.nilP, .nilS])]) (.seq (.seq (g_ 3 [p_ 0 6 (m_ 0), p_ 1 7 (k_ 6), p_ 2 8 (.mv (i_ 0))]) (.block 2 (.loop [2, 3, 5, 6, 7, 8, 9, 10, 11, 12, 13, 14, 15, 16, 17, 18, 19, 20, 21, 22, 23, 24, 25, 27, 28, 29] (.seq (g_ 1 [p_ 0 9 (.bin 3 0 (.t 8) (.t 7))]) (.seq (.cond (.t 9) .skip (.exit 2)) (.seq (.block 3 (.seq (g_ 4 [p_ 0 10 (.ixs 13 (.t 6) (.t 8)), r_ 1 11 (.ld true 13 (.t 10)), e_ 2 5 (.al 107 [(o_ 0), (.int 1 (.ofNat 0)), (.int 2 (.ofNat 0)), (.int 3 (.ofNat 0)), (.int 1 (.ofNat 0)), (.int 1 (.ofNat 0)), (.int 1 (.ofNat 0)), (.int 1 (.ofNat 0)), (.int 1 (.ofNat 0)), (.int 1 (.ofNat 0)), (.int 1 (.ofNat 0)), (.int 1 (.ofNat 0)), (o_ 0)]), e0_ 3 (.st 13 (.t 5) (.t 11))]) (h_ 15 [p_ 0 12 (f_ 0 5), r_ 1 13 (l_ 12), p_ 3 15 (f_ 11 5), r_ 4 16 (l_ 15), p_ 5 17 (.cnv 0 (.t 16)), p_ 7 19 (f_ 12 5), r_ 8 20 (l_ 19), p_ 10 22 (f_ 1 5), r_ 11 23 (.ld true 10 (.t 22)), c_ 2 14 22 [.t 13], a_ 4 16 (l_ 15), a_ 8 20 (l_ 19), a_ 11 23 (.ld true 10 (.t 22)), c_ 6 18 14 [.t 17], a_ 8 20 (l_ 19), a_ 11 23 (.ld true 10 (.t 22)), c_ 9 21 14 [.t 20], a_ 11 23 (.ld true 10 (.t 22)), c_ 12 24 19 [.t 23], e_ 13 25 (.bsl 9 1 4 [(.str []), (.str []), (.str []), (.str [])] [(0, 1), (1, 1), (2, 1), (3, 1)] [(.t 14), (.t 18), (.t 21), (.t 24)]), c_ 14 26 13 [(.t 3), (.t 25)]]))) (g_ 2 [p_ 0 27 (.bin 0 0 (.t 8) (i_ 1)), p_ 1 8 (m_ 27)]))))))) (.seq (g_ 3 [p_ 0 28 (f_ 0 3), c_ 1 29 16 [.t 28], p_ 2 2 (m_ 29)]) .ret))))
theorem tn6_g : tn_Good 6 tn6 := ⟨by kernel_rfl, by kernel_rfl⟩
def tn7 : XF := .mk 72 (.one 2) (.seq (g_ 1 [p_ 0 2 (.mv (.c (.str [])))]) (.seq (g_ 1 [e_ 0 3 (.al 80 [.nilP, .nilS])]) (.seq (.seq (g_ 3 [p_ 0 9 (m_ 0), c_ 1 10 23 [.t 9], p_ 2 11 (.mv (i_ 0))]) (.block 2 (.loop [0, 2, 3, 4, 5, 6, 7, 8, 10, 11, 12, 13, 14, 15, 16, 17, 18, 19, 20, 21, 22, 23, 24, 25, 26, 27, 28, 29, 30, 31, 32, 33, 34, 35, 36, 37, 38, 39, 40, 41, 42, 43, 44, 45, 46, 47, 48, 49, 50, 51, 52, 53, 54, 55, 56, 57, 58, 59, 60, 61, 62, 63, 64, 65, 66, 67, 69, 70, 71] (.seq (g_ 1 [p_ 0 12 (.bin 3 0 (.t 11) (.t 10))]) (.seq (.cond (.t 12) .skip (.exit 2)) (.seq (.block 3 (.seq (g_ 2 [p_ 0 13 (m_ 11), p_ 1 4 (m_ 13)]) (.seq (g_ 4 [p_ 0 14 (m_ 0), p_ 1 15 (m_ 4), c_ 2 16 24 [(.t 14), (.t 15)], p_ 3 5 (m_ 16)]) (.seq (g_ 4 [p_ 0 17 (m_ 4), c_ 1 18 14 [.t 17], e_ 2 19 (.bsl 9 1 1 [(.str [])] [(0, 1)] [.t 18]), p_ 3 6 (m_ 19)]) (.seq (.seq (g_ 3 [p_ 0 20 (m_ 5), c_ 1 21 25 [.t 20], p_ 2 7 (m_ 21)]) (.block 4 (.seq (g_ 5 [p_ 0 41 (m_ 0), p_ 1 42 (m_ 4), c_ 2 43 26 [(.t 41), (.t 42)], p_ 3 44 (.un 0 (.t 43)), p_ 4 40 (m_ 44)]) (.cond (.t 40) (g_ 4 [p_ 0 45 (m_ 6), e_ 1 46 (.bsl 9 1 1 [(.str [])] [(0, 1)] [(.c (.str [100, 111, 119, 110]))]), e_ 2 47 (.app 9 1 16 (.t 45) (.t 46)), p_ 3 6 (m_ 47)]) (.seq (g_ 3 [p_ 0 49 (m_ 7), p_ 1 50 (.isn true 1 (.t 49)), p_ 2 48 (m_ 50)]) (.cond (.t 48) (g_ 17 [p_ 0 51 (m_ 6), p_ 1 52 (m_ 5), c_ 2 53 27 [.t 52], p_ 3 54 (.fld false 1 1 (.t 53)), p_ 4 55 (.cnv 0 (.t 54)), c_ 5 56 14 [.t 55], p_ 6 57 (m_ 7), c_ 7 58 28 [.t 57], p_ 8 59 (k_ 58), c_ 9 60 14 [.t 59], p_ 10 61 (m_ 7), c_ 11 62 29 [.t 61], p_ 12 63 (k_ 62), c_ 13 64 14 [.t 63], e_ 14 65 (.bsl 9 1 4 [(.str []), (.str []), (.str []), (.str [])] [(0, 1), (1, 1), (2, 1), (3, 1)] [(.c (.str [117, 112])), (.t 56), (.t 60), (.t 64)]), e_ 15 66 (.app 9 1 16 (.t 51) (.t 65)), p_ 16 6 (m_ 66)]) (.seq (g_ 3 [p_ 0 22 (m_ 5), c_ 1 23 30 [.t 22], p_ 2 8 (m_ 23)]) (g_ 17 [p_ 0 24 (m_ 6), p_ 1 25 (m_ 5), c_ 2 26 27 [.t 25], p_ 3 27 (.fld false 1 1 (.t 26)), p_ 4 28 (.cnv 0 (.t 27)), c_ 5 29 14 [.t 28], p_ 6 30 (m_ 8), c_ 7 31 32 [.t 30], c_ 8 32 31 [.t 31], p_ 9 33 (.bin 4 0 (.c (.str [91])) (.t 32)), p_ 10 34 (.bin 4 0 (.t 33) (.c (.str [93]))), p_ 11 35 (m_ 8), c_ 12 36 33 [.t 35], c_ 13 37 14 [.t 36], e_ 14 38 (.bsl 9 1 4 [(.str []), (.str []), (.str []), (.str [])] [(0, 1), (1, 1), (2, 1), (3, 1)] [(.c (.str [117, 112])), (.t 29), (.t 34), (.t 37)]), e_ 15 39 (.app 9 1 16 (.t 24) (.t 38)), p_ 16 6 (m_ 39)])))))))) (g_ 2 [p_ 0 67 (m_ 6), c_ 1 68 13 [(.t 3), (.t 67)]])))))) (g_ 2 [p_ 0 69 (.bin 0 0 (.t 11) (i_ 1)), p_ 1 11 (m_ 69)]))))))) (.seq (g_ 3 [p_ 0 70 (f_ 0 3), c_ 1 71 16 [.t 70], p_ 2 2 (m_ 71)]) .ret))))
theorem tn7_g : tn_Good 7 tn7 := ⟨by kernel_rfl, by kernel_rfl⟩
def tn8 : XF := .mk 50 (.one 2) (.seq (g_ 1 [p_ 0 2 (.mv (.c (.str [])))]) (.seq (g_ 1 [e_ 0 3 (.al 80 [.nilP, .nilS])]) (.seq (.seq (g_ 3 [p_ 0 8 (m_ 0), c_ 1 9 34 [.t 8], p_ 2 10 (.mv (i_ 0))]) (.block 2 (.loop [0, 2, 3, 4, 5, 7, 9, 10, 11, 12, 13, 14, 15, 16, 17, 18, 19, 20, 21, 22, 23, 24, 25, 26, 27, 28, 29, 30, 31, 32, 33, 34, 35, 36, 37, 38, 39, 40, 41, 42, 43, 44, 45, 47, 48, 49] (.seq (g_ 1 [p_ 0 11 (.bin 3 0 (.t 10) (.t 9))]) (.seq (.cond (.t 11) .skip (.exit 2)) (.seq (.block 3 (.seq (g_ 2 [p_ 0 12 (m_ 10), p_ 1 4 (m_ 12)]) (.seq (g_ 9 [p_ 0 14 (m_ 0), p_ 1 15 (m_ 4), c_ 2 16 35 [(.t 14), (.t 15)], p_ 3 13 (m_ 16), p_ 4 17 (.ext 0 (.t 13)), p_ 5 18 (.ext 1 (.t 13)), e_ 6 5 (.al 124 [(.int 1 (.ofNat 0)), (.int 2 (.ofNat 0)), (.int 1 (.ofNat 0)), (.int 2 (.ofNat 0)), .nilS, (.bool false)]), e0_ 7 (.st 6 (.t 5) (.t 17)), p_ 8 6 (m_ 18)]) (.seq (g_ 4 [p_ 0 19 (f_ 4 5), r_ 1 20 (l_ 19), c_ 2 21 36 [.t 20], p_ 3 7 (m_ 21)]) (.seq (.seq (g_ 2 [p_ 0 22 (f_ 5 5), r_ 1 23 (l_ 22)]) (.cond (.t 23) (g_ 1 [p_ 0 7 (.mv (.c (.str [115, 112, 111, 105, 108, 116])))]) .skip)) (h_ 23 [p_ 0 24 (m_ 4), p_ 2 26 (f_ 0 5), p_ 3 27 (f_ 0 26), r_ 4 28 (l_ 27), p_ 5 29 (.cnv 0 (.t 28)), p_ 6 30 (f_ 0 5), p_ 7 31 (f_ 1 30), r_ 8 32 (l_ 31), p_ 9 33 (.cnv 0 (.t 32)), p_ 11 35 (f_ 2 5), p_ 12 36 (f_ 0 35), r_ 13 37 (l_ 36), p_ 14 38 (.cnv 0 (.t 37)), p_ 15 39 (f_ 2 5), p_ 16 40 (f_ 1 39), r_ 17 41 (l_ 40), p_ 18 42 (.cnv 0 (.t 41)), p_ 20 44 (m_ 7), c_ 1 25 14 [.t 24], a_ 4 28 (l_ 27), a_ 8 32 (l_ 31), a_ 13 37 (l_ 36), a_ 17 41 (l_ 40), c_ 10 34 37 [(.t 29), (.t 33)], a_ 13 37 (l_ 36), a_ 17 41 (l_ 40), c_ 19 43 37 [(.t 38), (.t 42)], e_ 21 45 (.bsl 9 1 4 [(.str []), (.str []), (.str []), (.str [])] [(0, 1), (1, 1), (2, 1), (3, 1)] [(.t 25), (.t 34), (.t 43), (.t 44)]), c_ 22 46 13 [(.t 3), (.t 45)]])))))) (g_ 2 [p_ 0 47 (.bin 0 0 (.t 10) (i_ 1)), p_ 1 10 (m_ 47)]))))))) (.seq (g_ 3 [p_ 0 48 (f_ 0 3), c_ 1 49 16 [.t 48], p_ 2 2 (m_ 49)]) .ret))))
theorem tn8_g : tn_Good 8 tn8 := ⟨by kernel_rfl, by kernel_rfl⟩
def tn9 : XF := .mk 32 (.cell 2 true 10) (.seq (g_ 2 [e_ 0 1 (.box 71 (.t 0)), e_ 1 2 (.al 30 [(.int 1 (.ofNat 0)), (.int 2 (.ofNat 0)), (.int 3 (.ofNat 0)), (.int 1 (.ofNat 0)), (.int 1 (.ofNat 0)), (.int 1 (.ofNat 0)), (.int 1 (.ofNat 0)), (.int 1 (.ofNat 0)), (.int 1 (.ofNat 0)), (.int 1 (.ofNat 0))])]) (.seq (.reg true 10 (.split 2 8 (.leaf [p_ 0 5 (f_ 0 1), r_ 1 6 (.ld true 2 (.t 5)), p_ 3 8 (f_ 2 1), r_ 4 9 (l_ 8), p_ 5 10 (f_ 3 1), r_ 6 11 (l_ 10), c_ 2 7 38 [.t 6], a_ 4 9 (l_ 8), a_ 6 11 (l_ 10), p_ 7 12 (.bld [(.int 1 (.ofNat 0)), (.int 2 (.ofNat 0)), (.int 3 (.ofNat 0)), (.int 1 (.ofNat 0)), (.int 1 (.ofNat 0)), (.int 1 (.ofNat 0)), (.int 1 (.ofNat 0)), (.int 1 (.ofNat 0)), (.int 1 (.ofNat 0)), (.int 1 (.ofNat 0))] [(0, 2), (2, 1), (3, 1)] [(.t 7), (.t 9), (.t 11)]), e_ 8 3 (.al 30 [(.int 1 (.ofNat 0)), (.int 2 (.ofNat 0)), (.int 3 (.ofNat 0)), (.int 1 (.ofNat 0)), (.int 1 (.ofNat 0)), (.int 1 (.ofNat 0)), (.int 1 (.ofNat 0)), (.int 1 (.ofNat 0)), (.int 1 (.ofNat 0)), (.int 1 (.ofNat 0))]), a_ 4 9 (l_ 8), a_ 6 11 (l_ 10), e0_ 9 (.st 10 (.t 3) (.t 12))]) (.leaf [p_ 0 5 (f_ 0 1), r_ 1 6 (.ld true 2 (.t 5)), p_ 3 8 (f_ 2 1), r_ 4 9 (l_ 8), p_ 5 10 (f_ 3 1), r_ 6 11 (l_ 10), e_ 8 3 (.al 30 [(.int 1 (.ofNat 0)), (.int 2 (.ofNat 0)), (.int 3 (.ofNat 0)), (.int 1 (.ofNat 0)), (.int 1 (.ofNat 0)), (.int 1 (.ofNat 0)), (.int 1 (.ofNat 0)), (.int 1 (.ofNat 0)), (.int 1 (.ofNat 0)), (.int 1 (.ofNat 0))]), a_ 1 6 (.ld true 2 (.t 5)), a_ 4 9 (l_ 8), a_ 6 11 (l_ 10), c_ 2 7 38 [.t 6], a_ 4 9 (l_ 8), a_ 6 11 (l_ 10), p_ 7 12 (.bld [(.int 1 (.ofNat 0)), (.int 2 (.ofNat 0)), (.int 3 (.ofNat 0)), (.int 1 (.ofNat 0)), (.int 1 (.ofNat 0)), (.int 1 (.ofNat 0)), (.int 1 (.ofNat 0)), (.int 1 (.ofNat 0)), (.int 1 (.ofNat 0)), (.int 1 (.ofNat 0))] [(0, 2), (2, 1), (3, 1)] [(.t 7), (.t 9), (.t 11)]), e0_ 9 (.st 10 (.t 3) (.t 12))]))) (.seq (.seq (g_ 1 [p_ 0 4 (.mv (i_ 0))]) (.block 2 (.loop [1, 2, 3, 4, 13, 14, 15, 16, 17, 18, 19, 20, 21, 22, 23, 24, 25, 26, 27, 28, 29, 30, 31] (.seq (.seq (g_ 2 [p_ 0 13 (m_ 4), p_ 1 14 (.bin 3 0 (.t 13) (i_ 3))]) (.cond (.t 14) .skip (.exit 2))) (.seq (.block 3 (h_ 15 [p_ 0 17 (m_ 4), p_ 1 18 (m_ 4), p_ 2 19 (f_ 4 1), p_ 3 20 (.ixa 3 2 (.t 19) (.t 18)), p_ 4 21 (f_ 0 20), r_ 5 22 (l_ 21), p_ 6 23 (m_ 4), p_ 7 24 (f_ 4 1), p_ 8 25 (.ixa 3 2 (.t 24) (.t 23)), p_ 9 26 (f_ 1 25), r_ 10 27 (l_ 26), p_ 11 28 (.bld [(.int 1 (.ofNat 0)), (.int 1 (.ofNat 0))] [(0, 1), (1, 1)] [(.t 22), (.t 27)]), p_ 12 29 (f_ 4 3), p_ 13 30 (.ixa 3 2 (.t 29) (.t 17)), e0_ 14 (.st 2 (.t 30) (.t 28))])) (g_ 3 [p_ 0 15 (m_ 4), p_ 1 16 (.bin 0 0 (.t 15) (i_ 1)), p_ 2 4 (m_ 16)])))))) (.seq (g_ 2 [r_ 0 31 (.ld true 10 (.t 3)), e0_ 1 (.st 10 (.t 2) (.t 31))]) .ret))))
theorem tn9_g : tn_Good 9 tn9 := ⟨by kernel_rfl, by kernel_rfl⟩
def tn10 : XF := .mk 32 (.cell 2 true 10) (.seq (g_ 2 [e_ 0 1 (.box 30 (.t 0)), e_ 1 2 (.al 71 [(.int 1 (.ofNat 0)), (.int 2 (.ofNat 0)), (.int 3 (.ofNat 0)), (.int 1 (.ofNat 0)), (.int 1 (.ofNat 0)), (.int 1 (.ofNat 0)), (.int 1 (.ofNat 0)), (.int 1 (.ofNat 0)), (.int 1 (.ofNat 0)), (.int 1 (.ofNat 0))])]) (.seq (.reg true 10 (.split 2 8 (.leaf [p_ 0 5 (f_ 0 1), r_ 1 6 (.ld true 2 (.t 5)), p_ 3 8 (f_ 2 1), r_ 4 9 (l_ 8), p_ 5 10 (f_ 3 1), r_ 6 11 (l_ 10), c_ 2 7 39 [.t 6], a_ 4 9 (l_ 8), a_ 6 11 (l_ 10), p_ 7 12 (.bld [(.int 1 (.ofNat 0)), (.int 2 (.ofNat 0)), (.int 3 (.ofNat 0)), (.int 1 (.ofNat 0)), (.int 1 (.ofNat 0)), (.int 1 (.ofNat 0)), (.int 1 (.ofNat 0)), (.int 1 (.ofNat 0)), (.int 1 (.ofNat 0)), (.int 1 (.ofNat 0))] [(0, 2), (2, 1), (3, 1)] [(.t 7), (.t 9), (.t 11)]), e_ 8 3 (.al 71 [(.int 1 (.ofNat 0)), (.int 2 (.ofNat 0)), (.int 3 (.ofNat 0)), (.int 1 (.ofNat 0)), (.int 1 (.ofNat 0)), (.int 1 (.ofNat 0)), (.int 1 (.ofNat 0)), (.int 1 (.ofNat 0)), (.int 1 (.ofNat 0)), (.int 1 (.ofNat 0))]), a_ 4 9 (l_ 8), a_ 6 11 (l_ 10), e0_ 9 (.st 10 (.t 3) (.t 12))]) (.leaf [p_ 0 5 (f_ 0 1), r_ 1 6 (.ld true 2 (.t 5)), p_ 3 8 (f_ 2 1), r_ 4 9 (l_ 8), p_ 5 10 (f_ 3 1), r_ 6 11 (l_ 10), e_ 8 3 (.al 71 [(.int 1 (.ofNat 0)), (.int 2 (.ofNat 0)), (.int 3 (.ofNat 0)), (.int 1 (.ofNat 0)), (.int 1 (.ofNat 0)), (.int 1 (.ofNat 0)), (.int 1 (.ofNat 0)), (.int 1 (.ofNat 0)), (.int 1 (.ofNat 0)), (.int 1 (.ofNat 0))]), a_ 1 6 (.ld true 2 (.t 5)), a_ 4 9 (l_ 8), a_ 6 11 (l_ 10), c_ 2 7 39 [.t 6], a_ 4 9 (l_ 8), a_ 6 11 (l_ 10), p_ 7 12 (.bld [(.int 1 (.ofNat 0)), (.int 2 (.ofNat 0)), (.int 3 (.ofNat 0)), (.int 1 (.ofNat 0)), (.int 1 (.ofNat 0)), (.int 1 (.ofNat 0)), (.int 1 (.ofNat 0)), (.int 1 (.ofNat 0)), (.int 1 (.ofNat 0)), (.int 1 (.ofNat 0))] [(0, 2), (2, 1), (3, 1)] [(.t 7), (.t 9), (.t 11)]), e0_ 9 (.st 10 (.t 3) (.t 12))]))) (.seq (.seq (g_ 1 [p_ 0 4 (.mv (i_ 0))]) (.block 2 (.loop [1, 2, 3, 4, 13, 14, 15, 16, 17, 18, 19, 20, 21, 22, 23, 24, 25, 26, 27, 28, 29, 30, 31] (.seq (.seq (g_ 2 [p_ 0 13 (m_ 4), p_ 1 14 (.bin 3 0 (.t 13) (i_ 3))]) (.cond (.t 14) .skip (.exit 2))) (.seq (.block 3 (h_ 15 [p_ 0 17 (m_ 4), p_ 1 18 (m_ 4), p_ 2 19 (f_ 4 1), p_ 3 20 (.ixa 3 2 (.t 19) (.t 18)), p_ 4 21 (f_ 0 20), r_ 5 22 (l_ 21), p_ 6 23 (m_ 4), p_ 7 24 (f_ 4 1), p_ 8 25 (.ixa 3 2 (.t 24) (.t 23)), p_ 9 26 (f_ 1 25), r_ 10 27 (l_ 26), p_ 11 28 (.bld [(.int 1 (.ofNat 0)), (.int 1 (.ofNat 0))] [(0, 1), (1, 1)] [(.t 22), (.t 27)]), p_ 12 29 (f_ 4 3), p_ 13 30 (.ixa 3 2 (.t 29) (.t 17)), e0_ 14 (.st 2 (.t 30) (.t 28))])) (g_ 3 [p_ 0 15 (m_ 4), p_ 1 16 (.bin 0 0 (.t 15) (i_ 1)), p_ 2 4 (m_ 16)])))))) (.seq (g_ 2 [r_ 0 31 (.ld true 10 (.t 3)), e0_ 1 (.st 10 (.t 2) (.t 31))]) .ret))))
theorem tn10_g : tn_Good 10 tn10 := ⟨by kernel_rfl, by kernel_rfl⟩
def tn12 : XF := .mk 32 (.one 4) (.seq (g_ 1 [p_ 0 4 (.mv (.c .nilS))]) (.seq (.seq (g_ 6 [p_ 0 8 (m_ 0), c_ 1 9 42 [.t 8], p_ 2 10 (m_ 9), pg_ 3 11 10 false (m_ 1), pg_ 4 12 10 false (.bin 3 3 (.t 11) (.c (.int 1 (.ofNat 4)))), p_ 5 13 (.pick (.t 10) (.c (.bool true)) (.t 12))]) (.cond (.t 13) (.seq (g_ 1 [p_ 0 4 (.mv (.c .nilS))]) .ret) .skip)) (.seq (g_ 1 [p_ 0 5 (.mv (.c .nilS))]) (.seq (.seq (g_ 8 [p_ 0 14 (m_ 0), p_ 1 15 (m_ 1), p_ 2 16 (n_ 14), p_ 3 17 (f_ 8 16), p_ 4 18 (.ixa 4 1 (.t 17) (.t 15)), r_ 5 19 (l_ 18), p_ 6 20 (k_ 19), p_ 7 21 (.mv (i_ 0))]) (.block 2 (.loop [4, 5, 7, 19, 20, 21, 22, 23, 24, 25, 26, 27, 28, 29, 30, 31] (.seq (g_ 1 [p_ 0 22 (.bin 3 0 (.t 21) (.t 20))]) (.seq (.cond (.t 22) .skip (.exit 2)) (.seq (.block 3 (.seq (g_ 4 [p_ 0 23 (.ixs 18 (.t 19) (.t 21)), r_ 1 24 (.ld true 18 (.t 23)), e_ 2 7 (.al 89 [(.int 1 (.ofNat 0)), (.int 1 (.ofNat 0)), (.int 2 (.ofNat 0)), (.int 3 (.ofNat 0)), (.int 1 (.ofNat 0)), (.int 1 (.ofNat 0)), (.int 1 (.ofNat 0)), (.int 1 (.ofNat 0)), (.int 1 (.ofNat 0)), (.int 1 (.ofNat 0)), (.int 1 (.ofNat 0)), (.int 3 (.ofNat 0)), .nilS, (.int 1 (.ofNat 0)), (.str []), .nilS, (.int 1 (.ofNat 0)), (.int 2 (.ofNat 0))]), e0_ 3 (.st 18 (.t 7) (.t 24))]) (g_ 6 [p_ 0 25 (m_ 5), r_ 1 26 (.ld true 18 (.t 7)), c_ 2 27 43 [.t 26], e_ 3 28 (.bsl 89 18 1 [(.int 1 (.ofNat 0)), (.int 1 (.ofNat 0)), (.int 2 (.ofNat 0)), (.int 3 (.ofNat 0)), (.int 1 (.ofNat 0)), (.int 1 (.ofNat 0)), (.int 1 (.ofNat 0)), (.int 1 (.ofNat 0)), (.int 1 (.ofNat 0)), (.int 1 (.ofNat 0)), (.int 1 (.ofNat 0)), (.int 3 (.ofNat 0)), .nilS, (.int 1 (.ofNat 0)), (.str []), .nilS, (.int 1 (.ofNat 0)), (.int 2 (.ofNat 0))] [(0, 18)] [.t 27]), e_ 4 29 (.app 89 18 104 (.t 25) (.t 28)), p_ 5 5 (m_ 29)]))) (g_ 2 [p_ 0 30 (.bin 0 0 (.t 21) (i_ 1)), p_ 1 21 (m_ 30)]))))))) (.seq (g_ 2 [p_ 0 31 (m_ 5), p_ 1 4 (m_ 31)]) .ret)))))
theorem tn12_g : tn_Good 12 tn12 := ⟨by kernel_rfl, by kernel_rfl⟩
def tn13 : XF := .mk 14 .none (.seq (h_ 6 [p_ 0 4 (m_ 0), p_ 1 5 (n_ 4), p_ 2 6 (f_ 0 5), p_ 3 7 (m_ 1), c_ 4 8 45 [(.t 7), (.c (.str [32]))], c_ 5 9 44 [(.t 6), (.t 8)]]) (g_ 4 [p_ 0 10 (m_ 0), p_ 1 11 (n_ 10), p_ 2 12 (f_ 0 11), c_ 3 13 46 [(.t 12), (.c (.int 1 (.ofNat 10)))]]))
theorem tn13_g : tn_Good 13 tn13 := ⟨by kernel_rfl, by kernel_rfl⟩
def tn17 : XF := .mk 11 (.one 2) (.seq (g_ 1 [p_ 0 2 (.mv (.c .nilS))]) (.seq (.seq (g_ 2 [p_ 0 3 (m_ 0), c_ 1 4 42 [.t 3]]) (.cond (.t 4) (.seq (g_ 1 [p_ 0 2 (.mv (.c .nilS))]) .ret) .skip)) (.seq (g_ 7 [p_ 0 5 (m_ 0), p_ 1 6 (n_ 5), p_ 2 7 (f_ 2 6), p_ 3 8 (f_ 1 7), r_ 4 9 (l_ 8), c_ 5 10 51 [.t 9], p_ 6 2 (m_ 10)]) .ret)))
theorem tn17_g : tn_Good 17 tn17 := ⟨by kernel_rfl, by kernel_rfl⟩
def tn18 : XF := .mk 28 (.one 2) (.seq (g_ 1 [p_ 0 2 (.mv (.c .nilS))]) (.seq (.seq (g_ 2 [p_ 0 6 (m_ 0), c_ 1 7 42 [.t 6]]) (.cond (.t 7) (.seq (g_ 1 [p_ 0 2 (.mv (.c .nilS))]) .ret) .skip)) (.seq (g_ 1 [p_ 0 3 (.mv (.c .nilS))]) (.seq (.seq (g_ 7 [p_ 0 8 (m_ 0), p_ 1 9 (n_ 8), p_ 2 10 (f_ 0 9), p_ 3 11 (f_ 1 10), r_ 4 12 (l_ 11), p_ 5 13 (k_ 12), p_ 6 14 (.mv (i_ 0))]) (.block 2 (.loop [2, 3, 5, 12, 13, 14, 15, 16, 17, 18, 19, 20, 21, 22, 23, 24, 25, 26, 27] (.seq (g_ 1 [p_ 0 15 (.bin 3 0 (.t 14) (.t 13))]) (.seq (.cond (.t 15) .skip (.exit 2)) (.seq (.block 3 (.seq (g_ 4 [p_ 0 16 (.ixs 14 (.t 12) (.t 14)), r_ 1 17 (.ld true 14 (.t 16)), e_ 2 5 (.al 99 [(.int 1 (.ofNat 0)), (.int 2 (.ofNat 0)), (.int 3 (.ofNat 0)), (.int 1 (.ofNat 0)), (.int 1 (.ofNat 0)), (.int 1 (.ofNat 0)), (.int 1 (.ofNat 0)), (.int 1 (.ofNat 0)), (.int 1 (.ofNat 0)), (.int 1 (.ofNat 0)), (.int 1 (.ofNat 0)), (o_ 0), (o_ 0), .nilS]), e0_ 3 (.st 14 (.t 5) (.t 17))]) (.seq (g_ 5 [p_ 0 18 (f_ 13 5), r_ 1 19 (l_ 18), c_ 2 20 52 [.t 19], p_ 3 21 (f_ 13 5), e0_ 4 (.st 1 (.t 21) (.t 20))]) (g_ 5 [p_ 0 22 (m_ 3), r_ 1 23 (.ld true 14 (.t 5)), e_ 2 24 (.bsl 99 14 1 [(.int 1 (.ofNat 0)), (.int 2 (.ofNat 0)), (.int 3 (.ofNat 0)), (.int 1 (.ofNat 0)), (.int 1 (.ofNat 0)), (.int 1 (.ofNat 0)), (.int 1 (.ofNat 0)), (.int 1 (.ofNat 0)), (.int 1 (.ofNat 0)), (.int 1 (.ofNat 0)), (.int 1 (.ofNat 0)), (o_ 0), (o_ 0), .nilS] [(0, 14)] [.t 23]), e_ 3 25 (.app 99 14 64 (.t 22) (.t 24)), p_ 4 3 (m_ 25)])))) (g_ 2 [p_ 0 26 (.bin 0 0 (.t 14) (i_ 1)), p_ 1 14 (m_ 26)]))))))) (.seq (g_ 2 [p_ 0 27 (m_ 3), p_ 1 2 (m_ 27)]) .ret)))))
theorem tn18_g : tn_Good 18 tn18 := ⟨by kernel_rfl, by kernel_rfl⟩
def tn20 : XF := .mk 17 (.one 4) (.seq (g_ 1 [p_ 0 4 (.mv (.c (.str [])))]) (.seq (.seq (g_ 8 [p_ 0 5 (m_ 0), p_ 1 6 (.bin 3 0 (.t 5) (i_ 0)), p_ 2 7 (m_ 6), pg_ 3 8 7 false (m_ 0), pg_ 4 9 7 false (m_ 1), pg_ 5 10 7 false (k_ 9), pg_ 6 11 7 false (.bin 3 3 (.t 8) (.t 10)), p_ 7 12 (.pick (.t 7) (.c (.bool true)) (.t 11))]) (.cond (.t 12) (.seq (g_ 1 [p_ 0 4 (.mv (.c (.str [111, 100, 100])))]) .ret) .skip)) (.seq (g_ 5 [p_ 0 13 (m_ 1), p_ 1 14 (m_ 0), p_ 2 15 (.ixs 1 (.t 13) (.t 14)), r_ 3 16 (l_ 15), p_ 4 4 (m_ 16)]) .ret)))
theorem tn20_g : tn_Good 20 tn20 := ⟨by kernel_rfl, by kernel_rfl⟩
def tn23 : XF := .mk 9 (.one 2) (.seq (g_ 1 [p_ 0 2 (.mv (i_ 0))]) (.seq (.seq (g_ 2 [p_ 0 3 (m_ 0), c_ 1 4 53 [.t 3]]) (.cond (.t 4) (.seq (g_ 1 [p_ 0 2 (.mv (i_ 0))]) .ret) .skip)) (.seq (g_ 5 [p_ 0 5 (m_ 0), p_ 1 6 (n_ 5), p_ 2 7 (f_ 88 6), r_ 3 8 (l_ 7), p_ 4 2 (m_ 8)]) .ret)))
theorem tn23_g : tn_Good 23 tn23 := ⟨by kernel_rfl, by kernel_rfl⟩
def tn34 : XF := .mk 10 (.one 2) (.seq (g_ 1 [p_ 0 2 (.mv (i_ 0))]) (.seq (.seq (g_ 2 [p_ 0 3 (m_ 0), c_ 1 4 53 [.t 3]]) (.cond (.t 4) (.seq (g_ 1 [p_ 0 2 (.mv (i_ 0))]) .ret) .skip)) (.seq (g_ 6 [p_ 0 5 (m_ 0), p_ 1 6 (n_ 5), p_ 2 7 (f_ 89 6), r_ 3 8 (l_ 7), c_ 4 9 63 [.t 8], p_ 5 2 (m_ 9)]) .ret)))
theorem tn34_g : tn_Good 34 tn34 := ⟨by kernel_rfl, by kernel_rfl⟩
def tn38 : XF := .mk 8 (.cell 2 true 2) (.seq (g_ 2 [e_ 0 1 (.box 67 (.t 0)), e_ 1 2 (.al 24 [(.int 1 (.ofNat 0)), (.int 2 (.ofNat 0))])]) (.seq (g_ 6 [p_ 0 3 (f_ 0 1), r_ 1 4 (l_ 3), p_ 2 5 (f_ 1 1), r_ 3 6 (l_ 5), p_ 4 7 (.bld [(.int 1 (.ofNat 0)), (.int 2 (.ofNat 0))] [(0, 1), (1, 1)] [(.t 4), (.t 6)]), e0_ 5 (.st 2 (.t 2) (.t 7))]) .ret))
theorem tn38_g : tn_Good 38 tn38 := ⟨by kernel_rfl, by kernel_rfl⟩
def tn39 : XF := .mk 8 (.cell 2 true 2) (.seq (g_ 2 [e_ 0 1 (.box 24 (.t 0)), e_ 1 2 (.al 67 [(.int 1 (.ofNat 0)), (.int 2 (.ofNat 0))])]) (.seq (g_ 6 [p_ 0 3 (f_ 0 1), r_ 1 4 (l_ 3), p_ 2 5 (f_ 1 1), r_ 3 6 (l_ 5), p_ 4 7 (.bld [(.int 1 (.ofNat 0)), (.int 2 (.ofNat 0))] [(0, 1), (1, 1)] [(.t 4), (.t 6)]), e0_ 5 (.st 2 (.t 2) (.t 7))]) .ret))
theorem tn39_g : tn_Good 39 tn39 := ⟨by kernel_rfl, by kernel_rfl⟩
def tn40 : XF := .mk 3 (.one 0) (.seq (g_ 1 [p_ 0 0 (.mv (.c .nilP))]) (.seq (g_ 3 [p_ 0 1 (.bld [.nilM, .nilS, .nilM, .nilS, .nilM, .nilS, .nilM, .nilS, .nilS, .nilS, .nilS, .nilS, (o_ 0), (.bool false)] [(13, 1)] [(.c (.bool true))]), e_ 1 2 (.box 65 (.t 1)), p_ 2 0 (m_ 2)]) .ret))
theorem tn40_g : tn_Good 40 tn40 := ⟨by kernel_rfl, by kernel_rfl⟩
def tn41 : XF := .mk 21 (.one 4) (.seq (g_ 2 [e_ 0 3 (.box 99 (.t 1)), p_ 1 4 (.mv (.c (.bool false)))]) (.seq (g_ 5 [p_ 0 5 (f_ 13 3), r_ 1 6 (l_ 5), c_ 2 7 52 [.t 6], p_ 3 8 (f_ 13 3), e0_ 4 (.st 1 (.t 8) (.t 7))]) (.seq (h_ 13 [p_ 0 9 (m_ 0), c_ 1 10 42 [.t 9], p_ 2 11 (.un 0 (.t 10)), p_ 3 12 (m_ 11), pg_ 4 13 12 true (m_ 0), pg_ 5 14 12 true (n_ 13), pg_ 6 15 12 true (f_ 0 14), pg_ 7 16 12 true (f_ 0 3), rg_ 8 17 12 true (.ld true 10 (.t 16)), rg_ 9 18 12 true (.ld true 14 (.t 3)), cg_ 10 19 12 true 68 [(.t 15), (.t 17), (.t 18)], p_ 11 20 (.pick (.t 12) (.t 19) (.c (.bool false))), p_ 12 4 (m_ 20)]) .ret)))
theorem tn41_g : tn_Good 41 tn41 := ⟨by kernel_rfl, by kernel_rfl⟩
def tn42 : XF := .mk 12 (.one 2) (.seq (g_ 1 [p_ 0 2 (.mv (.c (.bool false)))]) (.seq (g_ 10 [p_ 0 3 (m_ 0), p_ 1 4 (.isn false 1 (.t 3)), p_ 2 5 (m_ 4), pg_ 3 6 5 false (m_ 0), pg_ 4 7 5 false (n_ 6), pg_ 5 8 5 false (f_ 13 7), rg_ 6 9 5 false (l_ 8), pg_ 7 10 5 false (.un 0 (.t 9)), p_ 8 11 (.pick (.t 5) (.c (.bool true)) (.t 10)), p_ 9 2 (m_ 11)]) .ret))
theorem tn42_g : tn_Good 42 tn42 := ⟨by kernel_rfl, by kernel_rfl⟩
def tn51 : XF := .mk 8 (.one 2) (.seq (g_ 1 [p_ 0 2 (.mv (.c .nilS))]) (.seq (.seq (g_ 2 [p_ 0 3 (m_ 0), p_ 1 4 (.isn false 2 (.t 3))]) (.cond (.t 4) (.seq (g_ 1 [p_ 0 2 (.mv (.c .nilS))]) .ret) .skip)) (.seq (g_ 4 [e_ 0 5 (.bsl 96 17 0 [] [] []), p_ 1 6 (m_ 0), e_ 2 7 (.app 96 17 80 (.t 5) (.t 6)), p_ 3 2 (m_ 7)]) .ret)))
theorem tn51_g : tn_Good 51 tn51 := ⟨by kernel_rfl, by kernel_rfl⟩
def tn52 : XF := .mk 8 (.one 2) (.seq (g_ 1 [p_ 0 2 (.mv (.c .nilS))]) (.seq (.seq (g_ 2 [p_ 0 3 (m_ 0), p_ 1 4 (.isn false 2 (.t 3))]) (.cond (.t 4) (.seq (g_ 1 [p_ 0 2 (.mv (.c .nilS))]) .ret) .skip)) (.seq (g_ 4 [e_ 0 5 (.bsl 142 5 0 [] [] []), p_ 1 6 (m_ 0), e_ 2 7 (.app 142 5 48 (.t 5) (.t 6)), p_ 3 2 (m_ 7)]) .ret)))
theorem tn52_g : tn_Good 52 tn52 := ⟨by kernel_rfl, by kernel_rfl⟩
def tn53 : XF := .mk 12 (.one 2) (.seq (g_ 1 [p_ 0 2 (.mv (.c (.bool false)))]) (.seq (g_ 10 [p_ 0 3 (m_ 0), p_ 1 4 (.isn false 1 (.t 3)), p_ 2 5 (m_ 4), pg_ 3 6 5 false (m_ 0), pg_ 4 7 5 false (n_ 6), pg_ 5 8 5 false (f_ 90 7), rg_ 6 9 5 false (l_ 8), pg_ 7 10 5 false (.isn false 1 (.t 9)), p_ 8 11 (.pick (.t 5) (.c (.bool true)) (.t 10)), p_ 9 2 (m_ 11)]) .ret))
theorem tn53_g : tn_Good 53 tn53 := ⟨by kernel_rfl, by kernel_rfl⟩
def tn68 : XF := .mk 37 (.one 6) (.seq (g_ 3 [e_ 0 4 (.box 71 (.t 1)), e_ 1 5 (.box 99 (.t 2)), p_ 2 6 (.mv (.c (.bool false)))]) (.seq (.seq (h_ 6 [p_ 0 7 (m_ 0), p_ 1 8 (n_ 7), p_ 2 9 (f_ 0 8), r_ 3 10 (l_ 9), r_ 4 11 (.ld true 10 (.t 4)), r_ 5 12 (.lk 4 (.st [(0, 2, true, (.st [(0, 1, false, .int), (1, 1, false, .int)])), (2, 1, false, .int), (3, 1, false, .int), (4, 6, true, (.ar [0, 2, 4] 2 true (.st [(0, 1, false, .int), (1, 1, false, .int)])))]) (.bool false) false (.t 10) (.t 11))]) (.cond (.t 12) (.seq (g_ 1 [p_ 0 6 (.mv (.c (.bool false)))]) .ret) .skip)) (.seq (.seq (g_ 5 [p_ 0 13 (m_ 0), p_ 1 14 (n_ 13), p_ 2 15 (f_ 0 14), r_ 3 16 (l_ 15), p_ 4 17 (.isn false 3 (.t 16))]) (.cond (.t 17) (g_ 5 [p_ 0 18 (m_ 0), e_ 1 19 .mkm, p_ 2 20 (n_ 18), p_ 3 21 (f_ 0 20), e0_ 4 (.st 1 (.t 21) (.t 19))]) .skip)) (.seq (h_ 6 [p_ 0 22 (m_ 0), p_ 1 23 (n_ 22), p_ 2 24 (f_ 0 23), r_ 3 25 (l_ 24), r_ 4 26 (.ld true 10 (.t 4)), e0_ 5 (.mu 4 (.st [(0, 2, true, (.st [(0, 1, false, .int), (1, 1, false, .int)])), (2, 1, false, .int), (3, 1, false, .int), (4, 6, true, (.ar [0, 2, 4] 2 true (.st [(0, 1, false, .int), (1, 1, false, .int)])))]) (.t 25) (.t 26) (.c (.bool true)))]) (.seq (h_ 11 [p_ 0 27 (m_ 0), p_ 1 28 (m_ 0), p_ 2 29 (n_ 28), p_ 3 30 (f_ 1 29), r_ 4 31 (l_ 30), r_ 5 32 (.ld true 14 (.t 5)), e_ 6 33 (.bsl 99 14 1 [(.int 1 (.ofNat 0)), (.int 2 (.ofNat 0)), (.int 3 (.ofNat 0)), (.int 1 (.ofNat 0)), (.int 1 (.ofNat 0)), (.int 1 (.ofNat 0)), (.int 1 (.ofNat 0)), (.int 1 (.ofNat 0)), (.int 1 (.ofNat 0)), (.int 1 (.ofNat 0)), (.int 1 (.ofNat 0)), (o_ 0), (o_ 0), .nilS] [(0, 14)] [.t 32]), a_ 4 31 (l_ 30), e_ 7 34 (.app 99 14 64 (.t 31) (.t 33)), p_ 8 35 (n_ 27), p_ 9 36 (f_ 1 35), e0_ 10 (.st 1 (.t 36) (.t 34))]) (.seq (g_ 1 [p_ 0 6 (.mv (.c (.bool true)))]) .ret))))))
theorem tn68_g : tn_Good 68 tn68 := ⟨by kernel_rfl, by kernel_rfl⟩
noncomputable def tn_tab (f : Nat) : Option XF := (Bool.rec (Bool.rec (Bool.rec (Bool.rec (Bool.rec (Bool.rec none (some tn68) (Nat.beq f 68)) (Bool.rec none (some tn53) (Nat.beq f 53)) (Nat.blt f 68)) (Bool.rec none (some tn52) (Nat.beq f 52)) (Nat.blt f 53)) (Bool.rec (Bool.rec (Bool.rec none (some tn51) (Nat.beq f 51)) (Bool.rec none (some tn42) (Nat.beq f 42)) (Nat.blt f 51)) (Bool.rec none (some tn41) (Nat.beq f 41)) (Nat.blt f 42)) (Nat.blt f 52)) (Bool.rec (Bool.rec (Bool.rec (Bool.rec none (some tn40) (Nat.beq f 40)) (Bool.rec none (some tn39) (Nat.beq f 39)) (Nat.blt f 40)) (Bool.rec none (some tn38) (Nat.beq f 38)) (Nat.blt f 39)) (Bool.rec (Bool.rec (Bool.rec none (some tn34) (Nat.beq f 34)) (Bool.rec none (some tn23) (Nat.beq f 23)) (Nat.blt f 34)) (Bool.rec none (some tn20) (Nat.beq f 20)) (Nat.blt f 23)) (Nat.blt f 38)) (Nat.blt f 41)) (Bool.rec (Bool.rec (Bool.rec (Bool.rec (Bool.rec none (some tn18) (Nat.beq f 18)) (Bool.rec none (some tn17) (Nat.beq f 17)) (Nat.blt f 18)) (Bool.rec none (some tn13) (Nat.beq f 13)) (Nat.blt f 17)) (Bool.rec (Bool.rec (Bool.rec none (some tn12) (Nat.beq f 12)) (Bool.rec none (some tn10) (Nat.beq f 10)) (Nat.blt f 12)) (Bool.rec none (some tn9) (Nat.beq f 9)) (Nat.blt f 10)) (Nat.blt f 13)) (Bool.rec (Bool.rec (Bool.rec (Bool.rec none (some tn8) (Nat.beq f 8)) (Bool.rec none (some tn7) (Nat.beq f 7)) (Nat.blt f 8)) (Bool.rec none (some tn6) (Nat.beq f 6)) (Nat.blt f 7)) (Bool.rec (Bool.rec none (some tn5) (Nat.beq f 5)) (Bool.rec none (some tn4) (Nat.beq f 4)) (Nat.blt f 5)) (Nat.blt f 6)) (Nat.blt f 9)) (Nat.blt f 20))
theorem tn_leaf {f n : Nat} {x y : XF} (hy : tn_Good n y) (h : (Bool.rec (motive := fun _ => Option XF) none (some y) (Nat.beq f n)) = some x) : tn_Good f x := by
  cases hb : Nat.beq f n with
  | false => rw [hb] at h; cases h
  | true => rw [hb] at h; cases h; rw [Nat.eq_of_beq_eq_true hb]; exact hy
theorem tn_node {f n : Nat} {a b : Option XF} {x : XF} (ha : a = some x → tn_Good f x) (hb : b = some x → tn_Good f x) (h : (Bool.rec (motive := fun _ => Option XF) a b (Nat.blt f n)) = some x) : tn_Good f x := by
  cases hc : Nat.blt f n with
  | false => rw [hc] at h; exact ha h
  | true => rw [hc] at h; exact hb h
theorem tn_all (f : Nat) (x : XF) (h : tn_tab f = some x) : chkF Tryz.prog f x = true ∧ plain (bodyOf x) = true := (tn_node (tn_node (tn_node (tn_node (tn_node (tn_leaf tn68_g) (tn_leaf tn53_g)) (tn_leaf tn52_g)) (tn_node (tn_node (tn_leaf tn51_g) (tn_leaf tn42_g)) (tn_leaf tn41_g))) (tn_node (tn_node (tn_node (tn_leaf tn40_g) (tn_leaf tn39_g)) (tn_leaf tn38_g)) (tn_node (tn_node (tn_leaf tn34_g) (tn_leaf tn23_g)) (tn_leaf tn20_g)))) (tn_node (tn_node (tn_node (tn_node (tn_leaf tn18_g) (tn_leaf tn17_g)) (tn_leaf tn13_g)) (tn_node (tn_node (tn_leaf tn12_g) (tn_leaf tn10_g)) (tn_leaf tn9_g))) (tn_node (tn_node (tn_node (tn_leaf tn8_g) (tn_leaf tn7_g)) (tn_leaf tn6_g)) (tn_node (tn_leaf tn5_g) (tn_leaf tn4_g))))) h
theorem tn_mix : Tryz.prog.follows .mixedOrders = true := by kernel_rfl
end Go.Proofs.Tryz
namespace Go.Proofs.Tryz
open Go.Proofs.YtecafdjefholfaaGreatDoor (na_itoa na_itoaL na_small na_fmt na_join na_write na_byte na_get na_name)
open Go Go.RowKit Go.Sy
open Go.Eng hiding allB
set_option maxRecDepth 1000000
set_option linter.unusedVariables false
set_option maxHeartbeats 4000000
abbrev KE := AV → T → Nat → Bool
abbrev IE := List AV × T × Nat
noncomputable def esOf {α : Type} (I : α → IE) (sp : α → KE → Bool) : SpecE := fun us M nx K => exB fun p : α => must (prB ((us, M, nx) = I p)) (sp p K)
theorem natE_said {P : Program} (hm : P.follows .mixedOrders = true) {cf : CallF} (hcf : CallOk P cf) {lp : LpF} {lf f k : Nat} {xf : XF} {α : Type} {I : α → IE} {sp : α → KE → Bool} (hf : chkF P f xf = true) (hkp : keepB k (bodyOf xf) = true) (hlp : ∀ b j x, (b, j, x) ∈ lpsOf (bodyOf xf) → LpOk P (nOf xf) k lp b j x)
    (h : ∀ p K, sp p K = true → funE k cf lp lf xf (I p).1 (I p).2.1 (I p).2.2 K = true) : NatE P f k (esOf I sp) :=
  natE_of hm hcf hf hkp hlp fun us M nx K hk => by
    obtain ⟨p, h1⟩ := exB_ok hk
    obtain ⟨e, h2⟩ := mustP_ok h1
    have h3 := h p K h2
    rw [← e] at h3
    exact h3
noncomputable def natC (prev : Nat → List AV → Option ES) (k : Nat) (es : SpecE) (g : Nat) (l : List (Nat × Nat)) (f : Nat) (vs : List AV) : Option ES := Bool.rec (prev f vs) (some (.mk k es)) (hasS f g vs l)
def NatsOk (P : Program) (nat : Nat → List AV → Option ES) : Prop := ∀ f vs k sp, nat f vs = some (.mk k sp) → NatE P f k sp
theorem natC_ok {P : Program} {prev : Nat → List AV → Option ES} {k g : Nat} {es : SpecE} {l : List (Nat × Nat)} (h1 : NatE P g k es) (h2 : NatsOk P prev) : NatsOk P (natC prev k es g l) := fun f vs k' sp h => nat_step h1 (h2 f vs k' sp) h
noncomputable def nat0 : Nat → List AV → Option ES := fun _ _ => none
theorem nat0_ok {P : Program} : NatsOk P nat0 := fun _ _ _ _ h => by cases h
noncomputable def noLp : LpF := fun _ _ _ _ _ => false
noncomputable def qI (k : Nat) (z : Int) : Bool := prB ((SY.int k z) = .int k z)
noncomputable def qS (l : List UInt8) : Bool := prB ((SY.str l) = .str l)
noncomputable def qY (x : SY) : Bool := prB (x = x)
noncomputable def qL (l : List Bool) : Bool := List.rec true (fun a _ r => Bool.and a r) l
noncomputable def mP (p : Prop) (b : Bool) : Bool := must (prB p) b
noncomputable def iP (p : Prop) (x y : Bool) : Bool := ifB (prB p) x y
theorem mI {p : Prop} {b : Bool} (h : p) (k : b = true) : mP p b = true := mustP h k
theorem iI {p : Prop} {x y : Bool} (h : p → x = true) (k : ¬ p → y = true) : iP p x y = true := ifP h k
theorem callR {α R : Type} {e : α → Prop} {po : α → R → Prop} {k : α → R → Bool} (w : α) (h1 : e w) (h3 : ∀ r, po w r → k w r = true) : (exB fun p => mP (e p) (allB fun r => iP (po p r) (k p r) true)) = true :=
  exB_mk w (mustP h1 (allB_mk fun r => ifP (h3 r) fun _ => rfl))
noncomputable abbrev cfT (nat : Nat → List AV → Option ES) : CallF := callX tn_tab nat noLp 600 40
theorem cfT_ok {nat : Nat → List AV → Option ES} (h : NatsOk Tryz.prog nat) : CallOk Tryz.prog (cfT nat) := callX_ok (lp := noLp) (lf := 600) tn_mix tn_all h 40
theorem natE_pn {nat : Nat → List AV → Option ES} (hcf : CallOk Tryz.prog (cfT nat)) {f k : Nat} {xf : XF} {α : Type} {I : α → IE} {out : α → KE → Bool} (hf : chkF Tryz.prog f xf = true) (hkp : keepB k (bodyOf xf) = true) (hlp : lpsOf (bodyOf xf) = [])
    (h : ∀ p K, out p K = true → funE k (cfT nat) noLp 600 xf (I p).1 (I p).2.1 (I p).2.2 K = true) : NatE Tryz.prog f k (esOf I out) :=
  natE_said (lp := noLp) (lf := 600) tn_mix hcf hf hkp (fun b j x h => by rw [hlp] at h; cases h) h
noncomputable def nat_n_itoa := natC nat0 0 (spN1 0 Lib.itoa) 14 [(0, 20)]
theorem nat_n_itoa_ok : NatsOk Tryz.prog nat_n_itoa := natC_ok na_itoa nat0_ok
noncomputable def nat_n_itoaL := natC nat_n_itoa 0 (spNL 0 100000000000000000000 tl0) 14 [(0, 1)]
theorem nat_n_itoaL_ok : NatsOk Tryz.prog nat_n_itoaL := natC_ok na_itoaL nat_n_itoa_ok
noncomputable def nat_n_small := natC nat_n_itoaL 0 (spNL 0 100 tl0) 101 [(0, 1)]
theorem nat_n_small_ok : NatsOk Tryz.prog nat_n_small := natC_ok na_small nat_n_itoaL_ok
noncomputable def nat_n_fmt := natC nat_n_small 0 (spN2 0 10 Lib.itoa) 73 []
theorem nat_n_fmt_ok : NatsOk Tryz.prog nat_n_fmt := natC_ok na_fmt nat_n_small_ok
noncomputable def nat_n_join := natC nat_n_fmt 0 spJoin 45 []
theorem nat_n_join_ok : NatsOk Tryz.prog nat_n_join := natC_ok na_join nat_n_fmt_ok
noncomputable def nat_n_write := natC nat_n_join 1 (spWrite [78, 80]) 44 []
theorem nat_n_write_ok : NatsOk Tryz.prog nat_n_write := natC_ok na_write nat_n_join_ok
noncomputable def nat_n_byte := natC nat_n_write 1 (spByte [78, 80]) 46 []
theorem nat_n_byte_ok : NatsOk Tryz.prog nat_n_byte := natC_ok na_byte nat_n_write_ok
noncomputable def nat_n_get := natC nat_n_byte 0 (spGet [78, 80]) 16 []
theorem nat_n_get_ok : NatsOk Tryz.prog nat_n_get := natC_ok na_get nat_n_byte_ok
noncomputable def nat_n_name := natC nat_n_get 0 spId 19 [(0, 15)]
theorem nat_n_name_ok : NatsOk Tryz.prog nat_n_name := natC_ok na_name nat_n_get_ok
def ft_knows : XF := .mk 11 (.one 0) (.seq (g_ 1 [p_ 0 0 (.mv (.c (.bool false)))]) (.seq (g_ 2 [c_ 0 2 40 [], p_ 1 1 (m_ 2)]) (.seq (g_ 5 [p_ 0 3 (m_ 1), p_ 1 4 (.bld [.int 1 (.ofNat 0), .int 2 (.ofNat 0)] [(0, 1), (1, 1)] [.c (.int 1 (.ofNat 9)), .c (.int 2 (.ofNat 1))]), p_ 2 5 (.bld [.int 1 (.ofNat 0), .int 2 (.ofNat 0), .int 3 (.ofNat 0), .int 1 (.ofNat 0), .int 1 (.ofNat 0), .int 1 (.ofNat 0), .int 1 (.ofNat 0), .int 1 (.ofNat 0), .int 1 (.ofNat 0), .int 1 (.ofNat 0)] [(0, 2), (2, 1)] [.t 4, .c (.int 3 (.ofNat 1))]), p_ 3 6 (.bld [.int 1 (.ofNat 0), .int 2 (.ofNat 0), .int 3 (.ofNat 0), .int 1 (.ofNat 0), .int 1 (.ofNat 0), .int 1 (.ofNat 0), .int 1 (.ofNat 0), .int 1 (.ofNat 0), .int 1 (.ofNat 0), .int 1 (.ofNat 0), .int 1 (.ofNat 0), .int 0 (.ofNat 0), .int 0 (.ofNat 0), .nilS] [(0, 10), (11, 1)] [.t 5, i_ 2]), c_ 4 7 41 [.t 3, .t 6]]) (.seq (g_ 4 [p_ 0 8 (m_ 1), c_ 1 9 5 [.t 8], p_ 2 10 (.bin 5 0 (.t 9) (.c (.str [99, 97, 108, 108, 32, 57, 46, 49, 47, 49, 32, 97, 108, 108, 32, 48, 32, 111, 112, 101, 110, 10]))), p_ 3 0 (m_ 10)]) .ret))))
theorem ft_knows_ok : chkF Tryz.prog 11 ft_knows = true := by kernel_rfl
abbrev A_knows := Unit
structure R_knows where
  q : Prop
def po_knows (p : A_knows) (r : R_knows) : Prop := r.q
noncomputable def I_knows (p : A_knows) : IE := ([], .leaf, 0)
noncomputable def out_knows (p : A_knows) (K : KE) : Bool := allB fun r : R_knows => iP (po_knows p r) (K (.sy (.bool r.q)) .leaf 0) true
theorem fin_knows {p : A_knows} {K : KE} (hK : out_knows p K = true) (r : R_knows) (h : po_knows p r) : K (.sy (.bool r.q)) .leaf 0 = true := ifB_use h (allB_ok hK r)
theorem vf_knows (p : A_knows) (K : KE) (hK : out_knows p K = true) : (funE 0 (cfT nat_n_name) noLp 600 ft_knows (I_knows p).1 (I_knows p).2.1 (I_knows p).2.2 K) = true := by
  refine Eq.trans (b := (must (mP (ID.ok ⟨⟨(9 : Int), (1 : Int)⟩, (1 : Int), (0 : Int), ⟨(0 : Int), (0 : Int)⟩, ⟨(0 : Int), (0 : Int)⟩, ⟨(0 : Int), (0 : Int)⟩⟩) (mP (InR 0 (0 : Int)) (mP ((Lib.join [([99, 97, 108, 108] : List Nat).map UInt8.ofNat, idText ⟨⟨(9 : Int), (1 : Int)⟩, (1 : Int), (0 : Int), ⟨(0 : Int), (0 : Int)⟩, ⟨(0 : Int), (0 : Int)⟩, ⟨(0 : Int), (0 : Int)⟩⟩, ([97, 108, 108] : List Nat).map UInt8.ofNat, ([48] : List Nat).map UInt8.ofNat, ([111, 112, 101, 110] : List Nat).map UInt8.ofNat] (([32] : List Nat).map UInt8.ofNat)).length ≤ 140737488355328) (mP ([([99, 97, 108, 108] : List Nat).map UInt8.ofNat, idText ⟨⟨(9 : Int), (1 : Int)⟩, (1 : Int), (0 : Int), ⟨(0 : Int), (0 : Int)⟩, ⟨(0 : Int), (0 : Int)⟩, ⟨(0 : Int), (0 : Int)⟩⟩, ([97, 108, 108] : List Nat).map UInt8.ofNat, ([48] : List Nat).map UInt8.ofNat, ([111, 112, 101, 110] : List Nat).map UInt8.ofNat].length ≤ 140737488355328) (mP (([] : List UInt8).length + (Lib.join [([99, 97, 108, 108] : List Nat).map UInt8.ofNat, idText ⟨⟨(9 : Int), (1 : Int)⟩, (1 : Int), (0 : Int), ⟨(0 : Int), (0 : Int)⟩, ⟨(0 : Int), (0 : Int)⟩, ⟨(0 : Int), (0 : Int)⟩⟩, ([97, 108, 108] : List Nat).map UInt8.ofNat, ([48] : List Nat).map UInt8.ofNat, ([111, 112, 101, 110] : List Nat).map UInt8.ofNat] (([32] : List Nat).map UInt8.ofNat)).length ≤ 140737488355328) (exB fun b1 : List UInt8 => mP ((([] : List UInt8) ++ (Lib.join [([99, 97, 108, 108] : List Nat).map UInt8.ofNat, idText ⟨⟨(9 : Int), (1 : Int)⟩, (1 : Int), (0 : Int), ⟨(0 : Int), (0 : Int)⟩, ⟨(0 : Int), (0 : Int)⟩, ⟨(0 : Int), (0 : Int)⟩⟩, ([97, 108, 108] : List Nat).map UInt8.ofNat, ([48] : List Nat).map UInt8.ofNat, ([111, 112, 101, 110] : List Nat).map UInt8.ofNat] (([32] : List Nat).map UInt8.ofNat))).map encU = b1.map encU) (mP ((([] : List UInt8) ++ (Lib.join [([99, 97, 108, 108] : List Nat).map UInt8.ofNat, idText ⟨⟨(9 : Int), (1 : Int)⟩, (1 : Int), (0 : Int), ⟨(0 : Int), (0 : Int)⟩, ⟨(0 : Int), (0 : Int)⟩, ⟨(0 : Int), (0 : Int)⟩⟩, ([97, 108, 108] : List Nat).map UInt8.ofNat, ([48] : List Nat).map UInt8.ofNat, ([111, 112, 101, 110] : List Nat).map UInt8.ofNat] (([32] : List Nat).map UInt8.ofNat))).length = b1.length) (mP (InR 1 (10 : Int)) (mP (b1.length + 1 ≤ 140737488355328) (exB fun b2 : List UInt8 => mP ((b1 ++ [UInt8.ofNat (10 : Int).toNat]).map encU = b2.map encU) (mP ((b1 ++ [UInt8.ofNat (10 : Int).toNat]).length = b2.length) (mP (b2 ≠ []) (K (.sy (.bool (b2 = (([99, 97, 108, 108, 32, 57, 46, 49, 47, 49, 32, 97, 108, 108, 32, 48, 32, 111, 112, 101, 110, 10] : List Nat).map UInt8.ofNat)))) .leaf 0))))))))))))) (mP (ID.ok ⟨⟨(9 : Int), (1 : Int)⟩, (1 : Int), (0 : Int), ⟨(0 : Int), (0 : Int)⟩, ⟨(0 : Int), (0 : Int)⟩, ⟨(0 : Int), (0 : Int)⟩⟩) (mP (InR 0 (0 : Int)) (mP ((Lib.join [([99, 97, 108, 108] : List Nat).map UInt8.ofNat, idText ⟨⟨(9 : Int), (1 : Int)⟩, (1 : Int), (0 : Int), ⟨(0 : Int), (0 : Int)⟩, ⟨(0 : Int), (0 : Int)⟩, ⟨(0 : Int), (0 : Int)⟩⟩, ([97, 108, 108] : List Nat).map UInt8.ofNat, ([48] : List Nat).map UInt8.ofNat, ([111, 112, 101, 110] : List Nat).map UInt8.ofNat] (([32] : List Nat).map UInt8.ofNat)).length ≤ 140737488355328) (mP ([([99, 97, 108, 108] : List Nat).map UInt8.ofNat, idText ⟨⟨(9 : Int), (1 : Int)⟩, (1 : Int), (0 : Int), ⟨(0 : Int), (0 : Int)⟩, ⟨(0 : Int), (0 : Int)⟩, ⟨(0 : Int), (0 : Int)⟩⟩, ([97, 108, 108] : List Nat).map UInt8.ofNat, ([48] : List Nat).map UInt8.ofNat, ([111, 112, 101, 110] : List Nat).map UInt8.ofNat].length ≤ 140737488355328) (mP (([] : List UInt8).length + (Lib.join [([99, 97, 108, 108] : List Nat).map UInt8.ofNat, idText ⟨⟨(9 : Int), (1 : Int)⟩, (1 : Int), (0 : Int), ⟨(0 : Int), (0 : Int)⟩, ⟨(0 : Int), (0 : Int)⟩, ⟨(0 : Int), (0 : Int)⟩⟩, ([97, 108, 108] : List Nat).map UInt8.ofNat, ([48] : List Nat).map UInt8.ofNat, ([111, 112, 101, 110] : List Nat).map UInt8.ofNat] (([32] : List Nat).map UInt8.ofNat)).length ≤ 140737488355328) (exB fun b3 : List UInt8 => mP ((([] : List UInt8) ++ (Lib.join [([99, 97, 108, 108] : List Nat).map UInt8.ofNat, idText ⟨⟨(9 : Int), (1 : Int)⟩, (1 : Int), (0 : Int), ⟨(0 : Int), (0 : Int)⟩, ⟨(0 : Int), (0 : Int)⟩, ⟨(0 : Int), (0 : Int)⟩⟩, ([97, 108, 108] : List Nat).map UInt8.ofNat, ([48] : List Nat).map UInt8.ofNat, ([111, 112, 101, 110] : List Nat).map UInt8.ofNat] (([32] : List Nat).map UInt8.ofNat))).map encU = b3.map encU) (mP ((([] : List UInt8) ++ (Lib.join [([99, 97, 108, 108] : List Nat).map UInt8.ofNat, idText ⟨⟨(9 : Int), (1 : Int)⟩, (1 : Int), (0 : Int), ⟨(0 : Int), (0 : Int)⟩, ⟨(0 : Int), (0 : Int)⟩, ⟨(0 : Int), (0 : Int)⟩⟩, ([97, 108, 108] : List Nat).map UInt8.ofNat, ([48] : List Nat).map UInt8.ofNat, ([111, 112, 101, 110] : List Nat).map UInt8.ofNat] (([32] : List Nat).map UInt8.ofNat))).length = b3.length) (mP (InR 1 (10 : Int)) (mP (b3.length + 1 ≤ 140737488355328) (exB fun b4 : List UInt8 => mP ((b3 ++ [UInt8.ofNat (10 : Int).toNat]).map encU = b4.map encU) (mP ((b3 ++ [UInt8.ofNat (10 : Int).toNat]).length = b4.length) (mP (b4 ≠ []) (K (.sy (.bool (b4 = (([99, 97, 108, 108, 32, 57, 46, 49, 47, 49, 32, 97, 108, 108, 32, 48, 32, 111, 112, 101, 110, 10] : List Nat).map UInt8.ofNat)))) .leaf 0))))))))))))))) (by kernel_rfl) ?_
  refine must_mk ?_ ?_
  refine mI (by decide +kernel) (mI (by simp only [InR] ; omega) (mI (by decide +kernel) (mI (by decide +kernel) (mI (by decide +kernel) ?_))))
  refine exB_mk (([] : List UInt8) ++ (Lib.join [([99, 97, 108, 108] : List Nat).map UInt8.ofNat, idText ⟨⟨(9 : Int), (1 : Int)⟩, (1 : Int), (0 : Int), ⟨(0 : Int), (0 : Int)⟩, ⟨(0 : Int), (0 : Int)⟩, ⟨(0 : Int), (0 : Int)⟩⟩, ([97, 108, 108] : List Nat).map UInt8.ofNat, ([48] : List Nat).map UInt8.ofNat, ([111, 112, 101, 110] : List Nat).map UInt8.ofNat] (([32] : List Nat).map UInt8.ofNat))) ?_
  refine mI (rfl) (mI (by decide +kernel) (mI (by simp only [InR] ; omega) (mI (by decide +kernel) ?_)))
  refine exB_mk ((([] : List UInt8) ++ (Lib.join [([99, 97, 108, 108] : List Nat).map UInt8.ofNat, idText ⟨⟨(9 : Int), (1 : Int)⟩, (1 : Int), (0 : Int), ⟨(0 : Int), (0 : Int)⟩, ⟨(0 : Int), (0 : Int)⟩, ⟨(0 : Int), (0 : Int)⟩⟩, ([97, 108, 108] : List Nat).map UInt8.ofNat, ([48] : List Nat).map UInt8.ofNat, ([111, 112, 101, 110] : List Nat).map UInt8.ofNat] (([32] : List Nat).map UInt8.ofNat))) ++ [UInt8.ofNat (10 : Int).toNat]) ?_
  refine mI (rfl) (mI (by decide +kernel) (mI (by decide +kernel) ?_))
  exact fin_knows hK ⟨((([] : List UInt8) ++ (Lib.join [([99, 97, 108, 108] : List Nat).map UInt8.ofNat, idText ⟨⟨(9 : Int), (1 : Int)⟩, (1 : Int), (0 : Int), ⟨(0 : Int), (0 : Int)⟩, ⟨(0 : Int), (0 : Int)⟩, ⟨(0 : Int), (0 : Int)⟩⟩, ([97, 108, 108] : List Nat).map UInt8.ofNat, ([48] : List Nat).map UInt8.ofNat, ([111, 112, 101, 110] : List Nat).map UInt8.ofNat] (([32] : List Nat).map UInt8.ofNat))) ++ [UInt8.ofNat (10 : Int).toNat]) = (([99, 97, 108, 108, 32, 57, 46, 49, 47, 49, 32, 97, 108, 108, 32, 48, 32, 111, 112, 101, 110, 10] : List Nat).map UInt8.ofNat)⟩ (by dsimp only [po_knows] <;> decide +kernel)
  refine mI (by decide +kernel) (mI (by simp only [InR] ; omega) (mI (by decide +kernel) (mI (by decide +kernel) (mI (by decide +kernel) ?_))))
  refine exB_mk (([] : List UInt8) ++ (Lib.join [([99, 97, 108, 108] : List Nat).map UInt8.ofNat, idText ⟨⟨(9 : Int), (1 : Int)⟩, (1 : Int), (0 : Int), ⟨(0 : Int), (0 : Int)⟩, ⟨(0 : Int), (0 : Int)⟩, ⟨(0 : Int), (0 : Int)⟩⟩, ([97, 108, 108] : List Nat).map UInt8.ofNat, ([48] : List Nat).map UInt8.ofNat, ([111, 112, 101, 110] : List Nat).map UInt8.ofNat] (([32] : List Nat).map UInt8.ofNat))) ?_
  refine mI (rfl) (mI (by decide +kernel) (mI (by simp only [InR] ; omega) (mI (by decide +kernel) ?_)))
  refine exB_mk ((([] : List UInt8) ++ (Lib.join [([99, 97, 108, 108] : List Nat).map UInt8.ofNat, idText ⟨⟨(9 : Int), (1 : Int)⟩, (1 : Int), (0 : Int), ⟨(0 : Int), (0 : Int)⟩, ⟨(0 : Int), (0 : Int)⟩, ⟨(0 : Int), (0 : Int)⟩⟩, ([97, 108, 108] : List Nat).map UInt8.ofNat, ([48] : List Nat).map UInt8.ofNat, ([111, 112, 101, 110] : List Nat).map UInt8.ofNat] (([32] : List Nat).map UInt8.ofNat))) ++ [UInt8.ofNat (10 : Int).toNat]) ?_
  refine mI (rfl) (mI (by decide +kernel) (mI (by decide +kernel) ?_))
  exact fin_knows hK ⟨((([] : List UInt8) ++ (Lib.join [([99, 97, 108, 108] : List Nat).map UInt8.ofNat, idText ⟨⟨(9 : Int), (1 : Int)⟩, (1 : Int), (0 : Int), ⟨(0 : Int), (0 : Int)⟩, ⟨(0 : Int), (0 : Int)⟩, ⟨(0 : Int), (0 : Int)⟩⟩, ([97, 108, 108] : List Nat).map UInt8.ofNat, ([48] : List Nat).map UInt8.ofNat, ([111, 112, 101, 110] : List Nat).map UInt8.ofNat] (([32] : List Nat).map UInt8.ofNat))) ++ [UInt8.ofNat (10 : Int).toNat]) = (([99, 97, 108, 108, 32, 57, 46, 49, 47, 49, 32, 97, 108, 108, 32, 48, 32, 111, 112, 101, 110, 10] : List Nat).map UInt8.ofNat)⟩ (by dsimp only [po_knows] <;> decide +kernel)
noncomputable def nat_knows := natC nat_n_name 0 (esOf I_knows out_knows) 11 []
theorem nat_knows_ok : NatsOk Tryz.prog nat_knows := natC_ok (natE_pn (f := 11) (k := 0) (cfT_ok nat_n_name_ok) ft_knows_ok (by rfl) (by rfl) vf_knows) nat_n_name_ok
def ft_nil : XF := .mk 41 (.one 2) (.seq (g_ 2 [e_ 0 1 (.box 30 (.t 0)), p_ 1 2 (.mv (.c (.bool false)))]) (.seq (h_ 39 [c_ 0 3 4 [.c .nilP], p_ 1 4 (.bin 5 0 (.t 3) (.c (.str []))), p_ 2 5 (m_ 4), cg_ 3 6 5 true 5 [.c .nilP], pg_ 4 7 5 true (.bin 5 0 (.t 6) (.c (.str []))), p_ 5 8 (.pick (.t 5) (.t 7) (.c (.bool false))), p_ 6 9 (m_ 8), cg_ 7 10 9 true 6 [.c .nilS], pg_ 8 11 9 true (.bin 5 0 (.t 10) (.c (.str []))), p_ 9 12 (.pick (.t 9) (.t 11) (.c (.bool false))), p_ 10 13 (m_ 12), cg_ 11 14 13 true 7 [.c .nilP], cg_ 12 15 13 true 8 [.c .nilP], pg_ 13 16 13 true (.bin 4 0 (.t 14) (.t 15)), pg_ 14 17 13 true (.bin 5 0 (.t 16) (.c (.str []))), p_ 15 18 (.pick (.t 13) (.t 17) (.c (.bool false))), p_ 16 19 (m_ 18), pg_ 17 20 19 true (.bld [.nilS, .int 0 (.ofNat 0), .int 0 (.ofNat 0), .int 0 (.ofNat 0), .int 0 (.ofNat 0), .int 0 (.ofNat 0), .int 0 (.ofNat 0), .int 4 (.ofNat 0), .int 0 (.ofNat 0), .bool false, .int 2 (.ofNat 0), .nilP, .int 0 (.ofNat 0), .int 0 (.ofNat 0), .bool false, .int 2 (.ofNat 0), .nilP, .int 0 (.ofNat 0), .int 0 (.ofNat 0), .bool false, .int 2 (.ofNat 0), .nilP, .int 0 (.ofNat 0), .int 0 (.ofNat 0), .bool false, .int 2 (.ofNat 0), .nilP, .int 0 (.ofNat 0), .int 0 (.ofNat 0), .bool false, .int 2 (.ofNat 0), .nilP, .int 0 (.ofNat 0), .int 0 (.ofNat 0), .bool false, .int 2 (.ofNat 0), .nilP, .int 0 (.ofNat 0), .int 0 (.ofNat 0), .bool false, .int 2 (.ofNat 0), .nilP, .int 0 (.ofNat 0), .int 0 (.ofNat 0), .bool false, .int 2 (.ofNat 0), .nilP, .int 0 (.ofNat 0), .int 0 (.ofNat 0), .bool false, .int 2 (.ofNat 0), .nilP, .int 0 (.ofNat 0), .int 0 (.ofNat 0), .bool false, .int 2 (.ofNat 0), .nilP, .int 0 (.ofNat 0), .int 0 (.ofNat 0), .bool false, .int 2 (.ofNat 0), .nilP, .int 0 (.ofNat 0), .int 0 (.ofNat 0), .bool false, .int 2 (.ofNat 0), .nilP, .int 0 (.ofNat 0), .int 0 (.ofNat 0), .bool false, .int 2 (.ofNat 0), .nilP, .int 0 (.ofNat 0), .int 0 (.ofNat 0), .bool false, .int 2 (.ofNat 0), .nilP, .int 0 (.ofNat 0), .int 0 (.ofNat 0), .bool false, .int 2 (.ofNat 0), .nilP, .int 0 (.ofNat 0), .int 0 (.ofNat 0), .bool false, .int 2 (.ofNat 0), .nilP, .int 0 (.ofNat 0), .int 0 (.ofNat 0), .nilP, .nilP, .int 0 (.ofNat 0)] [] []), .e 18 (some 21) (some (19, true)) (.box 46 (.t 20)), cg_ 19 22 19 true 7 [.t 21], pg_ 20 23 19 true (.bin 5 0 (.t 22) (.c (.str []))), p_ 21 24 (.pick (.t 19) (.t 23) (.c (.bool false))), p_ 22 25 (m_ 24), pg_ 23 26 25 true (.bld [.nilM, .nilS, .nilM, .nilS, .nilM, .nilS, .nilM, .nilS, .nilS, .nilS, .nilS, .nilS, .int 0 (.ofNat 0), .bool false] [] []), .e 24 (some 27) (some (25, true)) (.box 65 (.t 26)), cg_ 25 28 25 true 5 [.t 27], pg_ 26 29 25 true (.bin 5 0 (.t 28) (.c (.str []))), p_ 27 30 (.pick (.t 25) (.t 29) (.c (.bool false))), p_ 28 31 (m_ 30), rg_ 29 32 31 true (.ld true 10 (.t 1)), rg_ 30 33 31 true (.ld true 10 (.t 1)), cg_ 31 34 31 true 10 [.t 33], ag_ 29 32 31 true (.ld true 10 (.t 1)), cg_ 32 35 31 true 9 [.t 34], ag_ 29 32 31 true (.ld true 10 (.t 1)), pg_ 33 36 31 true (.eqs false 4 (.st [(0, 2, true, .st [(0, 1, false, .int), (1, 1, false, .int)]), (2, 1, false, .int), (3, 1, false, .int), (4, 6, true, .ar [0, 2, 4] 2 true (.st [(0, 1, false, .int), (1, 1, false, .int)]))]) (.t 32) (.t 35)), p_ 34 37 (.pick (.t 31) (.t 36) (.c (.bool false))), p_ 35 38 (m_ 37), cg_ 36 39 38 true 11 [], p_ 37 40 (.pick (.t 38) (.t 39) (.c (.bool false))), p_ 38 2 (m_ 40)]) .ret))
theorem ft_nil_ok : chkF Tryz.prog 3 ft_nil = true := by kernel_rfl
structure A_nil where
  d : ID
structure R_nil where
  q : Prop
def po_nil (p : A_nil) (r : R_nil) : Prop := r.q
noncomputable def I_nil (p : A_nil) : IE := ([.agg [.sy (.int 1 p.d.client.node), .sy (.int 2 p.d.client.life), .sy (.int 3 p.d.seq), .sy (.int 1 p.d.depth), .sy (.int 1 p.d.p0.group), .sy (.int 1 p.d.p0.index), .sy (.int 1 p.d.p1.group), .sy (.int 1 p.d.p1.index), .sy (.int 1 p.d.p2.group), .sy (.int 1 p.d.p2.index)]], .leaf, 0)
noncomputable def out_nil (p : A_nil) (K : KE) : Bool := allB fun r : R_nil => iP (po_nil p r) (K (.sy (.bool r.q)) .leaf 0) true
theorem fin_nil {p : A_nil} {K : KE} (hK : out_nil p K = true) (r : R_nil) (h : po_nil p r) : K (.sy (.bool r.q)) .leaf 0 = true := ifB_use h (allB_ok hK r)
theorem vf_nil (p : A_nil) (K : KE) (hK : out_nil p K = true) : (funE 0 (cfT nat_knows) noLp 600 ft_nil (I_nil p).1 (I_nil p).2.1 (I_nil p).2.2 K) = true := by
  refine Eq.trans (b := (let z0 : Bool := (K (.bool false) .leaf 0); iP (([] : List UInt8) = (([] : List Nat).map UInt8.ofNat)) (iP (([] : List UInt8) = (([] : List Nat).map UInt8.ofNat)) (iP (([] : List UInt8) = (([] : List Nat).map UInt8.ofNat)) (mP (([] : List UInt8).length + ([] : List UInt8).length ≤ 9223372036854775807) (iP ((([] : List UInt8) ++ ([] : List UInt8)) = (([] : List Nat).map UInt8.ofNat)) (iP (([] : List UInt8) = (([] : List Nat).map UInt8.ofNat)) (iP (([] : List UInt8) = (([] : List Nat).map UInt8.ofNat)) (must (mP (((.int 3 p.d.seq) : SY) = (.int 3 p.d.seq)) (mP (((.int 1 p.d.depth) : SY) = (.int 1 p.d.depth)) (mP (((.int 3 p.d.seq) : SY) = (.int 3 p.d.seq)) (mP (((.int 1 p.d.depth) : SY) = (.int 1 p.d.depth)) (must (qL [qI 1 p.d.client.node, qI 2 p.d.client.life, qI 3 p.d.seq, qI 1 p.d.depth, qI 1 p.d.p0.group, qI 1 p.d.p0.index, qI 1 p.d.p1.group, qI 1 p.d.p1.index, qI 1 p.d.p2.group, qI 1 p.d.p2.index]) (must (mP (((.int 3 p.d.seq) : SY) = (.int 3 p.d.seq)) (mP (((.int 1 p.d.depth) : SY) = (.int 1 p.d.depth)) (mP (((.int 3 p.d.seq) : SY) = (.int 3 p.d.seq)) (mP (((.int 1 p.d.depth) : SY) = (.int 1 p.d.depth)) (must (qL [qI 1 p.d.client.node, qI 2 p.d.client.life, qI 3 p.d.seq, qI 1 p.d.depth, qI 1 p.d.p0.group, qI 1 p.d.p0.index, qI 1 p.d.p1.group, qI 1 p.d.p1.index, qI 1 p.d.p2.group, qI 1 p.d.p2.index]) (iP (p.d.client.node = p.d.client.node) (iP (p.d.client.life = p.d.client.life) (iP (p.d.seq = p.d.seq) (iP (p.d.depth = p.d.depth) (iP (p.d.p0.group = p.d.p0.group) (iP (p.d.p0.index = p.d.p0.index) (iP (p.d.p1.group = p.d.p1.group) (iP (p.d.p1.index = p.d.p1.index) (iP (p.d.p2.group = p.d.p2.group) (iP (p.d.p2.index = p.d.p2.index) (exB fun p1 : A_knows => mP (([], .leaf, 0) = I_knows p1) (allB fun r1 : R_knows => iP (po_knows p1 r1) (K (.sy (.bool r1.q)) .leaf 0) true)) z0) z0) z0) z0) z0) z0) z0) z0) z0) z0)))))) (must (qL [qI 1 p.d.client.node, qI 2 p.d.client.life]) (mP (((.int 3 p.d.seq) : SY) = (.int 3 p.d.seq)) (mP (((.int 1 p.d.depth) : SY) = (.int 1 p.d.depth)) (mP (((.int 3 p.d.seq) : SY) = (.int 3 p.d.seq)) (mP (((.int 1 p.d.depth) : SY) = (.int 1 p.d.depth)) (must (qL [qI 1 p.d.client.node, qI 2 p.d.client.life, qI 3 p.d.seq, qI 1 p.d.depth, qI 1 p.d.p0.group, qI 1 p.d.p0.index, qI 1 p.d.p1.group, qI 1 p.d.p1.index, qI 1 p.d.p2.group, qI 1 p.d.p2.index]) (iP (p.d.client.node = p.d.client.node) (iP (p.d.client.life = p.d.client.life) (iP (p.d.seq = p.d.seq) (iP (p.d.depth = p.d.depth) (iP (p.d.p0.group = p.d.p0.group) (iP (p.d.p0.index = p.d.p0.index) (iP (p.d.p1.group = p.d.p1.group) (iP (p.d.p1.index = p.d.p1.index) (iP (p.d.p2.group = p.d.p2.group) (iP (p.d.p2.index = p.d.p2.index) (exB fun p2 : A_knows => mP (([], .leaf, 0) = I_knows p2) (allB fun r2 : R_knows => iP (po_knows p2 r2) (K (.sy (.bool r2.q)) .leaf 0) true)) z0) z0) z0) z0) z0) z0) z0) z0) z0) z0))))))))))))) (must (qL [qI 1 p.d.client.node, qI 2 p.d.client.life]) (mP (((.int 3 p.d.seq) : SY) = (.int 3 p.d.seq)) (mP (((.int 1 p.d.depth) : SY) = (.int 1 p.d.depth)) (mP (((.int 3 p.d.seq) : SY) = (.int 3 p.d.seq)) (mP (((.int 1 p.d.depth) : SY) = (.int 1 p.d.depth)) (must (qL [qI 1 p.d.client.node, qI 2 p.d.client.life, qI 3 p.d.seq, qI 1 p.d.depth, qI 1 p.d.p0.group, qI 1 p.d.p0.index, qI 1 p.d.p1.group, qI 1 p.d.p1.index, qI 1 p.d.p2.group, qI 1 p.d.p2.index]) (must (mP (((.int 3 p.d.seq) : SY) = (.int 3 p.d.seq)) (mP (((.int 1 p.d.depth) : SY) = (.int 1 p.d.depth)) (mP (((.int 3 p.d.seq) : SY) = (.int 3 p.d.seq)) (mP (((.int 1 p.d.depth) : SY) = (.int 1 p.d.depth)) (must (qL [qI 1 p.d.client.node, qI 2 p.d.client.life, qI 3 p.d.seq, qI 1 p.d.depth, qI 1 p.d.p0.group, qI 1 p.d.p0.index, qI 1 p.d.p1.group, qI 1 p.d.p1.index, qI 1 p.d.p2.group, qI 1 p.d.p2.index]) (iP (p.d.client.node = p.d.client.node) (iP (p.d.client.life = p.d.client.life) (iP (p.d.seq = p.d.seq) (iP (p.d.depth = p.d.depth) (iP (p.d.p0.group = p.d.p0.group) (iP (p.d.p0.index = p.d.p0.index) (iP (p.d.p1.group = p.d.p1.group) (iP (p.d.p1.index = p.d.p1.index) (iP (p.d.p2.group = p.d.p2.group) (iP (p.d.p2.index = p.d.p2.index) (exB fun p3 : A_knows => mP (([], .leaf, 0) = I_knows p3) (allB fun r3 : R_knows => iP (po_knows p3 r3) (K (.sy (.bool r3.q)) .leaf 0) true)) z0) z0) z0) z0) z0) z0) z0) z0) z0) z0)))))) (must (qL [qI 1 p.d.client.node, qI 2 p.d.client.life]) (mP (((.int 3 p.d.seq) : SY) = (.int 3 p.d.seq)) (mP (((.int 1 p.d.depth) : SY) = (.int 1 p.d.depth)) (mP (((.int 3 p.d.seq) : SY) = (.int 3 p.d.seq)) (mP (((.int 1 p.d.depth) : SY) = (.int 1 p.d.depth)) (must (qL [qI 1 p.d.client.node, qI 2 p.d.client.life, qI 3 p.d.seq, qI 1 p.d.depth, qI 1 p.d.p0.group, qI 1 p.d.p0.index, qI 1 p.d.p1.group, qI 1 p.d.p1.index, qI 1 p.d.p2.group, qI 1 p.d.p2.index]) (iP (p.d.client.node = p.d.client.node) (iP (p.d.client.life = p.d.client.life) (iP (p.d.seq = p.d.seq) (iP (p.d.depth = p.d.depth) (iP (p.d.p0.group = p.d.p0.group) (iP (p.d.p0.index = p.d.p0.index) (iP (p.d.p1.group = p.d.p1.group) (iP (p.d.p1.index = p.d.p1.index) (iP (p.d.p2.group = p.d.p2.group) (iP (p.d.p2.index = p.d.p2.index) (exB fun p4 : A_knows => mP (([], .leaf, 0) = I_knows p4) (allB fun r4 : R_knows => iP (po_knows p4 r4) (K (.sy (.bool r4.q)) .leaf 0) true)) z0) z0) z0) z0) z0) z0) z0) z0) z0) z0))))))))))))))) z0) z0) z0)) z0) z0) z0)) (by kernel_rfl) ?_
  refine iI (fun hc1 => ?_) (fun hc1 => ?_)
  refine iI (fun hc2 => ?_) (fun hc2 => ?_)
  refine iI (fun hc3 => ?_) (fun hc3 => ?_)
  refine mI (by decide +kernel) ?_
  refine iI (fun hc4 => ?_) (fun hc4 => ?_)
  refine iI (fun hc5 => ?_) (fun hc5 => ?_)
  refine iI (fun hc6 => ?_) (fun hc6 => ?_)
  refine must_mk ?_ ?_
  refine mI (rfl) (mI (rfl) (mI (rfl) (mI (rfl) ?_)))
  refine must_mk (by simp [qL, qI, qS, qY, prB]) ?_
  refine must_mk ?_ ?_
  refine mI (rfl) (mI (rfl) (mI (rfl) (mI (rfl) ?_)))
  refine must_mk (by simp [qL, qI, qS, qY, prB]) ?_
  refine iI (fun hc7 => ?_) (fun hc7 => ?_)
  refine iI (fun hc8 => ?_) (fun hc8 => ?_)
  refine iI (fun hc9 => ?_) (fun hc9 => ?_)
  refine iI (fun hc10 => ?_) (fun hc10 => ?_)
  refine iI (fun hc11 => ?_) (fun hc11 => ?_)
  refine iI (fun hc12 => ?_) (fun hc12 => ?_)
  refine iI (fun hc13 => ?_) (fun hc13 => ?_)
  refine iI (fun hc14 => ?_) (fun hc14 => ?_)
  refine iI (fun hc15 => ?_) (fun hc15 => ?_)
  refine iI (fun hc16 => ?_) (fun hc16 => ?_)
  refine callR ⟨⟩ rfl fun r1 hi17 => ?_
  dsimp only [po_knows] at hi17
  exact fin_nil hK ⟨r1.q⟩ (by dsimp only [po_nil] <;> (first | exact rfl | trivial | assumption | exact hi1))
  exfalso ; first | contradiction | exact absurd rfl (by assumption) | omega
  exfalso ; first | contradiction | exact absurd rfl (by assumption) | omega
  exfalso ; first | contradiction | exact absurd rfl (by assumption) | omega
  exfalso ; first | contradiction | exact absurd rfl (by assumption) | omega
  exfalso ; first | contradiction | exact absurd rfl (by assumption) | omega
  exfalso ; first | contradiction | exact absurd rfl (by assumption) | omega
  exfalso ; first | contradiction | exact absurd rfl (by assumption) | omega
  exfalso ; first | contradiction | exact absurd rfl (by assumption) | omega
  exfalso ; first | contradiction | exact absurd rfl (by assumption) | omega
  exfalso ; first | contradiction | exact absurd rfl (by assumption) | omega
  refine must_mk (by simp [qL, qI, qS, qY, prB]) ?_
  refine mI (rfl) (mI (rfl) (mI (rfl) (mI (rfl) ?_)))
  refine must_mk (by simp [qL, qI, qS, qY, prB]) ?_
  refine iI (fun hc18 => ?_) (fun hc18 => ?_)
  refine iI (fun hc19 => ?_) (fun hc19 => ?_)
  refine iI (fun hc20 => ?_) (fun hc20 => ?_)
  refine iI (fun hc21 => ?_) (fun hc21 => ?_)
  refine iI (fun hc22 => ?_) (fun hc22 => ?_)
  refine iI (fun hc23 => ?_) (fun hc23 => ?_)
  refine iI (fun hc24 => ?_) (fun hc24 => ?_)
  refine iI (fun hc25 => ?_) (fun hc25 => ?_)
  refine iI (fun hc26 => ?_) (fun hc26 => ?_)
  refine iI (fun hc27 => ?_) (fun hc27 => ?_)
  refine callR ⟨⟩ rfl fun r2 hi28 => ?_
  dsimp only [po_knows] at hi28
  exact fin_nil hK ⟨r2.q⟩ (by dsimp only [po_nil] <;> (first | exact rfl | trivial | assumption | exact hi1))
  exfalso ; first | contradiction | exact absurd rfl (by assumption) | omega
  exfalso ; first | contradiction | exact absurd rfl (by assumption) | omega
  exfalso ; first | contradiction | exact absurd rfl (by assumption) | omega
  exfalso ; first | contradiction | exact absurd rfl (by assumption) | omega
  exfalso ; first | contradiction | exact absurd rfl (by assumption) | omega
  exfalso ; first | contradiction | exact absurd rfl (by assumption) | omega
  exfalso ; first | contradiction | exact absurd rfl (by assumption) | omega
  exfalso ; first | contradiction | exact absurd rfl (by assumption) | omega
  exfalso ; first | contradiction | exact absurd rfl (by assumption) | omega
  exfalso ; first | contradiction | exact absurd rfl (by assumption) | omega
  refine must_mk (by simp [qL, qI, qS, qY, prB]) ?_
  refine mI (rfl) (mI (rfl) (mI (rfl) (mI (rfl) ?_)))
  refine must_mk (by simp [qL, qI, qS, qY, prB]) ?_
  refine must_mk ?_ ?_
  refine mI (rfl) (mI (rfl) (mI (rfl) (mI (rfl) ?_)))
  refine must_mk (by simp [qL, qI, qS, qY, prB]) ?_
  refine iI (fun hc29 => ?_) (fun hc29 => ?_)
  refine iI (fun hc30 => ?_) (fun hc30 => ?_)
  refine iI (fun hc31 => ?_) (fun hc31 => ?_)
  refine iI (fun hc32 => ?_) (fun hc32 => ?_)
  refine iI (fun hc33 => ?_) (fun hc33 => ?_)
  refine iI (fun hc34 => ?_) (fun hc34 => ?_)
  refine iI (fun hc35 => ?_) (fun hc35 => ?_)
  refine iI (fun hc36 => ?_) (fun hc36 => ?_)
  refine iI (fun hc37 => ?_) (fun hc37 => ?_)
  refine iI (fun hc38 => ?_) (fun hc38 => ?_)
  refine callR ⟨⟩ rfl fun r3 hi39 => ?_
  dsimp only [po_knows] at hi39
  exact fin_nil hK ⟨r3.q⟩ (by dsimp only [po_nil] <;> (first | exact rfl | trivial | assumption | exact hi1))
  exfalso ; first | contradiction | exact absurd rfl (by assumption) | omega
  exfalso ; first | contradiction | exact absurd rfl (by assumption) | omega
  exfalso ; first | contradiction | exact absurd rfl (by assumption) | omega
  exfalso ; first | contradiction | exact absurd rfl (by assumption) | omega
  exfalso ; first | contradiction | exact absurd rfl (by assumption) | omega
  exfalso ; first | contradiction | exact absurd rfl (by assumption) | omega
  exfalso ; first | contradiction | exact absurd rfl (by assumption) | omega
  exfalso ; first | contradiction | exact absurd rfl (by assumption) | omega
  exfalso ; first | contradiction | exact absurd rfl (by assumption) | omega
  exfalso ; first | contradiction | exact absurd rfl (by assumption) | omega
  refine must_mk (by simp [qL, qI, qS, qY, prB]) ?_
  refine mI (rfl) (mI (rfl) (mI (rfl) (mI (rfl) ?_)))
  refine must_mk (by simp [qL, qI, qS, qY, prB]) ?_
  refine iI (fun hc40 => ?_) (fun hc40 => ?_)
  refine iI (fun hc41 => ?_) (fun hc41 => ?_)
  refine iI (fun hc42 => ?_) (fun hc42 => ?_)
  refine iI (fun hc43 => ?_) (fun hc43 => ?_)
  refine iI (fun hc44 => ?_) (fun hc44 => ?_)
  refine iI (fun hc45 => ?_) (fun hc45 => ?_)
  refine iI (fun hc46 => ?_) (fun hc46 => ?_)
  refine iI (fun hc47 => ?_) (fun hc47 => ?_)
  refine iI (fun hc48 => ?_) (fun hc48 => ?_)
  refine iI (fun hc49 => ?_) (fun hc49 => ?_)
  refine callR ⟨⟩ rfl fun r4 hi50 => ?_
  dsimp only [po_knows] at hi50
  exact fin_nil hK ⟨r4.q⟩ (by dsimp only [po_nil] <;> (first | exact rfl | trivial | assumption | exact hi1))
  exfalso ; first | contradiction | exact absurd rfl (by assumption) | omega
  exfalso ; first | contradiction | exact absurd rfl (by assumption) | omega
  exfalso ; first | contradiction | exact absurd rfl (by assumption) | omega
  exfalso ; first | contradiction | exact absurd rfl (by assumption) | omega
  exfalso ; first | contradiction | exact absurd rfl (by assumption) | omega
  exfalso ; first | contradiction | exact absurd rfl (by assumption) | omega
  exfalso ; first | contradiction | exact absurd rfl (by assumption) | omega
  exfalso ; first | contradiction | exact absurd rfl (by assumption) | omega
  exfalso ; first | contradiction | exact absurd rfl (by assumption) | omega
  exfalso ; first | contradiction | exact absurd rfl (by assumption) | omega
  exfalso ; first | contradiction | exact absurd rfl (by assumption) | omega
  exfalso ; first | contradiction | exact absurd rfl (by assumption) | omega
  exfalso ; first | contradiction | exact absurd rfl (by assumption) | omega
  exfalso ; first | contradiction | exact absurd rfl (by assumption) | omega
  exfalso ; first | contradiction | exact absurd rfl (by assumption) | omega
  exfalso ; first | contradiction | exact absurd rfl (by assumption) | omega
theorem na_nil : NatE Tryz.prog 3 0 (esOf I_nil out_nil) := (natE_pn (f := 3) (k := 0) (cfT_ok nat_knows_ok) ft_nil_ok (by rfl) (by rfl) vf_nil)
end Go.Proofs.Tryz
namespace Go.Proofs.YtecafdjefholfaaGreatDoor.ledgerNil
open Go Go.RowKit Go.Eng Go.Sy Go.ChangeShapes Go.WideShapes Go.ChangeAt
set_option linter.unusedVariables false
set_option maxRecDepth 100000
theorem leafsD : Leafs Tryz.prog 20 30 = some [5, 22, 25, 5, 5, 5, 5, 5, 5, 5] := by kernel_rfl
theorem own : ownKnob Tryz.prog.godebug = none := by kernel_rfl
theorem laidOut : laidOutB Tryz.prog = true := by kernel_rfl
theorem tied_of_laid {W : World} (h : laidMet Tryz.prog Rows.ledgerNilRow.laid W) : Tied (GS.of W).M := by
  obtain ⟨ps, h, _⟩ := h
  obtain ⟨_, _, _, _, _, _, _, _, _, _, h, _⟩ := h
  obtain ⟨_, _, _, _, _, _, _, _, _, _, h, _⟩ := h
  obtain ⟨g, t, cs, fuel, p, q, hg, ht, hvar, hd, _, _⟩ := h
  obtain rfl := Option.some.inj ((show Tryz.prog.globalNamed "internal/strconv.uint64pow10" = some 0 by kernel_rfl).symm.trans hg)
  obtain rfl := Option.some.inj ((show (Tryz.prog.globals[0]?).map (·.type) = some 278 by kernel_rfl).symm.trans ht)
  have e := Lib.cells_of_tab (zs := Lib.pow10Tab) (k := .u64) Tryz.underlying278 Tryz.underlying36 (by kernel_rfl) (by kernel_rfl) hd
  simp only [World.var?, hg, Option.bind_some] at hvar
  rcases hh : W.heap[0]? with _ | o
  · simp [hh] at hvar
  · cases o <;> simp [hh] at hvar
    rename_i c T fz
    subst hvar
    refine ⟨T, fz, ?_⟩
    simp only [GS.of, hh]
    rw [← e]
noncomputable def laidWorld (os : Os) : World :=
  let w0 := World.holding Tryz.prog os ⟨#[], #[], []⟩
  { w0 with heap := (((w0.heap.modify 2 fun
      | .cells _ t frozen => .cells #[.int .u8 0, .int .u8 1, .int .u8 28, .int .u8 2, .int .u8 29, .int .u8 14, .int .u8 24, .int .u8 3, .int .u8 30, .int .u8 22, .int .u8 20, .int .u8 15, .int .u8 25, .int .u8 17, .int .u8 4, .int .u8 8, .int .u8 31, .int .u8 27, .int .u8 13, .int .u8 23, .int .u8 21, .int .u8 19, .int .u8 16, .int .u8 7, .int .u8 26, .int .u8 12, .int .u8 18, .int .u8 6, .int .u8 11, .int .u8 5, .int .u8 10, .int .u8 9] t frozen
      | o => o).modify 3 fun
      | .cells _ t frozen => .cells #[.int .u8 0, .int .u8 1, .int .u8 56, .int .u8 2, .int .u8 57, .int .u8 49, .int .u8 28, .int .u8 3, .int .u8 61, .int .u8 58, .int .u8 42, .int .u8 50, .int .u8 38, .int .u8 29, .int .u8 17, .int .u8 4, .int .u8 62, .int .u8 47, .int .u8 59, .int .u8 36, .int .u8 45, .int .u8 43, .int .u8 51, .int .u8 22, .int .u8 53, .int .u8 39, .int .u8 33, .int .u8 30, .int .u8 24, .int .u8 18, .int .u8 12, .int .u8 5, .int .u8 63, .int .u8 55, .int .u8 48, .int .u8 27, .int .u8 60, .int .u8 41, .int .u8 37, .int .u8 16, .int .u8 46, .int .u8 35, .int .u8 44, .int .u8 21, .int .u8 52, .int .u8 32, .int .u8 23, .int .u8 11, .int .u8 54, .int .u8 26, .int .u8 40, .int .u8 15, .int .u8 34, .int .u8 20, .int .u8 31, .int .u8 10, .int .u8 25, .int .u8 14, .int .u8 19, .int .u8 9, .int .u8 13, .int .u8 8, .int .u8 7, .int .u8 6] t frozen
      | o => o).modify 0 fun
      | .cells _ t frozen => .cells #[.int .u64 1, .int .u64 10, .int .u64 100, .int .u64 1000, .int .u64 10000, .int .u64 100000, .int .u64 1000000, .int .u64 10000000, .int .u64 100000000, .int .u64 1000000000, .int .u64 10000000000, .int .u64 100000000000, .int .u64 1000000000000, .int .u64 10000000000000, .int .u64 100000000000000, .int .u64 1000000000000000, .int .u64 10000000000000000, .int .u64 100000000000000000, .int .u64 1000000000000000000, .int .u64 10000000000000000000] t frozen
      | o => o) }
theorem laidWorld_met (os : Os) (args : Array Value) : laidMet Tryz.prog Rows.ledgerNilRow.laid ((laidWorld os).forCall (fun _ _ => 0) ⟨#[], args, []⟩).memory :=
  laidMet_of_run' 8 (by kernel_rfl) (by kernel_rfl)
theorem walk (z0 z1 z2 z3 z4 z5 z6 z7 z8 z9 : Int) (w : World) (ht : Tied (GS.of w).M) : Calls Tryz.prog 3 #[.agg #[.int .u8 z0, .int .u16 z1, .int .u32 z2, .int .u8 z3, .int .u8 z4, .int .u8 z5, .int .u8 z6, .int .u8 z7, .int .u8 z8, .int .u8 z9]] w (Ret (GS.of w) [] fun _ v => v = .bool true) := by
  let K : AV → T → Nat → Bool := fun v _ _ => prB (∃ q : Prop, v = .sy (.bool q) ∧ q)
  have hE : EOk ⟨fun _ => .bool true, (GS.of w).M⟩ := ⟨fun i => rfl, ht⟩
  have hd : denL ⟨fun _ => .bool true, (GS.of w).M⟩ (fun _ => none) [.agg [.sy (.int 1 z0), .sy (.int 2 z1), .sy (.int 3 z2), .sy (.int 1 z3), .sy (.int 1 z4), .sy (.int 1 z5), .sy (.int 1 z6), .sy (.int 1 z7), .sy (.int 1 z8), .sy (.int 1 z9)]] = some [.agg #[.int .u8 z0, .int .u16 z1, .int .u32 z2, .int .u8 z3, .int .u8 z4, .int .u8 z5, .int .u8 z6, .int .u8 z7, .int .u8 z8, .int .u8 z9]] := by
    simp only [denL, den, denS, valP, kOf, denP]
  refine Go.Proofs.Tryz.na_nil [.agg [.sy (.int 1 z0), .sy (.int 2 z1), .sy (.int 3 z2), .sy (.int 1 z3), .sy (.int 1 z4), .sy (.int 1 z5), .sy (.int 1 z6), .sy (.int 1 z7), .sy (.int 1 z8), .sy (.int 1 z9)]] [.agg #[.int .u8 z0, .int .u16 z1, .int .u32 z2, .int .u8 z3, .int .u8 z4, .int .u8 z5, .int .u8 z6, .int .u8 z7, .int .u8 z8, .int .u8 z9]] ⟨fun _ => .bool true, (GS.of w).M⟩ (fun _ => none) (GS.of w) [] .leaf 0 w K _ hE (Sim.start rfl (Holds.start w)) hd ?_ ?_
  · exact exB_mk ⟨⟨⟨z0, z1⟩, z2, z3, ⟨z4, z5⟩, ⟨z6, z7⟩, ⟨z8, z9⟩⟩⟩ (mustP rfl (allB_mk fun r => Go.Proofs.Tryz.iI (fun hz => prB_true.2 ⟨_, rfl, hz⟩) (fun _ => rfl)))
  · intro v M' nx' E' ρ' w' z hk h1 h2 h3 h4 h5
    obtain ⟨G', g1, g2, g3⟩ := h4.holds
    refine ⟨z, G', rfl, g1, g2, ?_⟩
    obtain ⟨q, rfl, hq⟩ := prB_true.1 hk
    have h6 : some (Value.bool (prB q)) = some z := h5.symm ▸ by simp [den, denS, denP, valP]
    rw [prB_true.2 hq] at h6
    exact (Option.some.inj h6).symm
theorem lifted (os : Os) (started : os.Started) (H : Type) (enc : TypeId × Value → H) :
    ReturnsInHanded {} Tryz.checked os 3 .any (fun w args => (Rows.ledgerNilSpec.pre enc Tryz.prog Tryz.f3 Rows.ledgerNilRow.domain false w args ∧ laidMet Tryz.prog Rows.ledgerNilRow.laid w) ∧ sizedMet enc Tryz.prog Tryz.f3 (OpenSpec.ofChange Rows.ledgerNilSpec) false w args)
      (Rows.ledgerNilSpec.post enc Tryz.prog Tryz.f3 false true false false) := by
  refine returnsInHanded_of_change_and (C := Tryz.checked) (X := fun w _ => laidMet Tryz.prog Rows.ledgerNilRow.laid w) (fun _ _ _ hh h => h.of_heap hh) own started (by kernel_rfl) Tryz.func3
    (ChangeSpec.witness_at (enc := enc) (C := Tryz.checked) (os := os) (X := fun w _ => laidMet Tryz.prog Rows.ledgerNilRow.laid w) false (laidWorld os) #[.agg #[.int .u8 0, .int .u16 0, .int .u32 0, .int .u8 0, .int .u8 0, .int .u8 0, .int .u8 0, .int .u8 0, .int .u8 0, .int .u8 0]] 8 rfl (by kernel_rfl) (by kernel_rfl) (by kernel_rfl) (by kernel_rfl) (by kernel_rfl) (laidWorld_met os _)) ?_
  intro W base args ds gs before hval0 hW _ hsz hL _
  have hval : ∀ (j : Nat) t v, Tryz.f3.params[j]? = some t → args[j]? = some v → Value.okWide Tryz.prog W .any base t v := hval0
  have hW' := hW
  obtain ⟨p, q, hA0, hV, rfl, hfz, hnd⟩ := hW
  have hA : DataW.TrodAll enc Tryz.prog W 0 (fun _ => true) true Tryz.f3.params.toList args.toList ds p := hA0
  rw [Tryz.params3] at hA hval
  obtain ⟨v0, vs0, d0, ds0, p0, q0, hargs, rfl, rfl, h0, r0⟩ := trodAll_cons hA
  obtain ⟨rfl, rfl, rfl⟩ := trodAll_nil r0
  obtain rfl : args = #[v0] := by cases args; simp_all
  obtain ⟨rfl, rfl⟩ := trodVars_none hV
  obtain ⟨cs, rfl, hsz⟩ := okWide_struct Tryz.underlying30 (hval 0 30 v0 rfl rfl)
  have j0 := h0
  have lt0 : ∀ x ∈ p0, x.block < W.heap.size := by obtain ⟨m, hm⟩ := j0; exact DataW.trod_lt m _ _ _ hm
  obtain ⟨fuel0, hf0⟩ := h0
  obtain ⟨hlen, hleaf⟩ := leafs_trod 20 30 _ leafsD _ _ _ hf0
  obtain ⟨c0, c1, c2, c3, c4, c5, c6, c7, c8, c9, hcs⟩ : ∃ c0 c1 c2 c3 c4 c5 c6 c7 c8 c9, Value.cells (.agg cs) = #[c0, c1, c2, c3, c4, c5, c6, c7, c8, c9] := by
    match h : (Value.cells (.agg cs)).toList, hlen with
    | [c0, c1, c2, c3, c4, c5, c6, c7, c8, c9], _ => exact ⟨c0, c1, c2, c3, c4, c5, c6, c7, c8, c9, Array.toList_inj.1 h⟩
  have hcs2 : cs = #[c0, c1, c2, c3, c4, c5, c6, c7, c8, c9] := hcs
  rw [hcs] at hleaf
  obtain ⟨z0, rfl, w0⟩ := leaf_int Tryz.underlying5 (hleaf 0 _ _ rfl rfl)
  obtain ⟨z1, rfl, w1⟩ := leaf_int Tryz.underlying22 (hleaf 1 _ _ rfl rfl)
  obtain ⟨z2, rfl, w2⟩ := leaf_int Tryz.underlying25 (hleaf 2 _ _ rfl rfl)
  obtain ⟨z3, rfl, w3⟩ := leaf_int Tryz.underlying5 (hleaf 3 _ _ rfl rfl)
  obtain ⟨z4, rfl, w4⟩ := leaf_int Tryz.underlying5 (hleaf 4 _ _ rfl rfl)
  obtain ⟨z5, rfl, w5⟩ := leaf_int Tryz.underlying5 (hleaf 5 _ _ rfl rfl)
  obtain ⟨z6, rfl, w6⟩ := leaf_int Tryz.underlying5 (hleaf 6 _ _ rfl rfl)
  obtain ⟨z7, rfl, w7⟩ := leaf_int Tryz.underlying5 (hleaf 7 _ _ rfl rfl)
  obtain ⟨z8, rfl, w8⟩ := leaf_int Tryz.underlying5 (hleaf 8 _ _ rfl rfl)
  obtain ⟨z9, rfl, w9⟩ := leaf_int Tryz.underlying5 (hleaf 9 _ _ rfl rfl)
  subst hcs2
  clear hA0 hval0
  simp only [List.append_nil] at hW'
  have hw := walk z0 z1 z2 z3 z4 z5 z6 z7 z8 z9 W (tied_of_laid hL)
  refine hw.mono fun e W2 ⟨v, G2, he, hG, hh, hv⟩ => ?_
  subst he; subst hv
  have bel : Below W.heap.size W W2 := Holds.below hG hh
  exact ⟨_, rfl, _, _, _, [], _, [], hW', trodAll_mk1 (shut_bool Tryz.underlying4 _), (trodAll_cons_mk (Below.trod laidOut (by kernel_rfl) (of_decide_eq_true (by kernel_rfl)) j0 bel lt0) trodAll_mk0), rfl, bel.frame _, fun h => by cases h⟩
theorem over : Rows.ledgerNilRow.holds Tryz.pinned (OpenSpec.ofChange Rows.ledgerNilSpec) :=
  OpenClaim.holds_of_wide 3 Tryz.f3 rfl rfl rfl rfl rfl rfl rfl ⟨rfl, rfl, rfl, rfl, rfl⟩ rfl rfl rfl rfl rfl (by kernel_rfl) Tryz.func3 (by kernel_rfl)
    (of_decide_eq_true (by kernel_rfl)) (by unfold Func.isWrapper; first | (rw [if_pos (by decide +kernel)]; kernel_rfl) | (rw [if_neg (by decide +kernel)]; exact ⟨rfl, rfl⟩))
    (fun os started H enc _ => lifted os started H enc)
theorem card_holds : Rows.LedgerNilCardSaid :=
  Claim7.holds_tied_plain_at .later [] [.data, .data, .data] true (true, "c119568765659c1fe0e10392193abf51374a78747e2651c32463451d3f185676") true over (fun _ h => by cases h) (by kernel_rfl) (fun _ h => by cases h) ledgerNil_row_tie rfl ⟨rfl, rfl⟩ (by kernel_rfl) rfl
    (fun f fn hf hfn => by
      obtain rfl : f = 3 := Option.some.inj ((show Tryz.prog.funcNamed "gemot/gemotlaw28.LedgerNil" = some 3 by kernel_rfl).symm.trans hf) |>.symm
      obtain rfl : fn = Tryz.f3 := (Option.some.inj (Tryz.func3.symm.trans hfn)).symm
      exact ⟨by kernel_rfl, fun j t ht => by
        rw [Tryz.params3] at ht
        have ht2 := List.mem_of_getElem? (by simpa using ht)
        simp only [List.mem_cons, List.not_mem_nil, or_false, or_self] at ht2
        subst ht2
        exact (show Tryz.prog.wantsStandIn 30 = false by kernel_rfl)
        ⟩)
    (by kernel_rfl)
#print axioms card_holds
end Go.Proofs.YtecafdjefholfaaGreatDoor.ledgerNil