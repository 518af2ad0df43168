/- Walks of the program's functions, printed by a program. No condition beyond each theorem's own. -/
import Derived.Test.YtediojjcoohhoaaDoorChecked
import Derived.Test.YtediojjcoohhoaaDoorDat
import Derived.Test.YtediojjcoohhoaaDoorShelf
import Derived.Test.YtediojjcoohhoaaDoorW1
import Derived.Test.YtediojjcoohhoaaDoorW2
import Derived.Test.YtediojjcoohhoaaDoorW3
import Derived.Test.YtediojjcoohhoaaDoorW4
import Derived.KernelRfl
namespace Go.Proofs.YtediojjcoohhoaaDoor
open Go Go.RowKit Go.Eng
set_option linter.unusedVariables false
set_option linter.unnecessarySimpa false
set_option maxHeartbeats 4000000
set_option maxRecDepth 100000
theorem ag3 : isAg Tryd.prog 3 = some false := by kernel_rfl
theorem ag33 : isAg Tryd.prog 33 = some true := by kernel_rfl
theorem ag43 : isAg Tryd.prog 43 = some true := by kernel_rfl
theorem bldT84 : liesAt Tryd.prog Tryd.prog.depth 84 (2 / Tryd.prog.cellsOf 84) 0 82 1 = true := by kernel_rfl
theorem off35_0 : fOff Tryd.prog 35 0 = some 0 := by kernel_rfl
theorem off35_1 : fOff Tryd.prog 35 1 = some 1 := by kernel_rfl
theorem off35_2 : fOff Tryd.prog 35 2 = some 11 := by kernel_rfl
theorem off35_3 : fOff Tryd.prog 35 3 = some 12 := by kernel_rfl
theorem off43_0 : fOff Tryd.prog 43 0 = some 0 := by kernel_rfl
theorem off43_1 : fOff Tryd.prog 43 1 = some 1 := by kernel_rfl
theorem off43_2 : fOff Tryd.prog 43 2 = some 11 := by kernel_rfl
theorem off43_3 : fOff Tryd.prog 43 3 = some 12 := by kernel_rfl
theorem ok24 : okF Tryd.prog 24 = some (false, false) := by kernel_rfl
theorem ok25 : okF Tryd.prog 25 = some (false, false) := by kernel_rfl
theorem ok27 : okF Tryd.prog 27 = some (false, false) := by kernel_rfl
theorem ok28 : okF Tryd.prog 28 = some (false, false) := by kernel_rfl
theorem ok29 : okF Tryd.prog 29 = some (false, false) := by kernel_rfl
theorem ok30 : okF Tryd.prog 30 = some (false, false) := by kernel_rfl
theorem ok31 : okF Tryd.prog 31 = some (false, false) := by kernel_rfl
theorem sz33 : szOf Tryd.prog 33 = some 10 := by kernel_rfl
theorem sz35 : szOf Tryd.prog 35 = some 13 := by kernel_rfl
theorem sz43 : szOf Tryd.prog 43 = some 13 := by kernel_rfl
theorem und22 : Tryd.prog.underlying 22 = some (.slice 35) := by kernel_rfl
theorem und24 : Tryd.prog.underlying 24 = some (.slice 43) := by kernel_rfl
theorem zero43 : zeroC Tryd.prog 43 = some #[.int .i64 0, .int .u8 0, .int .u16 0, .int .u32 0, .int .u8 0, .int .u8 0, .int .u8 0, .int .u8 0, .int .u8 0, .int .u8 0, .int .u8 0, .int .u8 0, .int .i64 0] := by kernel_rfl
theorem zero84 : zeroC Tryd.prog 84 = some #[.pointer none, .slice none 0 0] := by kernel_rfl
theorem faults_spec (t_a : Option Addr) (t_c : Nat) (t : List Fault) {G : GS} {w : World} {F : List Chunk} (h_t : RdF encFault 13 G.M t_a t_c t) (ht : GTab G) (h_t_ok : ∀ (i : Nat) (x : Fault), t[i]? = some x → x.ok) (hn : t.length ≤ 100) (h : Holds G w F) :
    Calls Tryd.prog 8 #[.slice t_a t.length t_c] w (Ret G F fun G v => v = S (faultsText t)) := by
  refine enter (N := 30) (L := [(0, .slice t_a t.length t_c)]) rfl Tryd.func8 rfl rfl rfl (fun a0 s0 => ?_)
  refine wp_seq ?_
  refine wp_region_lit ?_
  refine q_of s0 rfl (fun _ k => o_assign (s0.ev rfl) k) (fun a1 s2 => ?_)
  refine wpList_nil ?_
  refine x_then_n ?_
  refine wp_seq ?_
  refine wp_region_lit ?_
  refine q_alloc s2 rfl h zero84 (fun a4 w6 b3 s5 h7 => ?_)
  refine wpList_nil ?_
  refine x_then_n ?_
  refine wp_seq ?_
  refine wp_seq ?_
  refine wp_region_lit ?_
  refine q_of s5 rfl (fun _ k => o_move (s5.ev rfl) k) (fun a8 s9 => ?_)
  refine q_of s9 rfl (fun _ k => o_len (s9.ev rfl) und24 k) (fun a10 s11 => ?_)
  refine q_of s11 rfl (fun _ k => o_move (s11.ev rfl) k) (fun a12 s13 => ?_)
  refine wpList_nil ?_
  refine x_then_n ?_
  refine wp_block ?_
  have hb14 : BuildC 84 b3 [] [(b3, .cells #[.pointer none, .slice none 0 0] 84 (0, 0))] := BuildC.new 84 b3
  refine q_loop (fun (q : Nat) (a : Act) (w : World) => ∃ G1 : GS, ∃ (c15 : Chunk), G.Le G1 ∧ SF 30 a [(2, S []), (3, .pointer (some ⟨b3, 0, none⟩)), (6, .slice t_a t.length t_c), (7, .int .i64 (t.length : Int)), (8, .int .i64 (q : Int))] ∧ Holds G1 w (c15 :: F) ∧ (BuildC 84 b3 (faultsText (t.take q)) c15)) (fun q => t.length - q) 0 ⟨_, [(b3, .cells #[.pointer none, .slice none 0 0] 84 (0, 0))], GS.Le.refl _, s13.sub (all_cons rfl (all_cons rfl (all_cons rfl (all_cons rfl (all_cons rfl (all_nil)))))), h7, hb14⟩ ?_
  rintro q a17 w19 ⟨G21, c15, hG22, s18, h20, hb16⟩
  have h_t := h_t.mono hG22
  have ht := ht.mono hG22
  have hG23 := (GS.Le.refl _).trans hG22
  refine wp_seq ?_
  refine wp_region_lit ?_
  refine q_of s18 rfl (fun _ k => o_lss (s18.ev rfl) (s18.ev rfl) k) (fun a24 s25 => ?_)
  refine wpList_nil ?_
  refine x_then_n ?_
  refine wp_seq ?_
  refine q_ifd s25 rfl (fun hc26 => ?_) (fun hc26 => ?_)
  ·
    refine wp_skip ?_
    refine x_then_n ?_
    refine wp_seq ?_
    refine wp_block ?_
    refine wp_seq ?_
    obtain ⟨x, hx⟩ := at_of (l := t) (k := q) (by omega)
    have hr27 : MRow G21.M (blk t_a) (ofs t_a + q * 13) [.int .i64 x.kind, .int .u8 x.id.client.node, .int .u16 x.id.client.life, .int .u32 x.id.seq, .int .u8 x.id.depth, .int .u8 x.id.p0.group, .int .u8 x.id.p0.index, .int .u8 x.id.p1.group, .int .u8 x.id.p1.index, .int .u8 x.id.p2.group, .int .u8 x.id.p2.index, .int .u8 x.group, .int .i64 x.at_] := h_t.row q x hx
    have hokx := h_t_ok q x hx
    refine wp_region_lit ?_
    refine q_of s25 rfl (fun _ k => o_idxS (s25.ev rfl) (s25.ev rfl) und24 sz43 (i := q) (by omega) (by omega) (h_t.addr (by omega)) k) (fun a28 s29 => ?_)
    refine q_of s29 rfl (fun _ k => o_loadAgg (s29.ev rfl) ag43 sz43 (cs := [.int .i64 x.kind, .int .u8 x.id.client.node, .int .u16 x.id.client.life, .int .u32 x.id.seq, .int .u8 x.id.depth, .int .u8 x.id.p0.group, .int .u8 x.id.p0.index, .int .u8 x.id.p1.group, .int .u8 x.id.p1.index, .int .u8 x.id.p2.group, .int .u8 x.id.p2.index, .int .u8 x.group, .int .i64 x.at_]) rfl (h20.rowM (cs := [.int .i64 x.kind, .int .u8 x.id.client.node, .int .u16 x.id.client.life, .int .u32 x.id.seq, .int .u8 x.id.depth, .int .u8 x.id.p0.group, .int .u8 x.id.p0.index, .int .u8 x.id.p1.group, .int .u8 x.id.p1.index, .int .u8 x.id.p2.group, .int .u8 x.id.p2.index, .int .u8 x.group, .int .i64 x.at_]) (hr27.sub 0 rfl)) k) (fun a30 s31 => ?_)
    refine q_alloc s31 rfl h20 zero43 (fun a33 w35 b32 s34 h36 => ?_)
    refine q_store s34 rfl rfl sz43 rfl h36 (j := 0) rfl rfl rfl (cl := [.int .i64 x.kind, .int .u8 x.id.client.node, .int .u16 x.id.client.life, .int .u32 x.id.seq, .int .u8 x.id.depth, .int .u8 x.id.p0.group, .int .u8 x.id.p0.index, .int .u8 x.id.p1.group, .int .u8 x.id.p1.index, .int .u8 x.id.p2.group, .int .u8 x.id.p2.index, .int .u8 x.group, .int .i64 x.at_]) (by kernel_rfl) (fun a37 w39 s38 h40 => ?_)
    have h40 : Holds _ _ ([(b32, .cells #[.int .i64 x.kind, .int .u8 x.id.client.node, .int .u16 x.id.client.life, .int .u32 x.id.seq, .int .u8 x.id.depth, .int .u8 x.id.p0.group, .int .u8 x.id.p0.index, .int .u8 x.id.p1.group, .int .u8 x.id.p1.index, .int .u8 x.id.p2.group, .int .u8 x.id.p2.index, .int .u8 x.group, .int .i64 x.at_] 43 (0, 0))] :: c15 :: F) := h40
    refine wpList_nil ?_
    refine x_then_n ?_
    obtain ⟨⟨hx1, hx2⟩, hx3, ⟨hx4, hx5⟩, ⟨hx6, hx7⟩⟩ := hokx
    have hLw := word_len x.kind
    have hLg := itoaL x.group (by constructor <;> omega)
    have hLa := itoaL x.at_ (by constructor <;> omega)
    have hLi := idText_len x.id hx3
    have hLf := faults_len_take h_t_ok q (by omega)
    have hLj : (Lib.join [word x.kind, Lib.itoa x.group, Lib.itoa x.at_, idText x.id] [32]).length ≤ 400 := Nat.le_trans (join_len _ _) (by simp only [List.map_cons, List.map_nil, List.sum_cons, List.sum_nil, List.length_cons, List.length_nil] ; omega)
    have hok : okX 30 [(2, S []), (3, .pointer (some ⟨b3, 0, none⟩)), (5, .pointer (some ⟨b32, 0, none⟩)), (6, .slice t_a t.length t_c), (7, .int .i64 (t.length : Int)), (8, .int .i64 (q : Int))] [(some 12, Fact.eq (.pointer (some ⟨b32, 0, none⟩))), (some 13, Fact.eq (.int .i64 x.kind)), (some 14, Fact.eq (S (word x.kind))), (some 15, Fact.eq (.pointer (some ⟨b32, 11, none⟩))), (some 16, Fact.eq (.int .u8 x.group)), (some 17, Fact.eq (.int .i64 x.group)), (some 18, Fact.eq (S (Lib.itoa x.group))), (some 19, Fact.eq (.pointer (some ⟨b32, 12, none⟩))), (some 20, Fact.eq (.int .i64 x.at_)), (some 21, Fact.eq (S (Lib.itoa x.at_))), (some 22, Fact.eq (.pointer (some ⟨b32, 1, none⟩))), (some 23, Fact.eq (.agg #[.int .u8 x.id.client.node, .int .u16 x.id.client.life, .int .u32 x.id.seq, .int .u8 x.id.depth, .int .u8 x.id.p0.group, .int .u8 x.id.p0.index, .int .u8 x.id.p1.group, .int .u8 x.id.p1.index, .int .u8 x.id.p2.group, .int .u8 x.id.p2.index]))] [] = true := rfl
    refine region_split 12 [1, 2, 6, 4, 5, 6, 9, 8, 9, 12, 11, 12, 13, 14] (N := 30) (L0 := [(2, S []), (3, .pointer (some ⟨b3, 0, none⟩)), (5, .pointer (some ⟨b32, 0, none⟩)), (6, .slice t_a t.length t_c), (7, .int .i64 (t.length : Int)), (8, .int .i64 (q : Int))]) (X := [(some 12, Fact.eq (.pointer (some ⟨b32, 0, none⟩))), (some 13, Fact.eq (.int .i64 x.kind)), (some 14, Fact.eq (S (word x.kind))), (some 15, Fact.eq (.pointer (some ⟨b32, 11, none⟩))), (some 16, Fact.eq (.int .u8 x.group)), (some 17, Fact.eq (.int .i64 x.group)), (some 18, Fact.eq (S (Lib.itoa x.group))), (some 19, Fact.eq (.pointer (some ⟨b32, 12, none⟩))), (some 20, Fact.eq (.int .i64 x.at_)), (some 21, Fact.eq (S (Lib.itoa x.at_))), (some 22, Fact.eq (.pointer (some ⟨b32, 1, none⟩))), (some 23, Fact.eq (.agg #[.int .u8 x.id.client.node, .int .u16 x.id.client.life, .int .u32 x.id.seq, .int .u8 x.id.depth, .int .u8 x.id.p0.group, .int .u8 x.id.p0.index, .int .u8 x.id.p1.group, .int .u8 x.id.p1.index, .int .u8 x.id.p2.group, .int .u8 x.id.p2.index]))]) (O := []) (HR := fun D a _ H => H = ([(b32, .cells #[.int .i64 x.kind, .int .u8 x.id.client.node, .int .u16 x.id.client.life, .int .u32 x.id.seq, .int .u8 x.id.depth, .int .u8 x.id.p0.group, .int .u8 x.id.p0.index, .int .u8 x.id.p1.group, .int .u8 x.id.p1.index, .int .u8 x.id.p2.group, .int .u8 x.id.p2.index, .int .u8 x.group, .int .i64 x.at_] 43 (0, 0))] :: c15 :: F)) mixed rfl rfl rfl h40 rfl (s38.sub (all_cons rfl (all_cons rfl (all_cons rfl (all_cons rfl (all_cons rfl (all_cons rfl (all_nil)))))))) (fun i k t v hi => by simp at hi) ⟨?_, ?_, ?_, ?_, ?_, ?_, ?_, ?_, ?_, ?_, ?_, ?_, trivial⟩ (fun D a w G H hall j => ?_)
    · exact step_of rfl (fun D a w G H hR j => by (have s := j.sf ; exact o_fieldAddr (s.ev rfl) off43_0 (j.did hok rfl (GS.Le.refl _) j.holds j.hr rfl)))
    · exact step_of rfl (fun D a w G H hR j => by (have hH := j.hr ; subst H ; have s := (j.sf.know _ _ (j.gotE 0 rfl (hR.was rfl 0 rfl))) ; exact o_loadOne (s.ev rfl) ag3 ((j.holds.rowI 0 0 (cs := [.int .i64 x.kind]) (o := 0) rfl rfl rfl) 0 _ rfl) (j.did hok rfl (GS.Le.refl _) j.holds j.hr rfl)))
    · exact step_of rfl (fun D a w G H hR j => by (have s := (j.sf.know _ _ (j.gotE 1 rfl (hR.was rfl 1 rfl))) ; exact o_call s rfl ok25 (word_spec x.kind (by omega) j.holds) (fun e w' ⟨v, G', he, hG, hh, hv⟩ => ⟨v, he, j.did hok rfl hG hh j.hr hv⟩)))
    · exact step_of rfl (fun D a w G H hR j => by (have s := j.sf ; exact o_fieldAddr (s.ev rfl) off43_2 (j.did hok rfl (GS.Le.refl _) j.holds j.hr rfl)))
    · exact step_of rfl (fun D a w G H hR j => by (have hH := j.hr ; subst H ; have s := (j.sf.know _ _ (j.gotE 3 rfl (hR.was rfl 3 rfl))) ; exact o_loadOne (s.ev rfl) ag5 ((j.holds.rowI 0 0 (cs := [.int .u8 x.group]) (o := 11) rfl rfl rfl) 0 _ rfl) (j.did hok rfl (GS.Le.refl _) j.holds j.hr rfl)))
    · exact step_of rfl (fun D a w G H hR j => by (have s := (j.sf.know _ _ (j.gotE 4 rfl (hR.was rfl 4 rfl))) ; exact o_conv (s.ev rfl) und5 und3 (wrap_i64 (by omega) (by omega)) (j.did hok rfl (GS.Le.refl _) j.holds j.hr rfl)))
    · exact step_of rfl (fun D a w G H hR j => by (have s := (j.sf.know _ _ (j.gotE 5 rfl (hR.was rfl 5 rfl))) ; exact o_call s rfl ok26 (itoa_spec x.group (by omega) (ht.mono j.le) j.holds) (fun e w' ⟨v, G', he, hG, hh, hv⟩ => ⟨v, he, j.did hok rfl hG hh j.hr hv⟩)))
    · exact step_of rfl (fun D a w G H hR j => by (have s := j.sf ; exact o_fieldAddr (s.ev rfl) off43_3 (j.did hok rfl (GS.Le.refl _) j.holds j.hr rfl)))
    · exact step_of rfl (fun D a w G H hR j => by (have hH := j.hr ; subst H ; have s := (j.sf.know _ _ (j.gotE 7 rfl (hR.was rfl 7 rfl))) ; exact o_loadOne (s.ev rfl) ag3 ((j.holds.rowI 0 0 (cs := [.int .i64 x.at_]) (o := 12) rfl rfl rfl) 0 _ rfl) (j.did hok rfl (GS.Le.refl _) j.holds j.hr rfl)))
    · exact step_of rfl (fun D a w G H hR j => by (have s := (j.sf.know _ _ (j.gotE 8 rfl (hR.was rfl 8 rfl))) ; exact o_call s rfl ok26 (itoa_spec x.at_ (by omega) (ht.mono j.le) j.holds) (fun e w' ⟨v, G', he, hG, hh, hv⟩ => ⟨v, he, j.did hok rfl hG hh j.hr hv⟩)))
    · exact step_of rfl (fun D a w G H hR j => by (have s := j.sf ; exact o_fieldAddr (s.ev rfl) off43_1 (j.did hok rfl (GS.Le.refl _) j.holds j.hr rfl)))
    · exact step_of rfl (fun D a w G H hR j => by (have hH := j.hr ; subst H ; have s := (j.sf.know _ _ (j.gotE 10 rfl (hR.was rfl 10 rfl))) ; exact o_loadAgg (s.ev rfl) ag40 sz40 (cs := [.int .u8 x.id.client.node, .int .u16 x.id.client.life, .int .u32 x.id.seq, .int .u8 x.id.depth, .int .u8 x.id.p0.group, .int .u8 x.id.p0.index, .int .u8 x.id.p1.group, .int .u8 x.id.p1.index, .int .u8 x.id.p2.group, .int .u8 x.id.p2.index]) rfl (j.holds.rowI 0 0 (cs := [.int .u8 x.id.client.node, .int .u16 x.id.client.life, .int .u32 x.id.seq, .int .u8 x.id.depth, .int .u8 x.id.p0.group, .int .u8 x.id.p0.index, .int .u8 x.id.p1.group, .int .u8 x.id.p1.index, .int .u8 x.id.p2.group, .int .u8 x.id.p2.index]) (o := 1) rfl rfl rfl) (j.did hok rfl (GS.Le.refl _) j.holds j.hr rfl)))
    have s42 := ((((j.sf.know _ _ (j.gotE 2 rfl (hall 2 (by decide)))).know _ _ (j.gotE 6 rfl (hall 6 (by decide)))).know _ _ (j.gotE 9 rfl (hall 9 (by decide)))).know _ _ (j.gotE 11 rfl (hall 11 (by decide))))
    have hH := j.hr
    subst H
    have hle48 := j.le
    have h_t := h_t.mono hle48
    have ht := ht.mono hle48
    have hr27 := hr27.mono hle48
    have hG46 := hG23.trans hle48
    have h47 : Holds _ _ ([(b32, .cells #[.int .i64 x.kind, .int .u8 x.id.client.node, .int .u16 x.id.client.life, .int .u32 x.id.seq, .int .u8 x.id.depth, .int .u8 x.id.p0.group, .int .u8 x.id.p0.index, .int .u8 x.id.p1.group, .int .u8 x.id.p1.index, .int .u8 x.id.p2.group, .int .u8 x.id.p2.index, .int .u8 x.group, .int .i64 x.at_] 43 (0, 0))] :: c15 :: F) := j.holds
    clear j hall hok
    refine q_call s42 rfl ok27 rfl (name_spec x.id (by omega) ht h47) (fun a49 w51 v56 G53 hs57 h52 hv55 s50 => ?_)
    subst hv55
    have h_t := h_t.mono hs57
    have ht := ht.mono hs57
    have hr27 := hr27.mono hs57
    have hG54 := hG46.trans hs57
    refine q_buildSlice s50 rfl h52 (vs := [(0, S (word x.kind)), (1, S (Lib.itoa x.group)), (2, S (Lib.itoa x.at_)), (3, S (idText x.id))]) (cl := [S (word x.kind), S (Lib.itoa x.group), S (Lib.itoa x.at_), S (idText x.id)]) (E := 9) rfl (fun w => by kernel_rfl) (fun a59 w61 b58 s60 h62 => ?_)
    have h62 : Holds _ _ ([(b58, .cells #[S (word x.kind), S (Lib.itoa x.group), S (Lib.itoa x.at_), S (idText x.id)] 9 (0, 0))] :: [(b32, .cells #[.int .i64 x.kind, .int .u8 x.id.client.node, .int .u16 x.id.client.life, .int .u32 x.id.seq, .int .u8 x.id.depth, .int .u8 x.id.p0.group, .int .u8 x.id.p0.index, .int .u8 x.id.p1.group, .int .u8 x.id.p1.index, .int .u8 x.id.p2.group, .int .u8 x.id.p2.index, .int .u8 x.group, .int .i64 x.at_] 43 (0, 0))] :: c15 :: F) := h62
    obtain ⟨G63, hs64, h65, hr66⟩ := Row.toG (enc := encS) (l := [word x.kind, Lib.itoa x.group, Lib.itoa x.at_, idText x.id]) (fun _ => rfl) (Row.lit (E := 9) (size := 1) (n := 4) (b := b58) (xs := [S (word x.kind), S (Lib.itoa x.group), S (Lib.itoa x.at_), S (idText x.id)]) rfl (by decide)) rfl h62
    have h_t := h_t.mono hs64
    have ht := ht.mono hs64
    have hr27 := hr27.mono hs64
    have hG67 := hG54.trans hs64
    have h77 : Holds _ _ (c15 :: [(b32, .cells #[.int .i64 x.kind, .int .u8 x.id.client.node, .int .u16 x.id.client.life, .int .u32 x.id.seq, .int .u8 x.id.depth, .int .u8 x.id.p0.group, .int .u8 x.id.p0.index, .int .u8 x.id.p1.group, .int .u8 x.id.p1.index, .int .u8 x.id.p2.group, .int .u8 x.id.p2.index, .int .u8 x.group, .int .i64 x.at_] 43 (0, 0))] :: F) := h65.front 1 rfl
    refine q_callO s60 rfl ok24 rfl (line_spec (some ⟨b58, 0, none⟩) 4 [word x.kind, Lib.itoa x.group, Lib.itoa x.at_, idText x.id] bldT84 hb16 hr66 (by first | exact hl | (refine Nat.le_trans (join_len _ _) ?_ ; simp only [List.map_append, List.map_cons, List.map_nil, List.sum_append, List.sum_cons, List.sum_nil, List.length_append, List.length_cons, List.length_nil] ; omega)) (by first | exact hn | (simp only [List.length_append, List.length_cons, List.length_nil] ; omega)) (by omega) h77) (fun a68 w70 v75 G72 c78 hs76 h71 hv74 s69 => ?_)
    obtain ⟨v75e, hb79⟩ := hv74
    subst v75e
    have h_t := h_t.mono hs76
    have ht := ht.mono hs76
    have hr27 := hr27.mono hs76
    have hr66 := hr66.mono hs76
    have hG73 := hG67.trans hs76
    refine wpList_nil ?_
    refine x_blk_n ?_
    refine x_then_n ?_
    refine wp_region_lit ?_
    refine q_of s69 rfl (fun _ k => o_add (s69.ev rfl) (s69.ev rfl) (wrap_i64 (by omega) (by omega)) k) (fun a80 s81 => ?_)
    refine q_of s81 rfl (fun _ k => o_move (s81.ev rfl) k) (fun a82 s83 => ?_)
    refine wpList_nil ?_
    refine x_then_n ?_
    have h84 : Holds _ _ ([(b32, .cells #[.int .i64 x.kind, .int .u8 x.id.client.node, .int .u16 x.id.client.life, .int .u32 x.id.seq, .int .u8 x.id.depth, .int .u8 x.id.p0.group, .int .u8 x.id.p0.index, .int .u8 x.id.p1.group, .int .u8 x.id.p1.index, .int .u8 x.id.p2.group, .int .u8 x.id.p2.index, .int .u8 x.group, .int .i64 x.at_] 43 (0, 0))] :: c78 :: F) := h71.front 1 rfl
    have h85 : Holds _ _ (c78 :: F) := h84.drop
    refine ⟨q + 1, by omega, _, c78, ((((hG22.trans hle48).trans hs57).trans hs64).trans hs76), s83.sub (all_cons rfl (all_cons rfl (all_cons rfl (all_cons rfl (all_cons rfl (all_nil)))))), h85, (by rw [faults_snoc hx]; exact hb79)⟩
  ·
    refine wp_exit ?_
    refine x_then_x ?_
    refine x_then_x ?_
    refine x_blk_x ?_
    refine x_then_n ?_
    refine wp_seq ?_
    refine wp_region_lit ?_
    refine q_of s25 rfl (fun _ k => o_fieldAddr (s25.ev rfl) off84_0 k) (fun a86 s87 => ?_)
    refine q_call s87 rfl ok28 rfl (bGet_spec  bldT84 hb16 h20) (fun a88 w90 v95 G92 hs96 h91 hv94 s89 => ?_)
    subst hv94
    have h_t := h_t.mono hs96
    have ht := ht.mono hs96
    have hG93 := hG23.trans hs96
    refine q_of s89 rfl (fun _ k => o_assign (s89.ev rfl) k) (fun a97 s98 => ?_)
    refine wpList_nil ?_
    refine x_then_n ?_
    refine wp_ret ?_
    refine fin1 s98 rfl rfl ⟨_, _, rfl, hG93, h91, ?_⟩
    rw [List.take_of_length_le (by omega)]

theorem faults28_spec (t_a : Option Addr) (t_c : Nat) (t : List Fault) {G : GS} {w : World} {F : List Chunk} (h_t : RdF encFault 13 G.M t_a t_c t) (h_t_ok : ∀ (i : Nat) (x : Fault), t[i]? = some x → x.ok) (hn : t.length ≤ 100) (h : Holds G w F) :
    Calls Tryd.prog 9 #[.slice t_a t.length t_c] w (Ret G F fun G v => v = S (faultsText t)) := by
  refine enter (N := 46) (L := [(0, .slice t_a t.length t_c)]) rfl Tryd.func9 rfl rfl rfl (fun a0 s0 => ?_)
  refine wp_seq ?_
  refine wp_region_lit ?_
  refine q_of s0 rfl (fun _ k => o_assign (s0.ev rfl) k) (fun a1 s2 => ?_)
  refine wpList_nil ?_
  refine x_then_n ?_
  refine wp_seq ?_
  refine wp_region_lit ?_
  refine q_of s2 rfl (fun _ k => o_assign (s2.ev rfl) k) (fun a3 s4 => ?_)
  refine wpList_nil ?_
  refine x_then_n ?_
  refine wp_seq ?_
  refine wp_seq ?_
  refine wp_region_lit ?_
  refine q_of s4 rfl (fun _ k => o_assign (s4.ev rfl) k) (fun a5 s6 => ?_)
  refine wpList_nil ?_
  refine x_then_n ?_
  refine wp_block ?_
  refine q_loop (fun (q : Nat) (a : Act) (w : World) => ∃ G1 : GS, G.Le G1 ∧ SF 46 a [(0, .slice t_a t.length t_c), (2, S []), (3, S (faultsText (t.take q))), (4, .int .i64 (q : Int))] ∧ Holds G1 w (F)) (fun q => t.length - q) 0 ⟨_, GS.Le.refl _, s6.sub (all_cons rfl (all_cons rfl (all_cons rfl (all_cons rfl (all_nil))))), h⟩ ?_
  rintro q a7 w9 ⟨G11, hG12, s8, h10⟩
  have h_t := h_t.mono hG12
  have hG13 := (GS.Le.refl _).trans hG12
  refine wp_seq ?_
  refine wp_seq ?_
  refine wp_region_lit ?_
  refine q_of s8 rfl (fun _ k => o_move (s8.ev rfl) k) (fun a14 s15 => ?_)
  refine q_of s15 rfl (fun _ k => o_move (s15.ev rfl) k) (fun a16 s17 => ?_)
  refine q_of s17 rfl (fun _ k => o_len (s17.ev rfl) und22 k) (fun a18 s19 => ?_)
  refine q_of s19 rfl (fun _ k => o_lss (s19.ev rfl) (s19.ev rfl) k) (fun a20 s21 => ?_)
  refine wpList_nil ?_
  refine x_then_n ?_
  refine q_ifd s21 rfl (fun hc22 => ?_) (fun hc22 => ?_)
  ·
    refine wp_skip ?_
    refine x_then_n ?_
    refine wp_seq ?_
    refine wp_block ?_
    obtain ⟨x, hx⟩ := at_of (l := t) (k := q) (by omega)
    have hr23 : MRow G11.M (blk t_a) (ofs t_a + q * 13) [.int .i64 x.kind, .int .u8 x.id.client.node, .int .u16 x.id.client.life, .int .u32 x.id.seq, .int .u8 x.id.depth, .int .u8 x.id.p0.group, .int .u8 x.id.p0.index, .int .u8 x.id.p1.group, .int .u8 x.id.p1.index, .int .u8 x.id.p2.group, .int .u8 x.id.p2.index, .int .u8 x.group, .int .i64 x.at_] := h_t.row q x hx
    have hokx := h_t_ok q x hx
    obtain ⟨⟨hx1, hx2⟩, hx3, ⟨hx4, hx5⟩, ⟨hx6, hx7⟩⟩ := hokx
    have hLw := word_len x.kind
    have hLg := itoaL x.group (by constructor <;> omega)
    have hLa := itoaL x.at_ (by constructor <;> omega)
    have hLi := idText_len x.id hx3
    have hLf := faults_len_take h_t_ok q (by omega)
    have hok : okX 46 [(0, .slice t_a t.length t_c), (2, S []), (4, .int .i64 (q : Int))] [(some 11, Fact.eq (S (faultsText (t.take q)))), (some 12, Fact.eq (.slice t_a t.length t_c)), (some 13, Fact.eq (.int .i64 (q : Int))), (some 14, Fact.eq (.pointer (some ⟨(blk t_a), ofs t_a + q * 13, none⟩))), (some 15, Fact.eq (.pointer (some ⟨(blk t_a), ofs t_a + q * 13 + 0, none⟩))), (some 16, Fact.eq (.int .i64 x.kind)), (some 17, Fact.eq (S (word x.kind))), (some 18, Fact.eq (S ((faultsText (t.take q)) ++ (word x.kind)))), (some 19, Fact.eq (S (((faultsText (t.take q)) ++ (word x.kind)) ++ [32]))), (some 20, Fact.eq (.slice t_a t.length t_c)), (some 21, Fact.eq (.int .i64 (q : Int))), (some 22, Fact.eq (.pointer (some ⟨(blk t_a), ofs t_a + q * 13, none⟩))), (some 23, Fact.eq (.pointer (some ⟨(blk t_a), ofs t_a + q * 13 + 11, none⟩))), (some 24, Fact.eq (.int .u8 x.group)), (some 25, Fact.eq (.int .i64 x.group)), (some 26, Fact.eq (S (Lib.itoa x.group))), (some 27, Fact.eq (S ((((faultsText (t.take q)) ++ (word x.kind)) ++ [32]) ++ (Lib.itoa x.group)))), (some 28, Fact.eq (S (((((faultsText (t.take q)) ++ (word x.kind)) ++ [32]) ++ (Lib.itoa x.group)) ++ [32]))), (some 29, Fact.eq (.slice t_a t.length t_c)), (some 30, Fact.eq (.int .i64 (q : Int))), (some 31, Fact.eq (.pointer (some ⟨(blk t_a), ofs t_a + q * 13, none⟩))), (some 32, Fact.eq (.pointer (some ⟨(blk t_a), ofs t_a + q * 13 + 12, none⟩))), (some 33, Fact.eq (.int .i64 x.at_)), (some 34, Fact.eq (S (Lib.itoa x.at_))), (some 35, Fact.eq (S ((((((faultsText (t.take q)) ++ (word x.kind)) ++ [32]) ++ (Lib.itoa x.group)) ++ [32]) ++ (Lib.itoa x.at_)))), (some 36, Fact.eq (S (((((((faultsText (t.take q)) ++ (word x.kind)) ++ [32]) ++ (Lib.itoa x.group)) ++ [32]) ++ (Lib.itoa x.at_)) ++ [32]))), (some 37, Fact.eq (.slice t_a t.length t_c)), (some 38, Fact.eq (.int .i64 (q : Int))), (some 39, Fact.eq (.pointer (some ⟨(blk t_a), ofs t_a + q * 13, none⟩))), (some 40, Fact.eq (.pointer (some ⟨(blk t_a), ofs t_a + q * 13 + 1, none⟩))), (some 41, Fact.eq (.agg #[.int .u8 x.id.client.node, .int .u16 x.id.client.life, .int .u32 x.id.seq, .int .u8 x.id.depth, .int .u8 x.id.p0.group, .int .u8 x.id.p0.index, .int .u8 x.id.p1.group, .int .u8 x.id.p1.index, .int .u8 x.id.p2.group, .int .u8 x.id.p2.index])), (some 42, Fact.eq (S (idText x.id))), (some 43, Fact.eq (S ((((((((faultsText (t.take q)) ++ (word x.kind)) ++ [32]) ++ (Lib.itoa x.group)) ++ [32]) ++ (Lib.itoa x.at_)) ++ [32]) ++ (idText x.id)))), (some 44, Fact.eq (S (((((((((faultsText (t.take q)) ++ (word x.kind)) ++ [32]) ++ (Lib.itoa x.group)) ++ [32]) ++ (Lib.itoa x.at_)) ++ [32]) ++ (idText x.id)) ++ [10]))), (some 3, Fact.eq (S (((((((((faultsText (t.take q)) ++ (word x.kind)) ++ [32]) ++ (Lib.itoa x.group)) ++ [32]) ++ (Lib.itoa x.at_)) ++ [32]) ++ (idText x.id)) ++ [10])))] [(34, 3, S (faultsText (t.take q)))] = true := rfl
    refine region_draw (N := 46) (L0 := [(0, .slice t_a t.length t_c), (2, S []), (4, .int .i64 (q : Int))]) (X := [(some 11, Fact.eq (S (faultsText (t.take q)))), (some 12, Fact.eq (.slice t_a t.length t_c)), (some 13, Fact.eq (.int .i64 (q : Int))), (some 14, Fact.eq (.pointer (some ⟨(blk t_a), ofs t_a + q * 13, none⟩))), (some 15, Fact.eq (.pointer (some ⟨(blk t_a), ofs t_a + q * 13 + 0, none⟩))), (some 16, Fact.eq (.int .i64 x.kind)), (some 17, Fact.eq (S (word x.kind))), (some 18, Fact.eq (S ((faultsText (t.take q)) ++ (word x.kind)))), (some 19, Fact.eq (S (((faultsText (t.take q)) ++ (word x.kind)) ++ [32]))), (some 20, Fact.eq (.slice t_a t.length t_c)), (some 21, Fact.eq (.int .i64 (q : Int))), (some 22, Fact.eq (.pointer (some ⟨(blk t_a), ofs t_a + q * 13, none⟩))), (some 23, Fact.eq (.pointer (some ⟨(blk t_a), ofs t_a + q * 13 + 11, none⟩))), (some 24, Fact.eq (.int .u8 x.group)), (some 25, Fact.eq (.int .i64 x.group)), (some 26, Fact.eq (S (Lib.itoa x.group))), (some 27, Fact.eq (S ((((faultsText (t.take q)) ++ (word x.kind)) ++ [32]) ++ (Lib.itoa x.group)))), (some 28, Fact.eq (S (((((faultsText (t.take q)) ++ (word x.kind)) ++ [32]) ++ (Lib.itoa x.group)) ++ [32]))), (some 29, Fact.eq (.slice t_a t.length t_c)), (some 30, Fact.eq (.int .i64 (q : Int))), (some 31, Fact.eq (.pointer (some ⟨(blk t_a), ofs t_a + q * 13, none⟩))), (some 32, Fact.eq (.pointer (some ⟨(blk t_a), ofs t_a + q * 13 + 12, none⟩))), (some 33, Fact.eq (.int .i64 x.at_)), (some 34, Fact.eq (S (Lib.itoa x.at_))), (some 35, Fact.eq (S ((((((faultsText (t.take q)) ++ (word x.kind)) ++ [32]) ++ (Lib.itoa x.group)) ++ [32]) ++ (Lib.itoa x.at_)))), (some 36, Fact.eq (S (((((((faultsText (t.take q)) ++ (word x.kind)) ++ [32]) ++ (Lib.itoa x.group)) ++ [32]) ++ (Lib.itoa x.at_)) ++ [32]))), (some 37, Fact.eq (.slice t_a t.length t_c)), (some 38, Fact.eq (.int .i64 (q : Int))), (some 39, Fact.eq (.pointer (some ⟨(blk t_a), ofs t_a + q * 13, none⟩))), (some 40, Fact.eq (.pointer (some ⟨(blk t_a), ofs t_a + q * 13 + 1, none⟩))), (some 41, Fact.eq (.agg #[.int .u8 x.id.client.node, .int .u16 x.id.client.life, .int .u32 x.id.seq, .int .u8 x.id.depth, .int .u8 x.id.p0.group, .int .u8 x.id.p0.index, .int .u8 x.id.p1.group, .int .u8 x.id.p1.index, .int .u8 x.id.p2.group, .int .u8 x.id.p2.index])), (some 42, Fact.eq (S (idText x.id))), (some 43, Fact.eq (S ((((((((faultsText (t.take q)) ++ (word x.kind)) ++ [32]) ++ (Lib.itoa x.group)) ++ [32]) ++ (Lib.itoa x.at_)) ++ [32]) ++ (idText x.id)))), (some 44, Fact.eq (S (((((((((faultsText (t.take q)) ++ (word x.kind)) ++ [32]) ++ (Lib.itoa x.group)) ++ [32]) ++ (Lib.itoa x.at_)) ++ [32]) ++ (idText x.id)) ++ [10]))), (some 3, Fact.eq (S (((((((((faultsText (t.take q)) ++ (word x.kind)) ++ [32]) ++ (Lib.itoa x.group)) ++ [32]) ++ (Lib.itoa x.at_)) ++ [32]) ++ (idText x.id)) ++ [10])))]) (O := [(34, 3, S (faultsText (t.take q)))]) (HR := fun D a _ H => H = (F)) mixed rfl h10 rfl (s21.sub (all_cons rfl (all_cons rfl (all_cons rfl (all_nil))))) (fun i k t v hi => by (rcases i with _ | i; · (cases (show some _ = some _ from hi); exact s21.at_ _ _ rfl)) ; simp at hi) ⟨?_, ?_, ?_, ?_, ?_, ?_, ?_, ?_, ?_, ?_, ?_, ?_, ?_, ?_, ?_, ?_, ?_, ?_, ?_, ?_, ?_, ?_, ?_, ?_, ?_, ?_, ?_, ?_, ?_, ?_, ?_, ?_, ?_, ?_, ?_, trivial⟩ (fun D a w G H hall j => ?_)
    · exact step_of rfl (fun D a w G H hR j => by (have s := (j.sf.know _ _ (j.old 0 rfl (hR.not (k := 34) (j := 33) rfl rfl (hR.not (k := 33) (j := 32) rfl rfl (hR.not (k := 32) (j := 25) rfl rfl (hR.not (k := 25) (j := 24) rfl rfl (hR.not (k := 24) (j := 17) rfl rfl (hR.not (k := 17) (j := 16) rfl rfl (hR.not (k := 16) (j := 8) rfl rfl (hR.not (k := 8) (j := 7) rfl rfl (hR.not (k := 7) (j := 0) rfl rfl hR.todo))))))))))) ; exact o_move (s.ev rfl) (j.did hok rfl (GS.Le.refl _) j.holds j.hr rfl)))
    · exact step_of rfl (fun D a w G H hR j => by (have s := j.sf ; exact o_move (s.ev rfl) (j.did hok rfl (GS.Le.refl _) j.holds j.hr rfl)))
    · exact step_of rfl (fun D a w G H hR j => by (have s := j.sf ; exact o_move (s.ev rfl) (j.did hok rfl (GS.Le.refl _) j.holds j.hr rfl)))
    · exact step_of rfl (fun D a w G H hR j => by (have s := ((j.sf.know _ _ (j.gotE 1 rfl (hR.was rfl 1 rfl))).know _ _ (j.gotE 2 rfl (hR.was rfl 2 rfl))) ; exact o_idxS (s.ev rfl) (s.ev rfl) und22 sz35 (i := q) (by omega) (by omega) (h_t.addr (by omega)) (j.did hok rfl (GS.Le.refl _) j.holds j.hr rfl)))
    · exact step_of rfl (fun D a w G H hR j => by (have s := (j.sf.know _ _ (j.gotE 3 rfl (hR.was rfl 3 rfl))) ; exact o_fieldAddr (s.ev rfl) off35_0 (j.did hok rfl (GS.Le.refl _) j.holds j.hr rfl)))
    · exact step_of rfl (fun D a w G H hR j => by (have hH := j.hr ; subst H ; have s := (j.sf.know _ _ (j.gotE 4 rfl (hR.was rfl 4 rfl))) ; exact o_loadOne (s.ev rfl) ag3 ((j.holds.rowM (cs := [.int .i64 x.kind]) (MRow.mono j.le (hr23.sub 0 rfl))) 0 _ rfl) (j.did hok rfl (GS.Le.refl _) j.holds j.hr rfl)))
    · exact step_of rfl (fun D a w G H hR j => by (have s := (j.sf.know _ _ (j.gotE 5 rfl (hR.was rfl 5 rfl))) ; exact o_call s rfl ok29 (word25_spec x.kind (by omega) j.holds) (fun e w' ⟨v, G', he, hG, hh, hv⟩ => ⟨v, he, j.did hok rfl hG hh j.hr hv⟩)))
    · exact step_of rfl (fun D a w G H hR j => by (have s := ((j.sf.know _ _ (j.gotE 0 rfl (hR.was rfl 0 rfl))).know _ _ (j.gotE 6 rfl (hR.was rfl 6 rfl))) ; exact o_sadd (s.ev rfl) (s.ev rfl) (by first | omega | (simp only [List.length_append, List.length_cons, List.length_nil] ; omega)) (j.did hok rfl (GS.Le.refl _) j.holds j.hr rfl)))
    · exact step_of rfl (fun D a w G H hR j => by (have s := (j.sf.know _ _ (j.gotE 7 rfl (hR.was rfl 7 rfl))) ; exact o_sadd (s.ev rfl) (s.ev rfl) (by first | omega | (simp only [List.length_append, List.length_cons, List.length_nil] ; omega)) (j.did hok rfl (GS.Le.refl _) j.holds j.hr rfl)))
    · exact step_of rfl (fun D a w G H hR j => by (have s := j.sf ; exact o_move (s.ev rfl) (j.did hok rfl (GS.Le.refl _) j.holds j.hr rfl)))
    · exact step_of rfl (fun D a w G H hR j => by (have s := j.sf ; exact o_move (s.ev rfl) (j.did hok rfl (GS.Le.refl _) j.holds j.hr rfl)))
    · exact step_of rfl (fun D a w G H hR j => by (have s := ((j.sf.know _ _ (j.gotE 9 rfl (hR.was rfl 9 rfl))).know _ _ (j.gotE 10 rfl (hR.was rfl 10 rfl))) ; exact o_idxS (s.ev rfl) (s.ev rfl) und22 sz35 (i := q) (by omega) (by omega) (h_t.addr (by omega)) (j.did hok rfl (GS.Le.refl _) j.holds j.hr rfl)))
    · exact step_of rfl (fun D a w G H hR j => by (have s := (j.sf.know _ _ (j.gotE 11 rfl (hR.was rfl 11 rfl))) ; exact o_fieldAddr (s.ev rfl) off35_2 (j.did hok rfl (GS.Le.refl _) j.holds j.hr rfl)))
    · exact step_of rfl (fun D a w G H hR j => by (have hH := j.hr ; subst H ; have s := (j.sf.know _ _ (j.gotE 12 rfl (hR.was rfl 12 rfl))) ; exact o_loadOne (s.ev rfl) ag5 ((j.holds.rowM (cs := [.int .u8 x.group]) (MRow.mono j.le (hr23.sub 11 rfl))) 0 _ rfl) (j.did hok rfl (GS.Le.refl _) j.holds j.hr rfl)))
    · exact step_of rfl (fun D a w G H hR j => by (have s := (j.sf.know _ _ (j.gotE 13 rfl (hR.was rfl 13 rfl))) ; exact o_conv (s.ev rfl) und5 und3 (wrap_i64 (by omega) (by omega)) (j.did hok rfl (GS.Le.refl _) j.holds j.hr rfl)))
    · exact step_of rfl (fun D a w G H hR j => by (have s := (j.sf.know _ _ (j.gotE 14 rfl (hR.was rfl 14 rfl))) ; exact o_call s rfl ok30 (num_spec x.group (by omega) j.holds) (fun e w' ⟨v, G', he, hG, hh, hv⟩ => ⟨v, he, j.did hok rfl hG hh j.hr hv⟩)))
    · exact step_of rfl (fun D a w G H hR j => by (have s := ((j.sf.know _ _ (j.gotE 8 rfl (hR.was rfl 8 rfl))).know _ _ (j.gotE 15 rfl (hR.was rfl 15 rfl))) ; exact o_sadd (s.ev rfl) (s.ev rfl) (by first | omega | (simp only [List.length_append, List.length_cons, List.length_nil] ; omega)) (j.did hok rfl (GS.Le.refl _) j.holds j.hr rfl)))
    · exact step_of rfl (fun D a w G H hR j => by (have s := (j.sf.know _ _ (j.gotE 16 rfl (hR.was rfl 16 rfl))) ; exact o_sadd (s.ev rfl) (s.ev rfl) (by first | omega | (simp only [List.length_append, List.length_cons, List.length_nil] ; omega)) (j.did hok rfl (GS.Le.refl _) j.holds j.hr rfl)))
    · exact step_of rfl (fun D a w G H hR j => by (have s := j.sf ; exact o_move (s.ev rfl) (j.did hok rfl (GS.Le.refl _) j.holds j.hr rfl)))
    · exact step_of rfl (fun D a w G H hR j => by (have s := j.sf ; exact o_move (s.ev rfl) (j.did hok rfl (GS.Le.refl _) j.holds j.hr rfl)))
    · exact step_of rfl (fun D a w G H hR j => by (have s := ((j.sf.know _ _ (j.gotE 18 rfl (hR.was rfl 18 rfl))).know _ _ (j.gotE 19 rfl (hR.was rfl 19 rfl))) ; exact o_idxS (s.ev rfl) (s.ev rfl) und22 sz35 (i := q) (by omega) (by omega) (h_t.addr (by omega)) (j.did hok rfl (GS.Le.refl _) j.holds j.hr rfl)))
    · exact step_of rfl (fun D a w G H hR j => by (have s := (j.sf.know _ _ (j.gotE 20 rfl (hR.was rfl 20 rfl))) ; exact o_fieldAddr (s.ev rfl) off35_3 (j.did hok rfl (GS.Le.refl _) j.holds j.hr rfl)))
    · exact step_of rfl (fun D a w G H hR j => by (have hH := j.hr ; subst H ; have s := (j.sf.know _ _ (j.gotE 21 rfl (hR.was rfl 21 rfl))) ; exact o_loadOne (s.ev rfl) ag3 ((j.holds.rowM (cs := [.int .i64 x.at_]) (MRow.mono j.le (hr23.sub 12 rfl))) 0 _ rfl) (j.did hok rfl (GS.Le.refl _) j.holds j.hr rfl)))
    · exact step_of rfl (fun D a w G H hR j => by (have s := (j.sf.know _ _ (j.gotE 22 rfl (hR.was rfl 22 rfl))) ; exact o_call s rfl ok30 (num_spec x.at_ (by omega) j.holds) (fun e w' ⟨v, G', he, hG, hh, hv⟩ => ⟨v, he, j.did hok rfl hG hh j.hr hv⟩)))
    · exact step_of rfl (fun D a w G H hR j => by (have s := ((j.sf.know _ _ (j.gotE 17 rfl (hR.was rfl 17 rfl))).know _ _ (j.gotE 23 rfl (hR.was rfl 23 rfl))) ; exact o_sadd (s.ev rfl) (s.ev rfl) (by first | omega | (simp only [List.length_append, List.length_cons, List.length_nil] ; omega)) (j.did hok rfl (GS.Le.refl _) j.holds j.hr rfl)))
    · exact step_of rfl (fun D a w G H hR j => by (have s := (j.sf.know _ _ (j.gotE 24 rfl (hR.was rfl 24 rfl))) ; exact o_sadd (s.ev rfl) (s.ev rfl) (by first | omega | (simp only [List.length_append, List.length_cons, List.length_nil] ; omega)) (j.did hok rfl (GS.Le.refl _) j.holds j.hr rfl)))
    · exact step_of rfl (fun D a w G H hR j => by (have s := j.sf ; exact o_move (s.ev rfl) (j.did hok rfl (GS.Le.refl _) j.holds j.hr rfl)))
    · exact step_of rfl (fun D a w G H hR j => by (have s := j.sf ; exact o_move (s.ev rfl) (j.did hok rfl (GS.Le.refl _) j.holds j.hr rfl)))
    · exact step_of rfl (fun D a w G H hR j => by (have s := ((j.sf.know _ _ (j.gotE 26 rfl (hR.was rfl 26 rfl))).know _ _ (j.gotE 27 rfl (hR.was rfl 27 rfl))) ; exact o_idxS (s.ev rfl) (s.ev rfl) und22 sz35 (i := q) (by omega) (by omega) (h_t.addr (by omega)) (j.did hok rfl (GS.Le.refl _) j.holds j.hr rfl)))
    · exact step_of rfl (fun D a w G H hR j => by (have s := (j.sf.know _ _ (j.gotE 28 rfl (hR.was rfl 28 rfl))) ; exact o_fieldAddr (s.ev rfl) off35_1 (j.did hok rfl (GS.Le.refl _) j.holds j.hr rfl)))
    · exact step_of rfl (fun D a w G H hR j => by (have hH := j.hr ; subst H ; have s := (j.sf.know _ _ (j.gotE 29 rfl (hR.was rfl 29 rfl))) ; exact o_loadAgg (s.ev rfl) ag33 sz33 (cs := [.int .u8 x.id.client.node, .int .u16 x.id.client.life, .int .u32 x.id.seq, .int .u8 x.id.depth, .int .u8 x.id.p0.group, .int .u8 x.id.p0.index, .int .u8 x.id.p1.group, .int .u8 x.id.p1.index, .int .u8 x.id.p2.group, .int .u8 x.id.p2.index]) rfl (j.holds.rowM (cs := [.int .u8 x.id.client.node, .int .u16 x.id.client.life, .int .u32 x.id.seq, .int .u8 x.id.depth, .int .u8 x.id.p0.group, .int .u8 x.id.p0.index, .int .u8 x.id.p1.group, .int .u8 x.id.p1.index, .int .u8 x.id.p2.group, .int .u8 x.id.p2.index]) (MRow.mono j.le (hr23.sub 1 rfl))) (j.did hok rfl (GS.Le.refl _) j.holds j.hr rfl)))
    · exact step_of rfl (fun D a w G H hR j => by (have s := (j.sf.know _ _ (j.gotE 30 rfl (hR.was rfl 30 rfl))) ; exact o_call s rfl ok31 (showID_spec x.id (by omega) j.holds) (fun e w' ⟨v, G', he, hG, hh, hv⟩ => ⟨v, he, j.did hok rfl hG hh j.hr hv⟩)))
    · exact step_of rfl (fun D a w G H hR j => by (have s := ((j.sf.know _ _ (j.gotE 25 rfl (hR.was rfl 25 rfl))).know _ _ (j.gotE 31 rfl (hR.was rfl 31 rfl))) ; exact o_sadd (s.ev rfl) (s.ev rfl) (by first | omega | (simp only [List.length_append, List.length_cons, List.length_nil] ; omega)) (j.did hok rfl (GS.Le.refl _) j.holds j.hr rfl)))
    · exact step_of rfl (fun D a w G H hR j => by (have s := (j.sf.know _ _ (j.gotE 32 rfl (hR.was rfl 32 rfl))) ; exact o_sadd (s.ev rfl) (s.ev rfl) (by first | omega | (simp only [List.length_append, List.length_cons, List.length_nil] ; omega)) (j.did hok rfl (GS.Le.refl _) j.holds j.hr rfl)))
    · exact step_of rfl (fun D a w G H hR j => by (have s := (j.sf.know _ _ (j.gotE 33 rfl (hR.was rfl 33 rfl))) ; exact o_assign (s.ev rfl) (j.did hok rfl (GS.Le.refl _) j.holds j.hr rfl)))
    have s25 := (j.sf.know _ _ (j.gotE 34 rfl (hall 34 (by decide))))
    have hH := j.hr
    subst H
    have hle31 := j.le
    have h_t := h_t.mono hle31
    have hr23 := hr23.mono hle31
    have hG29 := hG13.trans hle31
    have h30 : Holds _ _ (F) := j.holds
    clear j hall hok
    refine x_blk_n ?_
    refine x_then_n ?_
    refine wp_region_lit ?_
    refine q_of s25 rfl (fun _ k => o_move (s25.ev rfl) k) (fun a32 s33 => ?_)
    refine q_of s33 rfl (fun _ k => o_add (s33.ev rfl) (s33.ev rfl) (wrap_i64 (by omega) (by omega)) k) (fun a34 s35 => ?_)
    refine q_of s35 rfl (fun _ k => o_assign (s35.ev rfl) k) (fun a36 s37 => ?_)
    refine wpList_nil ?_
    refine x_then_n ?_
    rw [← faults_snoc' hx] at s37
    refine ⟨q + 1, by omega, _, (hG12.trans hle31), s37.sub (all_cons rfl (all_cons rfl (all_cons rfl (all_cons rfl (all_nil))))), h30⟩
  ·
    refine wp_exit ?_
    refine x_then_x ?_
    refine x_then_x ?_
    refine x_blk_x ?_
    refine x_then_n ?_
    refine wp_seq ?_
    refine wp_region_lit ?_
    refine q_of s21 rfl (fun _ k => o_move (s21.ev rfl) k) (fun a38 s39 => ?_)
    refine q_of s39 rfl (fun _ k => o_assign (s39.ev rfl) k) (fun a40 s41 => ?_)
    refine wpList_nil ?_
    refine x_then_n ?_
    refine wp_ret ?_
    refine fin1 s41 rfl rfl ⟨_, _, rfl, hG13, h10, ?_⟩
    rw [List.take_of_length_le (by omega)]
end Go.Proofs.YtediojjcoohhoaaDoor
