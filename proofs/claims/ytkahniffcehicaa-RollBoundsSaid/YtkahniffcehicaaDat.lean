/- Plain data that stand for the program's structs, and what its texts look like. No condition. -/
import Derived.Test.YtkahniffcehicaaEqu
import Derived.Lib.Join
import Derived.Lib.JoinLaws
namespace Go.Eng
open Go Go.RowKit

abbrev I64 (n : Int) : Prop := -9223372036854775808 ≤ n ∧ n ≤ 9223372036854775807
abbrev U8 (n : Int) : Prop := 0 ≤ n ∧ n ≤ 255
abbrev U16 (n : Int) : Prop := 0 ≤ n ∧ n ≤ 65535
abbrev U32 (n : Int) : Prop := 0 ≤ n ∧ n ≤ 4294967295
abbrev U64 (n : Int) : Prop := 0 ≤ n ∧ n ≤ 18446744073709551615

structure Proc where
  node : Int
  life : Int
deriving DecidableEq
structure Step where
  group : Int
  index : Int
deriving DecidableEq
structure ID where
  client : Proc
  seq : Int
  depth : Int
  p0 : Step
  p1 : Step
  p2 : Step
deriving DecidableEq
structure Fault where
  kind : Int
  id : ID
  group : Int
  at_ : Int
abbrev Proc.ok (p : Proc) : Prop := U8 p.node ∧ U16 p.life
abbrev Step.ok (p : Step) : Prop := U8 p.group ∧ U8 p.index
abbrev ID.ok (d : ID) : Prop := d.client.ok ∧ U32 d.seq ∧ U8 d.depth ∧ d.p0.ok ∧ d.p1.ok ∧ d.p2.ok
abbrev Fault.ok (f : Fault) : Prop := I64 f.kind ∧ f.id.ok ∧ U8 f.group ∧ I64 f.at_
end Go.Eng
namespace Go.Eng
open Go Go.RowKit
def point (m n : Int) : List UInt8 := Lib.itoa m ++ [46] ++ Lib.itoa n
theorem point_len (m n : Int) (hm : I64 m) (hn : I64 n) : (point m n).length ≤ 43 := by
  have := Lib.itoa_length_le m hm.1 hm.2
  have := Lib.itoa_length_le n hn.1 hn.2
  simp only [point, List.length_append, List.length_cons, List.length_nil]
  omega
end Go.Eng
namespace Go.Eng
open Go Go.RowKit
/-! ### Numerals by recursion -/
theorem itoa_small (n : Int) (h0 : 0 ≤ n) (h : n < 10) : Lib.itoa n = [UInt8.ofNat (48 + n).toNat] := by
  unfold Lib.itoa
  rw [if_neg (by omega), Lib.decDigits, dif_pos (by omega), show (48 + n).toNat = 48 + n.toNat by omega]
theorem itoa_step (n : Int) (h : 10 ≤ n) : Lib.itoa n = Lib.itoa (n / 10) ++ Lib.itoa (n % 10) := by
  rw [itoa_small (n % 10) (by omega) (by omega)]
  unfold Lib.itoa
  rw [if_neg (by omega), if_neg (by omega), Lib.decDigits, dif_neg (by omega), show (n / 10).toNat = n.toNat / 10 by omega, show (48 + n % 10).toNat = 48 + n.toNat % 10 by omega]
theorem itoa_minus (n : Int) (h : n < 0) : Lib.itoa n = [45] ++ Lib.itoa (0 - n) := by
  unfold Lib.itoa
  rw [if_pos h, if_neg (by omega), show (0 - n).toNat = n.natAbs by omega]
  rfl
theorem itoa_minus2 (n : Int) (h : n < -9) : Lib.itoa n = [45] ++ Lib.itoa (0 - -((-n) / 10)) ++ Lib.itoa (0 - -((-n) % 10)) := by
  rw [itoa_minus n (by omega), itoa_step (0 - n) (by omega), List.append_assoc, show (0 - n) = -n by omega, show 0 - -(-n / 10) = -n / 10 by omega, show 0 - -(-n % 10) = -n % 10 by omega]
theorem at_of {α : Type} {l : List α} {k : Nat} (h : k < l.length) : ∃ x, l[k]? = some x := ⟨l[k], by simp [h]⟩
theorem take_snoc {α : Type} {l : List α} {k : Nat} {x : α} (h : l[k]? = some x) : l.take (k + 1) = l.take k ++ [x] := by
  obtain ⟨h1, rfl⟩ := List.getElem?_eq_some_iff.1 h
  rw [List.take_add_one, List.getElem?_eq_getElem h1]; rfl
theorem join_len (sep : List UInt8) : ∀ ws : List (List UInt8), (Lib.join ws sep).length ≤ (ws.map fun x => x.length + sep.length).sum
  | [] => by simp [Lib.join]
  | [x] => by simp [Lib.join]
  | x :: y :: ws => by
    have := join_len sep (y :: ws)
    simp only [Lib.join, List.intercalate, List.intersperse] at this ⊢
    simp only [List.flatten_cons, List.length_append, List.map_cons, List.sum_cons] at this ⊢
    omega
theorem itoaL (n : Int) (h : I64 n) : (Lib.itoa n).length ≤ 21 := Lib.itoa_length_le n h.1 h.2

/-! ### Calls and faults as text -/
def words : List (List UInt8) := [[], [83, 112, 108, 105, 116], [65, 103, 97, 105, 110], [68, 101, 97, 100], [85, 110, 108, 105, 107, 101], [79, 114, 112, 104, 97, 110], [76, 111, 115, 116], [87, 114, 111, 110, 103], [87, 101, 97, 107], [85, 110, 116, 114, 117, 101], [76, 97, 116, 101]]
def word (k : Int) : List UInt8 := if 0 ≤ k ∧ k < 11 then words.getD k.toNat [] else []
theorem word_low (k : Int) (h : k < 1) : word k = [] := by
  unfold word
  split
  · rw [show k = 0 by omega]; rfl
  · rfl
theorem word_high (k : Int) (h : 11 ≤ k) : word k = [] := by
  unfold word
  rw [if_neg (by omega)]
theorem word_out (k : Int) (h : k < 1 ∨ 11 ≤ k) : word k = [] := h.elim (word_low k) (word_high k)
theorem word_in (k : Int) (h0 : 0 ≤ k) (h : k < 11) : words.getD k.toNat [] = word k := by
  unfold word
  rw [if_pos (by omega)]
theorem words_len (k : Nat) : (words.getD k []).length ≤ 7 := by
  rw [List.getD_eq_getElem?_getD]
  rcases h : words[k]? with _ | x
  · simp
  · have : ∀ y ∈ words, y.length ≤ 7 := by decide
    exact this x (List.mem_of_getElem? h)
theorem word_len (k : Int) : (word k).length ≤ 7 := by
  unfold word
  split
  · exact words_len _
  · simp
def ID.path (d : ID) : List Step := if d.depth ≤ 0 then [] else if d.depth ≤ 1 then [d.p0] else if d.depth ≤ 2 then [d.p0, d.p1] else [d.p0, d.p1, d.p2]
theorem path0 (d : ID) (h : d.depth ≤ 0) : d.path = [] := by unfold ID.path; rw [if_pos h]
theorem path1 (d : ID) (h : 1 ≤ d.depth) (h1 : d.depth ≤ 1) : d.path = [d.p0] := by unfold ID.path; rw [if_neg (by omega), if_pos h1]
theorem path2 (d : ID) (h : 2 ≤ d.depth) (h1 : d.depth ≤ 2) : d.path = [d.p0, d.p1] := by unfold ID.path; rw [if_neg (by omega), if_neg (by omega), if_pos h1]
theorem path3 (d : ID) (h : 3 ≤ d.depth) : d.path = [d.p0, d.p1, d.p2] := by unfold ID.path; rw [if_neg (by omega), if_neg (by omega), if_neg (by omega)]
/-- A call's name: words that are parted by slashes. -/
def idText (d : ID) : List UInt8 := Lib.join ([point d.client.node d.client.life, Lib.itoa d.seq] ++ d.path.map fun s => point s.group s.index) [47]
theorem stepL (s : Step) (h : s.ok) : (point s.group s.index).length ≤ 43 := point_len _ _ (by obtain ⟨⟨_, _⟩, ⟨_, _⟩⟩ := h; constructor <;> omega) (by obtain ⟨⟨_, _⟩, ⟨_, _⟩⟩ := h; constructor <;> omega)
theorem idText_len (d : ID) (h : d.ok) : (idText d).length ≤ 260 := by
  obtain ⟨⟨⟨_, _⟩, ⟨_, _⟩⟩, ⟨_, _⟩, ⟨_, _⟩, h0, h1, h2⟩ := h
  have hp := point_len d.client.node d.client.life (by constructor <;> omega) (by constructor <;> omega)
  have hs := itoaL d.seq (by constructor <;> omega)
  have h0 := stepL _ h0
  have h1 := stepL _ h1
  have h2 := stepL _ h2
  refine Nat.le_trans (join_len _ _) ?_
  unfold ID.path
  split
  · simp only [List.map_append, List.map_cons, List.map_nil, List.sum_append, List.sum_cons, List.sum_nil, List.length_cons, List.length_nil]; omega
  · split
    · simp only [List.map_append, List.map_cons, List.map_nil, List.sum_append, List.sum_cons, List.sum_nil, List.length_cons, List.length_nil]; omega
    · split
      · simp only [List.map_append, List.map_cons, List.map_nil, List.sum_append, List.sum_cons, List.sum_nil, List.length_cons, List.length_nil]; omega
      · simp only [List.map_append, List.map_cons, List.map_nil, List.sum_append, List.sum_cons, List.sum_nil, List.length_cons, List.length_nil]; omega
theorem join_two (x y : List UInt8) (ws : List (List UInt8)) (sep : List UInt8) : Lib.join (x :: y :: ws) sep = x ++ sep ++ Lib.join (y :: ws) sep := by
  simp [Lib.join, List.intercalate, List.intersperse]
theorem join_one (x : List UInt8) (sep : List UInt8) : Lib.join [x] sep = x := by
  simp [Lib.join, List.intercalate, List.intersperse]
def faultLine (f : Fault) : List UInt8 := Lib.join [word f.kind, Lib.itoa f.group, Lib.itoa f.at_, idText f.id] [32] ++ [10]
theorem faultLine_len (f : Fault) (h : f.ok) : (faultLine f).length ≤ 320 := by
  obtain ⟨⟨_, _⟩, hid, ⟨_, _⟩, ⟨_, _⟩⟩ := h
  have h1 := word_len f.kind
  have h2 := itoaL f.group (by constructor <;> omega)
  have h3 := itoaL f.at_ (by constructor <;> omega)
  have h4 := idText_len f.id hid
  have := join_len [32] [word f.kind, Lib.itoa f.group, Lib.itoa f.at_, idText f.id]
  simp only [faultLine, List.length_append, List.length_cons, List.length_nil, List.map_cons, List.map_nil, List.sum_cons, List.sum_nil] at this ⊢
  omega
def faultsText (l : List Fault) : List UInt8 := (l.map faultLine).flatten
theorem faults_snoc {l : List Fault} {k : Nat} {x : Fault} (h : l[k]? = some x) : faultsText (l.take (k + 1)) = faultsText (l.take k) ++ Lib.join [word x.kind, Lib.itoa x.group, Lib.itoa x.at_, idText x.id] [32] ++ [10] := by
  rw [take_snoc h]
  simp [faultsText, faultLine]
theorem faults_snoc' {l : List Fault} {k : Nat} {x : Fault} (h : l[k]? = some x) : faultsText (l.take (k + 1)) = faultsText (l.take k) ++ word x.kind ++ [32] ++ Lib.itoa x.group ++ [32] ++ Lib.itoa x.at_ ++ [32] ++ idText x.id ++ [10] := by
  rw [faults_snoc h]
  simp only [join_two, join_one, List.append_assoc]
theorem faults_len {l : List Fault} (hl : ∀ (i : Nat) (x : Fault), l[i]? = some x → x.ok) : (faultsText l).length ≤ 320 * l.length := by
  induction l with
  | nil => simp [faultsText]
  | cons f l ih =>
    have h1 := faultLine_len f (hl 0 f rfl)
    have h2 := ih fun i x h => hl (i + 1) x (by simpa using h)
    simp only [faultsText, List.map_cons, List.flatten_cons, List.length_append, List.length_cons] at h2 ⊢
    omega
theorem faults_len_take {l : List Fault} (hl : ∀ (i : Nat) (x : Fault), l[i]? = some x → x.ok) (k : Nat) (hk : k ≤ l.length) : (faultsText (l.take k)).length ≤ 320 * k := by
  have := faults_len (l := l.take k) fun i x h => by
    rw [List.getElem?_take] at h
    split at h
    · exact hl i x h
    · cases h
  simpa [List.length_take, Nat.min_eq_left hk] using this
abbrev encID (d : ID) : Value := .agg #[.int .u8 d.client.node, .int .u16 d.client.life, .int .u32 d.seq, .int .u8 d.depth, .int .u8 d.p0.group, .int .u8 d.p0.index, .int .u8 d.p1.group, .int .u8 d.p1.index, .int .u8 d.p2.group, .int .u8 d.p2.index]
abbrev encFault (f : Fault) : List Value := [.int .i64 f.kind, .int .u8 f.id.client.node, .int .u16 f.id.client.life, .int .u32 f.id.seq, .int .u8 f.id.depth, .int .u8 f.id.p0.group, .int .u8 f.id.p0.index, .int .u8 f.id.p1.group, .int .u8 f.id.p1.index, .int .u8 f.id.p2.group, .int .u8 f.id.p2.index, .int .u8 f.group, .int .i64 f.at_]
def pickT (l : List (List UInt8)) (k : Int) : List UInt8 := if 0 ≤ k ∧ k < l.length then l.getD k.toNat [] else [111, 100, 100]
theorem pickT_in {l : List (List UInt8)} {k : Int} (h0 : 0 ≤ k) (h : k < l.length) : l.getD k.toNat [] = pickT l k := by
  unfold pickT
  rw [if_pos ⟨h0, h⟩]
theorem pickT_out {l : List (List UInt8)} {k : Int} (h : k < 0 ∨ l.length ≤ k) : pickT l k = [111, 100, 100] := by
  unfold pickT
  rw [if_neg (by omega)]
theorem itoa_0 : Lib.itoa 0 = [48] := itoa_small 0 (by decide) (by decide)
theorem itoa_1 : Lib.itoa 1 = [49] := itoa_small 1 (by decide) (by decide)
theorem itoa_9 : Lib.itoa 9 = [57] := itoa_small 9 (by decide) (by decide)
theorem idText_nine : idText ⟨⟨9, 1⟩, 1, 0, ⟨0, 0⟩, ⟨0, 0⟩, ⟨0, 0⟩⟩ = [57, 46, 49, 47, 49] := by
  unfold idText
  rw [path0 _ (by decide)]
  simp only [point, itoa_1, itoa_9]
  rfl
theorem flat_snoc {α : Type} {enc : α → List Value} {l : List α} {k : Nat} {x : α} (h : l[k]? = some x) : (l.take (k + 1)).flatMap enc = (l.take k).flatMap enc ++ enc x := by
  rw [take_snoc h, List.flatMap_append]
  simp
end Go.Eng
