/- Texts as rows of bytes. Conditions: none. -/
import Derived.Test.YtnlodeadhnonpaaDoorMem
import Derived.Laws.BytesArg
import Derived.Laws.Strings
import Derived.Lib.SmallJoins
import Derived.Lib.AppendStr
namespace Go.Proofs.YtnlodeadhnonpaaDoor.Str
open Go.RowKit
set_option linter.unusedVariables false
set_option linter.unusedSimpArgs false

theorem w64 {n : Int} (h0 : -9223372036854775808 ≤ n) (h1 : n < 9223372036854775808) : wrap64 n = n := by unfold wrap64; omega

/-- A text's bytes. -/
def bs (s : ByteArray) : List Nat := s.data.toList.map UInt8.toNat
/-- A text's byte at a place. -/
def bt (s : ByteArray) (i : Int) : Int := if h : i.toNat < s.size then ((s[i.toNat]'h).toNat : Int) else 0
theorem bt_at (s : ByteArray) (i : Int) : ∀ h : i.toNat < s.size, ((s[i.toNat]'h).toNat : Int) = bt s i := fun h => by simp [bt, h]
theorem data_length (s : ByteArray) : s.data.toList.length = s.size := rfl
theorem bs_length (s : ByteArray) : (bs s).length = s.size := by
  show (s.data.toList.map UInt8.toNat).length = _
  rw [List.length_map]; exact data_length s
theorem bs_lt (s : ByteArray) : ∀ b ∈ bs s, b < 256 := by
  intro b hb
  obtain ⟨x, _, rfl⟩ := List.mem_map.1 hb
  exact x.toNat_lt
theorem bs_bt (s : ByteArray) (i : Nat) (h : i < s.size) : bt s (i : Int) = (((bs s)[i]'(by rw [bs_length]; exact h) : Nat) : Int) := by
  unfold bt
  rw [dif_pos (by simpa using h)]
  simp only [bs, List.getElem_map]
  rfl
theorem bs_eq {s t : ByteArray} (h : bs s = bs t) : s = t := by
  have inj : ∀ a b : UInt8, a.toNat = b.toNat → a = b := fun a b hab => UInt8.toNat_inj.1 hab
  have := (List.map_inj_right inj).1 h
  cases s; cases t; congr; exact Array.toList_inj.1 this
theorem bs_append (s t : ByteArray) : bs (s ++ t) = bs s ++ bs t := by
  unfold bs; simp [ByteArray.data_append]
theorem bs_extract (s : ByteArray) (a b : Nat) : bs (s.extract a b) = ((bs s).drop a).take (b - a) := by
  unfold bs; rw [Lib.extract_data, List.map_take, List.map_drop]
theorem bs_nil {s : ByteArray} : bs s = [] ↔ s.size = 0 := by
  constructor
  · intro h; have := bs_length s; rw [h] at this; exact this.symm
  · intro h; exact List.eq_nil_of_length_eq_zero (by rw [bs_length]; exact h)
theorem toList_nil {s : ByteArray} : s.toList = ([] : List UInt8) ↔ s.size = 0 := by
  rw [ByteArray.toList_eq]
  constructor
  · intro h; have := congrArg List.length h; rw [data_length] at this; exact this
  · intro h; exact List.eq_nil_of_length_eq_zero (by rw [data_length]; exact h)
end Go.Proofs.YtnlodeadhnonpaaDoor.Str
