/- Chat: bytes as texts. -/
import Derived.Test.YtgniedijgbaheaaDoorPrChC
namespace Go.Proofs.YtgniedijgbaheaaDoor
open Go Go.RowKit Go.Ev
def byt : Value → UInt8
  | .int .u8 n => UInt8.ofNat n.toNat
  | _ => 0
theorem fold_data : ∀ (l : List Value) (s : ByteArray), l.all isU8 = true → (l.foldl pushU8 s).data = s.data ++ (l.map byt).toArray
  | [], s, _ => by simp
  | v :: l, s, h => by
    simp only [List.all_cons, Bool.and_eq_true] at h
    rw [List.foldl_cons, fold_data l _ h.2]
    cases v with
    | int k n =>
      cases k <;> first
        | (cases h.1; done)
        | (show (s.push (UInt8.ofNat n.toNat)).data ++ _ = _
           rw [ByteArray.data_push]
           simp [byt])
    | _ => cases h.1
theorem text_data {l : List Value} (h : l.all isU8 = true) : (textOf l).data = (l.map byt).toArray := by
  unfold textOf
  rw [fold_data l _ h]
  simp
theorem text_size {l : List Value} (h : l.all isU8 = true) : (textOf l).size = l.length := by
  show (textOf l).data.size = _
  rw [text_data h]
  simp
theorem bytes_ext {a b : ByteArray} (h : a.data = b.data) : a = b := by cases a; cases b; cases h; rfl
theorem text_append {a b : List Value} (ha : a.all isU8 = true) (hb : b.all isU8 = true) : textOf a ++ textOf b = textOf (a ++ b) := by
  refine bytes_ext ?_
  rw [ByteArray.data_append, text_data ha, text_data hb, text_data (by simp [ha, hb])]
  simp
theorem text_part {l : List Value} (h : l.all isU8 = true) {o k : Nat} : textOf (takeL l o k) = (textOf l).extract o (o + k) := by
  have hs : (takeL l o k).all isU8 = true := by
    rw [List.all_eq_true] at h ⊢
    intro v hv
    unfold takeL at hv
    exact h v (List.mem_of_mem_drop (List.mem_of_mem_take hv))
  refine bytes_ext ?_
  rw [ByteArray.data_extract, text_data h, text_data hs]
  unfold takeL
  apply Array.ext'
  simp [List.map_take, List.map_drop, List.extract_eq_take_drop]
end Go.Proofs.YtgniedijgbaheaaDoor
