/- Plain facts on strings as lists of bytes. -/
import Derived.Test.YtfjmjlpobbjjdaaDoorGround
namespace Go.Proofs.YtfjmjlpobbjjdaaDoor
open Go.RowKit

theorem mk_app (a b : List UInt8) : (ByteArray.mk a.toArray) ++ (ByteArray.mk b.toArray) = ⟨(a ++ b).toArray⟩ := by
  apply ByteArray.ext; simp
theorem size_mk (l : List UInt8) : (ByteArray.mk l.toArray).size = l.length := by simp [ByteArray.size]
theorem cut_to (T : List UInt8) (k : Nat) : ((ByteArray.mk T.toArray).extract 0 k).toList = T.take k := by
  rw [ByteArray.extract_mk, ByteArray.toList_eq]; simp
theorem data_mk (l : List UInt8) : (ByteArray.mk l.toArray).data.toList = l := by simp
theorem mk_data (s : ByteArray) : s = ⟨s.data.toList.toArray⟩ := by apply ByteArray.ext; simp
theorem keep_alloc {g : Nat} {u w : World} (h : Keep g u w) (o : Obj) : Keep g u (w.alloc o) :=
  h.trans (Keep.of ((Below.refl _ _).alloc (Nat.le_refl _) _))
end Go.Proofs.YtfjmjlpobbjjdaaDoor
