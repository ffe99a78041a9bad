/- The library's functions that are taken by contract. -/
import Derived.Test.YtombnimlolbekaaGreatDoorPuLanes
import Derived.Test.YtombnimlolbekaaGreatDoorFwC
namespace Fw
open Go
theorem max2 (a b : Int) : maxInt a [iv b] = some (max a b) := by
  simp only [maxInt]; congr 1; split <;> omega
theorem min2 (a b : Int) : minInt a [iv b] = some (min a b) := by
  simp only [minInt]; congr 1; split <;> omega
theorem itoa133 {n : Nat} (x : Int) (h1 : -9223372036854775808 ≤ x) (h2 : x ≤ 9223372036854775807) : RUN n 133 [iv x] = .ret (.p (.str (itoaS x))) := by
  have : C0 133 [iv x] = some (.ret (.p (.str (itoaS x)))) := by simp [C0, tabC, cItoa, h1, h2]
  simp only [RUN, callPure, this]
theorem join130 {n : Nat} (ls : List (List UInt8)) (sep : List UInt8) (h1 : ls.length ≤ lim) (h2 : (Lib.join ls sep).length ≤ lim) : RUN n 130 [.p (.sl (pStr ls) ls.length), .p (.str sep)] = .ret (.p (.str (Lib.join ls sep))) := by
  have : C0 130 [.p (.sl (pStr ls) ls.length), .p (.str sep)] = some (.ret (.p (.str (Lib.join ls sep)))) := by simp [C0, tabC, cJoin, strs_pStr, h1, h2]
  simp only [RUN, callPure, this]
theorem index198 {n : Nat} (l : List UInt8) (c : UInt8) : RUN n 198 [.p (.str l), .p (.int .u8 (c.toNat : Int))] = .ret (iv (Lib.indexByte l c)) := by
  have : C0 198 [.p (.str l), .p (.int .u8 (c.toNat : Int))] = some (.ret (iv (Lib.indexByte l c))) := by simp [C0, tabC, cIndexByte]
  simp only [RUN, callPure, this]
theorem count201 {n : Nat} (l : List UInt8) (c : UInt8) : RUN n 201 [.p (.str l), .p (.int .u8 (c.toNat : Int))] = .ret (iv (l.count c)) := by
  have : C0 201 [.p (.str l), .p (.int .u8 (c.toNat : Int))] = some (.ret (iv (l.count c))) := by simp [C0, tabC, cCount, Lib.countByte]
  simp only [RUN, callPure, this]
end Fw
