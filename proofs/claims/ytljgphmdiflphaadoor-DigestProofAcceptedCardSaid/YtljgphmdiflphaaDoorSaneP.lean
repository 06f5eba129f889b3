/- sane, the values. -/
import Derived.Test.YtljgphmdiflphaaDoorFew
namespace Go.Proofs.YtljgphmdiflphaaDoor
set_option linter.unusedVariables false
def sA : ByteArray := ⟨#[97]⟩
def sB : ByteArray := ⟨#[98]⟩
def sC : ByteArray := ⟨#[99]⟩
def sD : ByteArray := ⟨#[100]⟩
def sABC : ByteArray := ⟨#[97, 98, 99]⟩
def sL : List ByteArray := [sA, sB, sC]
def sHex0 : ByteArray := ⟨#[101, 51, 98, 48, 99, 52, 52, 50, 57, 56, 102, 99, 49, 99, 49, 52, 57, 97, 102, 98, 102, 52, 99, 56, 57, 57, 54, 102, 98, 57, 50, 52, 50, 55, 97, 101, 52, 49, 101, 52, 54, 52, 57, 98, 57, 51, 52, 99, 97, 52, 57, 53, 57, 57, 49, 98, 55, 56, 53, 50, 98, 56, 53, 53]⟩
def sHex1 : ByteArray := ⟨#[98, 97, 55, 56, 49, 54, 98, 102, 56, 102, 48, 49, 99, 102, 101, 97, 52, 49, 52, 49, 52, 48, 100, 101, 53, 100, 97, 101, 50, 50, 50, 51, 98, 48, 48, 51, 54, 49, 97, 51, 57, 54, 49, 55, 55, 97, 57, 99, 98, 52, 49, 48, 102, 102, 54, 49, 102, 50, 48, 48, 49, 53, 97, 100]⟩
set_option maxRecDepth 100000 in
theorem sane_v1 : verB (rootB sL) 3 2 sC (prfB sL 2).reverse = true := by decide +kernel
set_option maxRecDepth 100000 in
theorem sane_v2 : verB (rootB sL) 3 2 sD (prfB sL 2).reverse = false := by decide +kernel
set_option maxRecDepth 100000 in
theorem sane_v3 : verEB (rootB [sA]) 1 (rootB sL) 3 (extB sL 1 true).reverse = true := by decide +kernel
set_option maxRecDepth 100000 in
theorem sane_v4 : verEB (rootB [sA, sB]) 1 (rootB sL) 3 (extB sL 1 true).reverse = false := by decide +kernel
set_option maxRecDepth 100000 in
theorem sane_h0 : hexB (sumB ⟨#[]⟩).data.toList = sHex0 := by decide +kernel
set_option maxRecDepth 100000 in
theorem sane_h1 : hexB (sumB sABC).data.toList = sHex1 := by decide +kernel
theorem sane_l1 : (prfB sL 2).reverse.length = 1 := by decide +kernel
theorem sane_l2 : (extB sL 1 true).reverse.length = 2 := by decide +kernel
theorem sane_a1 : allD (prfB sL 2).reverse = true := by decide +kernel
theorem sane_a2 : allD (extB sL 1 true).reverse = true := by decide +kernel
end Go.Proofs.YtljgphmdiflphaaDoor
