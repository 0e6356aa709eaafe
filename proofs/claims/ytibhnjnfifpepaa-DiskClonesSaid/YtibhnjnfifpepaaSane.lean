/- The examples of the documentation, as states; no program in sight. -/
import Derived.Test.YtibhnjnfifpepaaClone
namespace Go.Proofs.Ytibhnjnfifpepaa
open Go.RowKit Go.Maps Go.Sort Go.Shelf

def Sa : St := writeS (newS 2) 0 (fullB 97)
theorem sa_e : writeE (newS 2) 0 (fullB 97) = 0 := by decide +kernel
theorem sa_r : readB Sa 0 = fullB 97 := by decide +kernel
theorem sa_c : checkE Sa 0 = 0 := by decide +kernel
theorem sa_b : Sa.bl = [zeroBs, zeroBs] := by decide +kernel
theorem keys_one (D : Dt) (z : Int) (h : intKeys D = [z]) : keysOf D = [z] := by rw [keysOf, h, List.mergeSort_singleton]
theorem sa_k : keysOf Sa.pend = [0] := keys_one _ _ (by decide +kernel)
def Sb : St := { settleK Sa [0] (pickF [3]) 1 with off := false, left := -1 }
theorem sb_m : mountS Sa [3] = Sb := by unfold mountS; rw [sa_k]; rfl
theorem sb_r : readB Sb 0 = [97, 97, 97] ++ (List.replicate 61 0) := by decide +kernel
theorem sb_c : checkE Sb 0 = 0 := by decide +kernel
def Sc : St := writeS Sb 1 (fullB 97)
theorem sc_k : keysOf Sc.pend = [1] := keys_one _ _ (by decide +kernel)
def Sd : St := settleK (stepS Sc) [1] (fun _ => 64) 1
theorem sd_e : flushE Sc = 0 := by decide +kernel
theorem sd_f : flushS Sc = Sd := by
  have h1 : checkE Sc 0 = 0 := by decide +kernel
  have h2 : stepE Sc = 0 := by decide +kernel
  unfold flushS
  rw [if_neg (by simp [h1]), if_neg (by simp [h2]), (step_len Sc).2.1, sc_k]
  rfl
def Se : St := rotS Sd 1 0
theorem se_e : rotE Sd 1 0 = 0 := by decide +kernel
theorem se_r : readB Se 1 = 96 :: List.replicate 63 97 := by decide +kernel
theorem se_c : checkE Se 1 = 0 := by decide +kernel
def Sf : St := wearS Se 0
theorem sf_e : wearE Se 0 = 0 := by decide +kernel
def Sg : St := { Sf with left := 1 }
def Sh : St := writeS Sg 0 (fullB 98)
theorem sh_e : writeE Sg 0 (fullB 98) = 0 := by decide +kernel
theorem sh_k : keysOf Sh.pend = [0] := keys_one _ _ (by decide +kernel)
def Si : St := flushS Sh
theorem si_e : flushE Sh = 24 := by decide +kernel
theorem si_s : Si = stepS Sh := by
  have h1 : checkE Sh 0 = 0 := by decide +kernel
  have h2 : stepE Sh = 24 := by decide +kernel
  unfold Si flushS
  rw [if_neg (by simp [h1]), if_pos (by simp [h2])]
theorem si_c : checkE Si 0 = 24 := by rw [si_s]; decide +kernel
theorem si_o : Si.off = true := by rw [si_s]; decide +kernel
theorem si_w : keysOf Si.worn = [0] := by rw [si_s]; exact keys_one _ _ (by decide +kernel)
theorem si_l : Si.bl.length = 2 := by rw [si_s]; decide +kernel
theorem pendOK_one (S : St) (z : Int) (h : keysOf S.pend = [z]) (h0 : 0 ≤ z) (h1 : z < S.bl.length) : PendOK S := by
  intro y hy
  rw [h] at hy
  simp only [List.mem_singleton] at hy
  subst hy
  exact ⟨h0, h1⟩
theorem sa_p : PendOK Sa := pendOK_one _ _ sa_k (by decide) (by decide +kernel)
theorem sc_p : PendOK Sc := pendOK_one _ _ sc_k (by decide) (by decide +kernel)
theorem sh_p : PendOK Sh := pendOK_one _ _ sh_k (by decide) (by decide +kernel)
end Go.Proofs.Ytibhnjnfifpepaa
