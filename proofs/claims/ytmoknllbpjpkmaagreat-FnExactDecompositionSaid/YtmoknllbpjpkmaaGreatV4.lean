/- A part of the walk: what functions of the program do, over an abstract heap. -/
import Derived.Test.YtmoknllbpjpkmaaGreatV2
import Derived.Test.YtmoknllbpjpkmaaGreatV3
namespace Go.Proofs.YtmoknllbpjpkmaaGreat.Zed
open Go TP
set_option linter.unusedVariables false
set_option linter.unusedSimpArgs false
set_option maxRecDepth 20000
namespace tfV4
theorem tf : (Tryz.prog.underlying 25 = some (.slice 2)) ∧ (el Tryz.prog 25 = some (none, 1)) ∧ (Tryz.prog.underlying 37 = some (.slice 25)) ∧ (el Tryz.prog 37 = some (none, 1)) ∧ (tk Tryz.prog 2 = some none) ∧ (tk Tryz.prog 25 = some none) ∧ (tk Tryz.prog 31 = some (some 1)) ∧ (cz Tryz.prog 2 = some 1) ∧ (bz Tryz.prog 2 = some 8) ∧ (cz Tryz.prog 25 = some 1) ∧ (bz Tryz.prog 25 = some 24) ∧ (zr Tryz.prog 2 = some (.int .i64 0)) ∧ (zr Tryz.prog 25 = some (.slice none 0 0)) := by
  refine ⟨?_, ?_, ?_, ?_, ?_, ?_, ?_, ?_, ?_, ?_, ?_, ?_, ?_⟩ <;> kernel_rfl
end tfV4
open tfV4

set_option maxHeartbeats 4000000 in
/-- Both programs answer the same list. -/
theorem dec_both {T : List (List (Int × Int))} (hl : T.length ≤ 1048576) (v : List Int) (hv : v.length ≤ 1048576) : ∃ L c, OCalls Tryz.prog 13 [zT T, zI v] (iiV L c) ∧ ZCalls Tryz.prog 12 [zT T, zI v] (iiV L c) ∧ L.length ≤ 100000 ∧ ∀ r ∈ L, r.length ≤ 1000 := by
  have hci := splitCode_z hl v hv
  have hcs := l20Code_z hl v hv
  by_cases h : scT T v = 0
  · obtain ⟨h1, h2, h3⟩ := scT_ok h
    have hT := codeN_ok h1
    have h6 := codeN_six h1
    have hb := nrI_bd h2.1
    have ho : OkV T v := ⟨h2.1.1, hb, sv_nr h2.1, h3⟩
    rw [h] at hci hcs
    have hvl : v.length ≤ 42 := by have := h2.1.1; omega
    have hsm := smK_bd (fun i => (hb i).2) v.length
    obtain ⟨N, hN1, hN2, hN3⟩ := stV_end 42000 v ho (by omega)
    have hok := stV_ok ho
    have hfl : ∀ k, k < N → LeL (fpL T (stV T v k)) (stV T v k) ∧ 0 < (fpL T (stV T v k)).length := fun k hk => by
      rcases fpL_le (hok k) with ⟨q, _⟩ | ⟨_, q1, _, q2⟩
      · rw [hN3 k hk] at q; cases q
      · refine ⟨q1, ?_⟩
        rcases Nat.eq_zero_or_pos (fpL T (stV T v k)).length with h | h
        · rw [h] at q2; exact absurd rfl q2
        · exact h
    have hrl : ∀ r ∈ dcR T v N, r.length ≤ 1000 := fun r hr => by
      obtain ⟨k, hk, rfl⟩ := List.mem_map.1 hr
      have := (hfl k (List.mem_range.1 hk)).1.1
      have := (hok k).len
      omega
    refine ⟨dcR T v N, 0, ?_, ?_, by rw [dcR_len]; omega, hrl⟩
    · refine impl_dec hci (stV T v) (fun k => fpL T (stV T v k)) (dcR T v) N rfl rfl (dcR_succ T v) (dcR_len T v) (by omega) (fun k hk => ?_) (fun k hk => ?_) (fun H => ?_) (fun k hk => (hfl k hk).2)
      · obtain ⟨q1, q2⟩ := hfl k hk
        have := (hok k).len
        exact minus_o (by omega) (by have := q1.1; omega) q1.1 (hok k).bd (q1.bd fun j => ((hok k).bd j).2)
      · exact firstPart_o hT h6 (hok k).len (hok k).bd
      · refine (firstPart_c hT h6 (hok N).len (hok N).bd H).mono ?_
        rintro r H' ⟨he, ⟨_, rfl⟩ | ⟨u, hu, _⟩⟩
        · exact ⟨⟨[], .flat rfl .nil⟩, he⟩
        · rw [hN2] at hu; cases hu
    · refine spec_dec hcs (stV T v) (fun k => fpL T (stV T v k)) (fun k => supT (stV T v k) (stV T v k).length) (dcR T v) N rfl rfl (dcR_succ T v) (dcR_len T v) (by omega) (by omega) (fun k hk => ?_) (fun k hk => ?_) ?_ (fun k hk => ?_) (fun k hk => ?_)
      · exact specSupportOf_z (by have := (hok k).len; omega)
      · rcases PT_cases (hok k).bd (hok k).sv with ⟨_, _, q⟩ | ⟨q, _⟩
        · rw [hN3 k hk] at q; cases q
        · refine Classical.byContradiction fun hc => q (List.ext_getElem (by simp) fun i h1 h2 => ?_)
          have hz : (stV T v k).getD i 0 = 0 := Classical.byContradiction fun hz => hc (supT_pos hz _ h1)
          simpa [h1] using hz
      · rcases PT_cases (hok N).bd (hok N).sv with ⟨q, _, _⟩ | ⟨_, u, t, _, q, _⟩
        · show (supT (stV T v N) (stV T v N).length).length = 0
          rw [supT_nil _ fun i hi => ?_]
          · rfl
          · rw [q]
            simp only [List.getD_eq_getElem?_getD, List.getElem?_replicate]
            split <;> rfl
        · rw [hN2] at q; cases q
      · exact l20First_z hT h6 (hok k) (hN3 k hk)
      · obtain ⟨q1, q2⟩ := hfl k hk
        have := (hok k).len
        exact l17Plus_z (by omega) q1.1 (hok k).bd (q1.bd fun j => ((hok k).bd j).2)
  · refine ⟨[], scT T v, ?_, ?_, by simp, by simp⟩
    · have hcb : (scT T v == 0) = false := by rw [beq_eq_false_iff_ne]; exact h
      generalize scT T v = k at *
      clear h
      refine OCalls.body Tryz.func13 rfl Tryz.ntmps13 (rs := [.tmp 4, .tmp 5]) rfl (by simp) rfl fun H Q hQ A hA => ?_
      have a0 := hA 0 _ _ rfl
      have a1 := hA 1 _ _ rfl
      clear hA
      repeat' first | refine rnY ?_ | (first | refine ZCalls.to (hci) ?_ | refine ZCalls.tf (hci) ?_) | with_reducible refine And.intro (fun hc => ?_) (fun hc => ?_) | fail
      exact hQ.out _ _ ((two_nil k).out) (by exact exY)
    · have hcb : (scT T v == 0) = false := by rw [beq_eq_false_iff_ne]; exact h
      generalize scT T v = k at *
      clear h
      refine ZCalls.body Tryz.func12 rfl Tryz.ntmps12 (rs := [.tmp 4, .tmp 5]) rfl (by simp) rfl fun H Q hQ A hA => ?_
      have a0 := hA 0 _ _ rfl
      have a1 := hA 1 _ _ rfl
      clear hA
      repeat' first | refine rnY ?_ | (first | refine ZCalls.to (hcs) ?_ | refine ZCalls.tf (hcs) ?_) | with_reducible refine And.intro (fun hc => ?_) (fun hc => ?_) | fail
      exact hQ.out _ _ ((two_nil k).fin) (by exact exY)
end Go.Proofs.YtmoknllbpjpkmaaGreat.Zed
