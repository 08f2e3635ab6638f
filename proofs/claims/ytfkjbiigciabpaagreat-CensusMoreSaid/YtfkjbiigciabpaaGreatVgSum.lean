/- The sums of the program: its functions do what the sums' plain functions say. No condition. -/
import Derived.Test.YtfkjbiigciabpaaGreatVgSumL
import Derived.Test.YtfkjbiigciabpaaGreatVgSeat
namespace Go.Proofs
open Go.Vg

theorem Tryz.W : ∀ F : Fr, SoundW (I2 sumF) Tryz.prog F (wrF Tryz.G.ty) := wrF_sound Tryz.G_ok.ty

theorem Tryz.bit : Pure2 Tryz.prog 470 .u32 .u32 .u32 bitL :=
  pure2_of_view (fuel := 1000) Tryz.G_ok Tryz.W (ctOf_sound (l := []) (fun p hp => by cases hp))
    (vs := [(.int .u32 (.bin .xor .u32 (.bin .shr .u32 (.var 0) (.lit 1)) (.lit 2197175160)), [.cond (.eql (.bin .and .u32 (.bin .xor .u32 (.var 0) (.var 1)) (.lit 1)) (.lit 1)) true]),
      (.int .u32 (.bin .shr .u32 (.var 0) (.lit 1)), [.cond (.eql (.bin .and .u32 (.bin .xor .u32 (.var 0) (.var 1)) (.lit 1)) (.lit 1)) false])]) (by kernel_rfl)
    (fun p hp ρ hh => by
      simp only [List.mem_cons, List.not_mem_nil, or_false] at hp
      rcases hp with rfl | rfl
      · have := hh.1
        simp only [PI.holds, BE.den, IE.den] at this
        have h2 : ieq (opI .and .u32 (opI .xor .u32 (ρ.i 0) (ρ.i 1)) 1) 1 = true := by rw [ieq_eq]; exact decide_eq_true (of_decide_eq_true this)
        simp only [SV.den, IE.den, bitL, foldI_eq, h2, cond_true]
      · have := hh.1
        simp only [PI.holds, BE.den, IE.den] at this
        have h2 : ieq (opI .and .u32 (opI .xor .u32 (ρ.i 0) (ρ.i 1)) 1) 1 = false := by rw [ieq_eq]; exact decide_eq_false (of_decide_eq_false this)
        simp only [SV.den, IE.den, bitL, foldI_eq, h2, cond_false])

theorem Tryz.byte : Pure2 Tryz.prog 429 .u32 .u8 .u32 byteL :=
  pure2_of_view (fuel := 1000) Tryz.G_ok Tryz.W (ctOf_sound (l := [(470, binT 0 .u32 .u32 .u32 bitL)]) (fun p hp => by
      simp only [List.mem_cons, List.not_mem_nil, or_false] at hp
      subst hp
      exact fun F => binT_sound (F2 := sumF) (p := 0) (f := bitL) (fL := bitL) (F := F) (fun _ _ => rfl) (fun _ _ => rfl) Tryz.bit))
    (vs := [(.int .u32 (.var 9), [.fact 0 [.var 9, .var 8, .wrap .u32 (.bin .shr .u8 (.var 1) (.lit 7))] [] [] [] [], .fact 0 [.var 8, .var 7, .wrap .u32 (.bin .shr .u8 (.var 1) (.lit 6))] [] [] [] [],
      .fact 0 [.var 7, .var 6, .wrap .u32 (.bin .shr .u8 (.var 1) (.lit 5))] [] [] [] [], .fact 0 [.var 6, .var 5, .wrap .u32 (.bin .shr .u8 (.var 1) (.lit 4))] [] [] [] [],
      .fact 0 [.var 5, .var 4, .wrap .u32 (.bin .shr .u8 (.var 1) (.lit 3))] [] [] [] [], .fact 0 [.var 4, .var 3, .wrap .u32 (.bin .shr .u8 (.var 1) (.lit 2))] [] [] [] [],
      .fact 0 [.var 3, .var 2, .wrap .u32 (.bin .shr .u8 (.var 1) (.lit 1))] [] [] [] [], .fact 0 [.var 2, .var 0, .wrap .u32 (.bin .shr .u8 (.var 1) (.lit 0))] [] [] [] []])]) (by kernel_rfl)
    (fun p hp ρ hh => by
      simp only [List.mem_cons, List.not_mem_nil, or_false] at hp
      subst hp
      simp only [holds, PI.holds, I2, sumF, List.map_cons, List.map_nil, IE.den, ← foldI_eq, ← wrapF_eq, and_true] at hh
      obtain ⟨h7, h6, h5, h4, h3, h2, h1, h0⟩ := hh
      simp only [SV.den, IE.den, byteL, h7, h6, h5, h4, h3, h2, h1, h0])

theorem Tryz.word : Pure2 Tryz.prog 394 .u32 .u64 .u32 wordL :=
  pure2_of_view (fuel := 1000) Tryz.G_ok Tryz.W (ctOf_sound (l := [(429, binT 1 .u32 .u8 .u32 byteL)]) (fun p hp => by
      simp only [List.mem_cons, List.not_mem_nil, or_false] at hp
      subst hp
      exact fun F => binT_sound (F2 := sumF) (p := 1) (f := byteL) (fL := byteL) (F := F) (fun _ _ => rfl) (fun _ _ => rfl) Tryz.byte))
    (vs := [(.int .u32 (.var 9), [.fact 1 [.var 9, .var 8, .wrap .u8 (.bin .shr .u64 (.var 1) (.lit 56))] [] [] [] [], .fact 1 [.var 8, .var 7, .wrap .u8 (.bin .shr .u64 (.var 1) (.lit 48))] [] [] [] [],
      .fact 1 [.var 7, .var 6, .wrap .u8 (.bin .shr .u64 (.var 1) (.lit 40))] [] [] [] [], .fact 1 [.var 6, .var 5, .wrap .u8 (.bin .shr .u64 (.var 1) (.lit 32))] [] [] [] [],
      .fact 1 [.var 5, .var 4, .wrap .u8 (.bin .shr .u64 (.var 1) (.lit 24))] [] [] [] [], .fact 1 [.var 4, .var 3, .wrap .u8 (.bin .shr .u64 (.var 1) (.lit 16))] [] [] [] [],
      .fact 1 [.var 3, .var 2, .wrap .u8 (.bin .shr .u64 (.var 1) (.lit 8))] [] [] [] [], .fact 1 [.var 2, .var 0, .wrap .u8 (.bin .shr .u64 (.var 1) (.lit 0))] [] [] [] []])]) (by kernel_rfl)
    (fun p hp ρ hh => by
      simp only [List.mem_cons, List.not_mem_nil, or_false] at hp
      subst hp
      simp only [holds, PI.holds, I2, sumF, List.map_cons, List.map_nil, IE.den, ← foldI_eq, ← wrapF_eq, and_true] at hh
      obtain ⟨h7, h6, h5, h4, h3, h2, h1, h0⟩ := hh
      simp only [SV.den, IE.den, wordL, h7, h6, h5, h4, h3, h2, h1, h0])

def Tryz.ct : CT := ctOf [(394, binT 2 .u32 .u64 .u32 wordL)]
theorem Tryz.T : ∀ F, SoundT (I2 sumF) Tryz.prog F Tryz.ct := ctOf_sound (fun p hp => by
      simp only [List.mem_cons, List.not_mem_nil, or_false] at hp
      subst hp
      exact fun F => binT_sound (F2 := sumF) (p := 2) (f := wordL) (fL := wordL) (F := F) (fun _ _ => rfl) (fun _ _ => rfl) Tryz.word)
end Go.Proofs
