/- Plain arithmetic of two laws: sums and products of small numbers do not go beyond 64 bits. Conditions: the numbers are small. -/
import Derived.Test.YtfkjbiigciabpaaGreatVgLaw
namespace Go.Vg

theorem wrap64 {n : Int} (h1 : -9223372036854775808 ≤ n) (h2 : n ≤ 9223372036854775807) : IntKind.i64.wrap n = n := wrap_in h1 h2

theorem bound_plain (t s l b : Int) (t1 : 1 ≤ t) (t2 : t ≤ 64) (s1 : 1 ≤ s) (s2 : s ≤ 65536) (l1 : 1 ≤ l) (l2 : l ≤ 64) (b1 : 1 ≤ b) (b2 : b ≤ 64) :
    ¬ opI .mul .i64 160 (opI .add .i64 s (opI .mul .i64 t l)) <
      opI .add .i64 (opI .add .i64 (opI .add .i64 (opI .add .i64 (opI .mul .i64 12 s) (opI .mul .i64 (opI .mul .i64 4 t) l)) (opI .mul .i64 8 t)) (opI .mul .i64 4 b)) 40 := by
  have p1 : t * l ≤ 64 * 64 := Int.mul_le_mul t2 l2 (by omega) (by omega)
  have p2 : t * 1 ≤ t * l := Int.mul_le_mul_of_nonneg_left l1 (by omega)
  have p3 : 4 * t * l = 4 * (t * l) := Int.mul_assoc 4 t l
  simp only [opI]
  rw [wrap64 (n := t * l) (by omega) (by omega), wrap64 (n := s + t * l) (by omega) (by omega), wrap64 (n := 160 * (s + t * l)) (by omega) (by omega), wrap64 (n := 12 * s) (by omega) (by omega), wrap64 (n := 4 * t) (by omega) (by omega), p3,
    wrap64 (n := 4 * (t * l)) (by omega) (by omega), wrap64 (n := 8 * t) (by omega) (by omega), wrap64 (n := 4 * b) (by omega) (by omega), wrap64 (n := 12 * s + 4 * (t * l)) (by omega) (by omega), wrap64 (n := 12 * s + 4 * (t * l) + 8 * t) (by omega) (by omega),
    wrap64 (n := 12 * s + 4 * (t * l) + 8 * t + 4 * b) (by omega) (by omega), wrap64 (n := 12 * s + 4 * (t * l) + 8 * t + 4 * b + 40) (by omega) (by omega)]
  omega

theorem len4 {ns : List Int} (h : ns.length = 4) : ∃ a b c d, ns = [a, b, c, d] := by
  match ns, h with
  | [a, b, c, d], _ => exact ⟨a, b, c, d, rfl⟩
theorem len7 {ns : List Int} (h : ns.length = 7) : ∃ a b c d e f g, ns = [a, b, c, d, e, f, g] := by
  match ns, h with
  | [a, b, c, d, e, f, g], _ => exact ⟨a, b, c, d, e, f, g, rfl⟩
theorem row4 (a b c d : Int) : (denL (envI [a, b, c, d]) [.agg [.int .i64 (.var 0), .int .i64 (.var 1), .int .i64 (.var 2), .int .i64 (.var 3)]]).toArray = #[.agg (List.zipWith Value.int [.i64, .i64, .i64, .i64] [a, b, c, d]).toArray] := by
  simp [denL, SV.den, IE.den, envI]
theorem row77 (a b c d e f g a' b' c' d' e' f' g' : Int) : (denL (envI ([a, b, c, d, e, f, g] ++ [a', b', c', d', e', f', g'])) [.agg [.int .u32 (.var 0), .int .u32 (.var 1), .int .u32 (.var 2), .int .u32 (.var 3), .int .u32 (.var 4), .int .u32 (.var 5), .int .u32 (.var 6)],
      .agg [.int .u32 (.var 7), .int .u32 (.var 8), .int .u32 (.var 9), .int .u32 (.var 10), .int .u32 (.var 11), .int .u32 (.var 12), .int .u32 (.var 13)]]).toArray =
    #[.agg (List.zipWith Value.int [.u32, .u32, .u32, .u32, .u32, .u32, .u32] [a, b, c, d, e, f, g]).toArray, .agg (List.zipWith Value.int [.u32, .u32, .u32, .u32, .u32, .u32, .u32] [a', b', c', d', e', f', g']).toArray] := by
  simp [denL, SV.den, IE.den, envI]

end Go.Vg
