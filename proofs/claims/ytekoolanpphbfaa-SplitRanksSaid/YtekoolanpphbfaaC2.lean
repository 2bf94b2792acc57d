import Derived.Test.YtekoolanpphbfaaC1
import Derived.Test.YtekoolanpphbfaaChecked
set_option linter.unusedSimpArgs false
set_option linter.unusedVariables false
set_option linter.unnecessarySimpa false
namespace Go.A.Seat
open Go.Proofs
theorem r3 : resolveF Try.prog ann3 3 = some fun3 := by kernel_rfl
theorem r4 : resolveF Try.prog ann4 4 = some fun4 := by kernel_rfl
theorem r5 : resolveF Try.prog ann5 5 = some fun5 := by kernel_rfl
theorem r10 : resolveF Try.prog ann10 10 = some fun10 := by kernel_rfl
theorem r11 : resolveF Try.prog ann11 11 = some fun11 := by kernel_rfl
theorem r12 : resolveF Try.prog ann12 12 = some fun12 := by kernel_rfl
theorem r13 : resolveF Try.prog ann13 13 = some fun13 := by kernel_rfl
theorem r14 : resolveF Try.prog ann14 14 = some fun14 := by kernel_rfl
theorem r15 : resolveF Try.prog ann15 15 = some fun15 := by kernel_rfl
theorem r16 : resolveF Try.prog ann16 16 = some fun16 := by kernel_rfl
theorem r17 : resolveF Try.prog ann17 17 = some fun17 := by kernel_rfl
theorem r34 : resolveF Try.prog ann34 34 = some fun34 := by kernel_rfl
theorem r35 : resolveF Try.prog ann35 35 = some fun35 := by kernel_rfl
theorem r36 : resolveF Try.prog ann36 36 = some fun36 := by kernel_rfl
theorem r63 : resolveF Try.prog ann63 63 = some fun63 := by kernel_rfl
theorem r64 : resolveF Try.prog ann64 64 = some fun64 := by kernel_rfl
theorem r65 : resolveF Try.prog ann65 65 = some fun65 := by kernel_rfl
theorem r66 : resolveF Try.prog ann66 66 = some fun66 := by kernel_rfl
theorem r84 : resolveF Try.prog ann84 84 = some fun84 := by kernel_rfl
theorem r85 : resolveF Try.prog ann85 85 = some fun85 := by kernel_rfl
theorem r86 : resolveF Try.prog ann86 86 = some fun86 := by kernel_rfl
theorem r92 : resolveF Try.prog ann92 92 = some fun92 := by kernel_rfl
theorem r93 : resolveF Try.prog ann93 93 = some fun93 := by kernel_rfl
theorem tbl_ok : ∀ f s, tbl f = some s → ∃ ann, resolveF Try.prog ann f = some s := by
  intro f s h
  unfold tbl at h
  split at h
  · obtain rfl := Option.some.inj h; exact ⟨ann3, r3⟩
  · obtain rfl := Option.some.inj h; exact ⟨ann4, r4⟩
  · obtain rfl := Option.some.inj h; exact ⟨ann5, r5⟩
  · obtain rfl := Option.some.inj h; exact ⟨ann10, r10⟩
  · obtain rfl := Option.some.inj h; exact ⟨ann11, r11⟩
  · obtain rfl := Option.some.inj h; exact ⟨ann12, r12⟩
  · obtain rfl := Option.some.inj h; exact ⟨ann13, r13⟩
  · obtain rfl := Option.some.inj h; exact ⟨ann14, r14⟩
  · obtain rfl := Option.some.inj h; exact ⟨ann15, r15⟩
  · obtain rfl := Option.some.inj h; exact ⟨ann16, r16⟩
  · obtain rfl := Option.some.inj h; exact ⟨ann17, r17⟩
  · obtain rfl := Option.some.inj h; exact ⟨ann34, r34⟩
  · obtain rfl := Option.some.inj h; exact ⟨ann35, r35⟩
  · obtain rfl := Option.some.inj h; exact ⟨ann36, r36⟩
  · obtain rfl := Option.some.inj h; exact ⟨ann63, r63⟩
  · obtain rfl := Option.some.inj h; exact ⟨ann64, r64⟩
  · obtain rfl := Option.some.inj h; exact ⟨ann65, r65⟩
  · obtain rfl := Option.some.inj h; exact ⟨ann66, r66⟩
  · obtain rfl := Option.some.inj h; exact ⟨ann84, r84⟩
  · obtain rfl := Option.some.inj h; exact ⟨ann85, r85⟩
  · obtain rfl := Option.some.inj h; exact ⟨ann86, r86⟩
  · obtain rfl := Option.some.inj h; exact ⟨ann92, r92⟩
  · obtain rfl := Option.some.inj h; exact ⟨ann93, r93⟩
  · simp at h
theorem mix : Try.prog.follows .mixedOrders = true := by kernel_rfl
theorem X0_sound : SoundO Try.prog X0 := fun f args H v H' h => by simp [X0] at h
theorem callW_ok0 : SoundO Try.prog (callW tbl X0) := callW_sound tbl_ok X0_sound mix
end Go.A.Seat
