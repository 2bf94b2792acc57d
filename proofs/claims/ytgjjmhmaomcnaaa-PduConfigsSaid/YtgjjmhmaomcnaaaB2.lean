import Derived.Test.YtgjjmhmaomcnaaaB1
import Derived.Test.YtgjjmhmaomcnaaaChecked
namespace Go.A.SeatB
open Go.Proofs
theorem r3 : resolveF Try.prog ann3 3 = some fun3 := by kernel_rfl
theorem r4 : resolveF Try.prog ann4 4 = some fun4 := by kernel_rfl
theorem r5 : resolveF Try.prog ann5 5 = some fun5 := by kernel_rfl
theorem r6 : resolveF Try.prog ann6 6 = some fun6 := by kernel_rfl
theorem r7 : resolveF Try.prog ann7 7 = some fun7 := by kernel_rfl
theorem r8 : resolveF Try.prog ann8 8 = some fun8 := by kernel_rfl
theorem r9 : resolveF Try.prog ann9 9 = some fun9 := by kernel_rfl
theorem r10 : resolveF Try.prog ann10 10 = some fun10 := by kernel_rfl
theorem r11 : resolveF Try.prog ann11 11 = some fun11 := by kernel_rfl
theorem r12 : resolveF Try.prog ann12 12 = some fun12 := by kernel_rfl
theorem r13 : resolveF Try.prog ann13 13 = some fun13 := by kernel_rfl
theorem r14 : resolveF Try.prog ann14 14 = some fun14 := by kernel_rfl
theorem r15 : resolveF Try.prog ann15 15 = some fun15 := by kernel_rfl
theorem r16 : resolveF Try.prog ann16 16 = some fun16 := by kernel_rfl
theorem r17 : resolveF Try.prog ann17 17 = some fun17 := by kernel_rfl
theorem r18 : resolveF Try.prog ann18 18 = some fun18 := by kernel_rfl
theorem r19 : resolveF Try.prog ann19 19 = some fun19 := by kernel_rfl
theorem r20 : resolveF Try.prog ann20 20 = some fun20 := by kernel_rfl
theorem r21 : resolveF Try.prog ann21 21 = some fun21 := by kernel_rfl
theorem r22 : resolveF Try.prog ann22 22 = some fun22 := by kernel_rfl
theorem r23 : resolveF Try.prog ann23 23 = some fun23 := by kernel_rfl
theorem r24 : resolveF Try.prog ann24 24 = some fun24 := by kernel_rfl
theorem r25 : resolveF Try.prog ann25 25 = some fun25 := by kernel_rfl
theorem r26 : resolveF Try.prog ann26 26 = some fun26 := by kernel_rfl
theorem r27 : resolveF Try.prog ann27 27 = some fun27 := by kernel_rfl
theorem r28 : resolveF Try.prog ann28 28 = some fun28 := by kernel_rfl
theorem r29 : resolveF Try.prog ann29 29 = some fun29 := by kernel_rfl
theorem r30 : resolveF Try.prog ann30 30 = some fun30 := by kernel_rfl
theorem r31 : resolveF Try.prog ann31 31 = some fun31 := by kernel_rfl
theorem r32 : resolveF Try.prog ann32 32 = some fun32 := by kernel_rfl
theorem r33 : resolveF Try.prog ann33 33 = some fun33 := by kernel_rfl
theorem r34 : resolveF Try.prog ann34 34 = some fun34 := by kernel_rfl
theorem r35 : resolveF Try.prog ann35 35 = some fun35 := by kernel_rfl
theorem r36 : resolveF Try.prog ann36 36 = some fun36 := by kernel_rfl
theorem r37 : resolveF Try.prog ann37 37 = some fun37 := by kernel_rfl
theorem r38 : resolveF Try.prog ann38 38 = some fun38 := by kernel_rfl
theorem r39 : resolveF Try.prog ann39 39 = some fun39 := by kernel_rfl
theorem r40 : resolveF Try.prog ann40 40 = some fun40 := by kernel_rfl
theorem r41 : resolveF Try.prog ann41 41 = some fun41 := by kernel_rfl
theorem r42 : resolveF Try.prog ann42 42 = some fun42 := by kernel_rfl
theorem r43 : resolveF Try.prog ann43 43 = some fun43 := by kernel_rfl
theorem r44 : resolveF Try.prog ann44 44 = some fun44 := by kernel_rfl
theorem r45 : resolveF Try.prog ann45 45 = some fun45 := by kernel_rfl
theorem r46 : resolveF Try.prog ann46 46 = some fun46 := by kernel_rfl
theorem r47 : resolveF Try.prog ann47 47 = some fun47 := by kernel_rfl
theorem r48 : resolveF Try.prog ann48 48 = some fun48 := by kernel_rfl
theorem r49 : resolveF Try.prog ann49 49 = some fun49 := by kernel_rfl
theorem r50 : resolveF Try.prog ann50 50 = some fun50 := by kernel_rfl
theorem r51 : resolveF Try.prog ann51 51 = some fun51 := by kernel_rfl
theorem r52 : resolveF Try.prog ann52 52 = some fun52 := by kernel_rfl
theorem r53 : resolveF Try.prog ann53 53 = some fun53 := by kernel_rfl
theorem r54 : resolveF Try.prog ann54 54 = some fun54 := by kernel_rfl
theorem r55 : resolveF Try.prog ann55 55 = some fun55 := by kernel_rfl
theorem r56 : resolveF Try.prog ann56 56 = some fun56 := by kernel_rfl
theorem r57 : resolveF Try.prog ann57 57 = some fun57 := by kernel_rfl
theorem r58 : resolveF Try.prog ann58 58 = some fun58 := by kernel_rfl
theorem r60 : resolveF Try.prog ann60 60 = some fun60 := by kernel_rfl
theorem r61 : resolveF Try.prog ann61 61 = some fun61 := by kernel_rfl
theorem r62 : resolveF Try.prog ann62 62 = some fun62 := by kernel_rfl
theorem r63 : resolveF Try.prog ann63 63 = some fun63 := by kernel_rfl
theorem r64 : resolveF Try.prog ann64 64 = some fun64 := by kernel_rfl
theorem r65 : resolveF Try.prog ann65 65 = some fun65 := by kernel_rfl
theorem r66 : resolveF Try.prog ann66 66 = some fun66 := by kernel_rfl
theorem r67 : resolveF Try.prog ann67 67 = some fun67 := by kernel_rfl
theorem r68 : resolveF Try.prog ann68 68 = some fun68 := by kernel_rfl
theorem r69 : resolveF Try.prog ann69 69 = some fun69 := by kernel_rfl
theorem r70 : resolveF Try.prog ann70 70 = some fun70 := by kernel_rfl
theorem r71 : resolveF Try.prog ann71 71 = some fun71 := by kernel_rfl
theorem r72 : resolveF Try.prog ann72 72 = some fun72 := by kernel_rfl
theorem r73 : resolveF Try.prog ann73 73 = some fun73 := by kernel_rfl
theorem r74 : resolveF Try.prog ann74 74 = some fun74 := by kernel_rfl
theorem r75 : resolveF Try.prog ann75 75 = some fun75 := by kernel_rfl
theorem r76 : resolveF Try.prog ann76 76 = some fun76 := by kernel_rfl
theorem r77 : resolveF Try.prog ann77 77 = some fun77 := by kernel_rfl
theorem r79 : resolveF Try.prog ann79 79 = some fun79 := by kernel_rfl
theorem r80 : resolveF Try.prog ann80 80 = some fun80 := by kernel_rfl
theorem r81 : resolveF Try.prog ann81 81 = some fun81 := by kernel_rfl
theorem r82 : resolveF Try.prog ann82 82 = some fun82 := by kernel_rfl
theorem r83 : resolveF Try.prog ann83 83 = some fun83 := by kernel_rfl
theorem r84 : resolveF Try.prog ann84 84 = some fun84 := by kernel_rfl
theorem r85 : resolveF Try.prog ann85 85 = some fun85 := by kernel_rfl
theorem r86 : resolveF Try.prog ann86 86 = some fun86 := by kernel_rfl
theorem r87 : resolveF Try.prog ann87 87 = some fun87 := by kernel_rfl
theorem tbl_ok : ∀ f s, tbl f = some s → ∃ ann, resolveF Try.prog ann f = some s := by
  intro f s h
  unfold tbl at h
  split at h
  · obtain rfl := Option.some.inj h; exact ⟨ann3, r3⟩
  · obtain rfl := Option.some.inj h; exact ⟨ann4, r4⟩
  · obtain rfl := Option.some.inj h; exact ⟨ann5, r5⟩
  · obtain rfl := Option.some.inj h; exact ⟨ann6, r6⟩
  · obtain rfl := Option.some.inj h; exact ⟨ann7, r7⟩
  · obtain rfl := Option.some.inj h; exact ⟨ann8, r8⟩
  · obtain rfl := Option.some.inj h; exact ⟨ann9, r9⟩
  · obtain rfl := Option.some.inj h; exact ⟨ann10, r10⟩
  · obtain rfl := Option.some.inj h; exact ⟨ann11, r11⟩
  · obtain rfl := Option.some.inj h; exact ⟨ann12, r12⟩
  · obtain rfl := Option.some.inj h; exact ⟨ann13, r13⟩
  · obtain rfl := Option.some.inj h; exact ⟨ann14, r14⟩
  · obtain rfl := Option.some.inj h; exact ⟨ann15, r15⟩
  · obtain rfl := Option.some.inj h; exact ⟨ann16, r16⟩
  · obtain rfl := Option.some.inj h; exact ⟨ann17, r17⟩
  · obtain rfl := Option.some.inj h; exact ⟨ann18, r18⟩
  · obtain rfl := Option.some.inj h; exact ⟨ann19, r19⟩
  · obtain rfl := Option.some.inj h; exact ⟨ann20, r20⟩
  · obtain rfl := Option.some.inj h; exact ⟨ann21, r21⟩
  · obtain rfl := Option.some.inj h; exact ⟨ann22, r22⟩
  · obtain rfl := Option.some.inj h; exact ⟨ann23, r23⟩
  · obtain rfl := Option.some.inj h; exact ⟨ann24, r24⟩
  · obtain rfl := Option.some.inj h; exact ⟨ann25, r25⟩
  · obtain rfl := Option.some.inj h; exact ⟨ann26, r26⟩
  · obtain rfl := Option.some.inj h; exact ⟨ann27, r27⟩
  · obtain rfl := Option.some.inj h; exact ⟨ann28, r28⟩
  · obtain rfl := Option.some.inj h; exact ⟨ann29, r29⟩
  · obtain rfl := Option.some.inj h; exact ⟨ann30, r30⟩
  · obtain rfl := Option.some.inj h; exact ⟨ann31, r31⟩
  · obtain rfl := Option.some.inj h; exact ⟨ann32, r32⟩
  · obtain rfl := Option.some.inj h; exact ⟨ann33, r33⟩
  · obtain rfl := Option.some.inj h; exact ⟨ann34, r34⟩
  · obtain rfl := Option.some.inj h; exact ⟨ann35, r35⟩
  · obtain rfl := Option.some.inj h; exact ⟨ann36, r36⟩
  · obtain rfl := Option.some.inj h; exact ⟨ann37, r37⟩
  · obtain rfl := Option.some.inj h; exact ⟨ann38, r38⟩
  · obtain rfl := Option.some.inj h; exact ⟨ann39, r39⟩
  · obtain rfl := Option.some.inj h; exact ⟨ann40, r40⟩
  · obtain rfl := Option.some.inj h; exact ⟨ann41, r41⟩
  · obtain rfl := Option.some.inj h; exact ⟨ann42, r42⟩
  · obtain rfl := Option.some.inj h; exact ⟨ann43, r43⟩
  · obtain rfl := Option.some.inj h; exact ⟨ann44, r44⟩
  · obtain rfl := Option.some.inj h; exact ⟨ann45, r45⟩
  · obtain rfl := Option.some.inj h; exact ⟨ann46, r46⟩
  · obtain rfl := Option.some.inj h; exact ⟨ann47, r47⟩
  · obtain rfl := Option.some.inj h; exact ⟨ann48, r48⟩
  · obtain rfl := Option.some.inj h; exact ⟨ann49, r49⟩
  · obtain rfl := Option.some.inj h; exact ⟨ann50, r50⟩
  · obtain rfl := Option.some.inj h; exact ⟨ann51, r51⟩
  · obtain rfl := Option.some.inj h; exact ⟨ann52, r52⟩
  · obtain rfl := Option.some.inj h; exact ⟨ann53, r53⟩
  · obtain rfl := Option.some.inj h; exact ⟨ann54, r54⟩
  · obtain rfl := Option.some.inj h; exact ⟨ann55, r55⟩
  · obtain rfl := Option.some.inj h; exact ⟨ann56, r56⟩
  · obtain rfl := Option.some.inj h; exact ⟨ann57, r57⟩
  · obtain rfl := Option.some.inj h; exact ⟨ann58, r58⟩
  · obtain rfl := Option.some.inj h; exact ⟨ann60, r60⟩
  · obtain rfl := Option.some.inj h; exact ⟨ann61, r61⟩
  · obtain rfl := Option.some.inj h; exact ⟨ann62, r62⟩
  · obtain rfl := Option.some.inj h; exact ⟨ann63, r63⟩
  · obtain rfl := Option.some.inj h; exact ⟨ann64, r64⟩
  · obtain rfl := Option.some.inj h; exact ⟨ann65, r65⟩
  · obtain rfl := Option.some.inj h; exact ⟨ann66, r66⟩
  · obtain rfl := Option.some.inj h; exact ⟨ann67, r67⟩
  · obtain rfl := Option.some.inj h; exact ⟨ann68, r68⟩
  · obtain rfl := Option.some.inj h; exact ⟨ann69, r69⟩
  · obtain rfl := Option.some.inj h; exact ⟨ann70, r70⟩
  · obtain rfl := Option.some.inj h; exact ⟨ann71, r71⟩
  · obtain rfl := Option.some.inj h; exact ⟨ann72, r72⟩
  · obtain rfl := Option.some.inj h; exact ⟨ann73, r73⟩
  · obtain rfl := Option.some.inj h; exact ⟨ann74, r74⟩
  · obtain rfl := Option.some.inj h; exact ⟨ann75, r75⟩
  · obtain rfl := Option.some.inj h; exact ⟨ann76, r76⟩
  · obtain rfl := Option.some.inj h; exact ⟨ann77, r77⟩
  · obtain rfl := Option.some.inj h; exact ⟨ann79, r79⟩
  · obtain rfl := Option.some.inj h; exact ⟨ann80, r80⟩
  · obtain rfl := Option.some.inj h; exact ⟨ann81, r81⟩
  · obtain rfl := Option.some.inj h; exact ⟨ann82, r82⟩
  · obtain rfl := Option.some.inj h; exact ⟨ann83, r83⟩
  · obtain rfl := Option.some.inj h; exact ⟨ann84, r84⟩
  · obtain rfl := Option.some.inj h; exact ⟨ann85, r85⟩
  · obtain rfl := Option.some.inj h; exact ⟨ann86, r86⟩
  · obtain rfl := Option.some.inj h; exact ⟨ann87, r87⟩
  · simp at h
theorem mix : Try.prog.follows .mixedOrders = true := by kernel_rfl
theorem X0_sound : SoundO Try.prog X0 := fun f args H v H' h => by simp [X0] at h
theorem callW_ok0 : SoundO Try.prog (callW tbl X0) := callW_sound tbl_ok X0_sound mix
end Go.A.SeatB
