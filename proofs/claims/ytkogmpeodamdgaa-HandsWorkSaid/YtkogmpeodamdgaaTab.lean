/-
  The table of this seat's types: what each is, its cells, its bytes, its zero. Printed by mktab.py; own work.
-/
import Derived.Test.YtkogmpeodamdgaaSepE
import Derived.Test.YtkogmpeodamdgaaProg
namespace Go.Proofs.Ytkogmpeodamdgaa
open Go
set_option maxRecDepth 100000
theorem tyOk_of {P : Program} {t : Nat} {i : TyI} (h : P.underlying t = some i.desc) (k : (P.info? t).map (fun f => (f.size, f.bytes, f.zero)) = some (i.size, i.bytes, some i.zero)) (hf : structFlds i.desc = i.flds) (hp : structPls P i.desc = some i.pls) : TyOk P t i := by
  refine ⟨h, ?_, hf, hp⟩
  cases hf : P.info? t with
  | none => rw [hf] at k; cases k
  | some f =>
    rw [hf] at k
    simp only [Option.map_some, Option.some.injEq, Prod.mk.injEq] at k
    exact ⟨f, rfl, k.1, k.2.1, k.2.2⟩
def lookT : List (Nat × TyI) → Nat → Option TyI
  | [], _ => none
  | (k, v) :: l, t => bif Nat.beq k t then some v else lookT l t
def allT (P : Program) : List (Nat × TyI) → Prop
  | [] => True
  | (k, v) :: l => TyOk P k v ∧ allT P l
theorem allT_get {P : Program} : ∀ {l : List (Nat × TyI)}, allT P l → ∀ t i, lookT l t = some i → TyOk P t i
  | [], _, _, _, h => by cases h
  | (k, v) :: l, ⟨h1, h2⟩, t, i, h => by
    simp only [lookT] at h
    by_cases hb : Nat.beq k t = true
    · rw [hb] at h; simp at h; subst h
      have : k = t := Nat.eq_of_beq_eq_true hb
      subst this; exact h1
    · have hb' : Nat.beq k t = false := Bool.eq_false_iff.2 hb
      rw [hb'] at h
      exact allT_get h2 t i h
def ty1 : TyI := ⟨(Go.TypeDesc.func #[] #[] false), 1, 8, .nilFunc, [], []⟩
theorem ty1_ok : TyOk Try.prog 1 ty1 := tyOk_of Try.underlying1 (by kernel_rfl) rfl (by kernel_rfl)
def ty2 : TyI := ⟨(Go.TypeDesc.int Go.IntKind.i64), 1, 8, .int .i64 0, [], []⟩
theorem ty2_ok : TyOk Try.prog 2 ty2 := tyOk_of Try.underlying2 (by kernel_rfl) rfl (by kernel_rfl)
def ty3 : TyI := ⟨(Go.TypeDesc.int Go.IntKind.i64), 1, 8, .int .i64 0, [], []⟩
theorem ty3_ok : TyOk Try.prog 3 ty3 := tyOk_of Try.underlying3 (by kernel_rfl) rfl (by kernel_rfl)
def ty4 : TyI := ⟨Go.TypeDesc.bool, 1, 1, .bool false, [], []⟩
theorem ty4_ok : TyOk Try.prog 4 ty4 := tyOk_of Try.underlying4 (by kernel_rfl) rfl (by kernel_rfl)
def ty5 : TyI := ⟨(Go.TypeDesc.int Go.IntKind.u8), 1, 1, .int .u8 0, [], []⟩
theorem ty5_ok : TyOk Try.prog 5 ty5 := tyOk_of Try.underlying5 (by kernel_rfl) rfl (by kernel_rfl)
def ty6 : TyI := ⟨(Go.TypeDesc.int Go.IntKind.u8), 1, 1, .int .u8 0, [], []⟩
theorem ty6_ok : TyOk Try.prog 6 ty6 := tyOk_of Try.underlying6 (by kernel_rfl) rfl (by kernel_rfl)
def ty7 : TyI := ⟨(Go.TypeDesc.struct #[{ name := "x", type := 2, offset := 0, embedded := false, tag := "", pkgPath := "runtime", byteOffset := 0 }, { name := "y", type := 3, offset := 1, embedded := false, tag := "", pkgPath := "runtime", byteOffset := 8 }, { name := "signed", type := 4, offset := 2, embedded := false, tag := "", pkgPath := "runtime", byteOffset := 16 }, { name := "code", type := 6, offset := 3, embedded := false, tag := "", pkgPath := "runtime", byteOffset := 17 }]), 4, 24, .agg #[.int .i64 0, .int .i64 0, .bool false, .int .u8 0], [(0, 2), (1, 3), (2, 4), (3, 6)], [(0, 1), (1, 1), (2, 1), (3, 1)]⟩
theorem ty7_ok : TyOk Try.prog 7 ty7 := tyOk_of Try.underlying7 (by kernel_rfl) rfl (by kernel_rfl)
def ty8 : TyI := ⟨(Go.TypeDesc.struct #[{ name := "x", type := 2, offset := 0, embedded := false, tag := "", pkgPath := "runtime", byteOffset := 0 }, { name := "y", type := 3, offset := 1, embedded := false, tag := "", pkgPath := "runtime", byteOffset := 8 }, { name := "signed", type := 4, offset := 2, embedded := false, tag := "", pkgPath := "runtime", byteOffset := 16 }, { name := "code", type := 6, offset := 3, embedded := false, tag := "", pkgPath := "runtime", byteOffset := 17 }]), 4, 24, .agg #[.int .i64 0, .int .i64 0, .bool false, .int .u8 0], [(0, 2), (1, 3), (2, 4), (3, 6)], [(0, 1), (1, 1), (2, 1), (3, 1)]⟩
theorem ty8_ok : TyOk Try.prog 8 ty8 := tyOk_of Try.underlying8 (by kernel_rfl) rfl (by kernel_rfl)
def ty9 : TyI := ⟨Go.TypeDesc.string, 1, 16, .string ⟨#[]⟩, [], []⟩
theorem ty9_ok : TyOk Try.prog 9 ty9 := tyOk_of Try.underlying9 (by kernel_rfl) rfl (by kernel_rfl)
def ty10 : TyI := ⟨Go.TypeDesc.string, 1, 16, .string ⟨#[]⟩, [], []⟩
theorem ty10_ok : TyOk Try.prog 10 ty10 := tyOk_of Try.underlying10 (by kernel_rfl) rfl (by kernel_rfl)
def ty11 : TyI := ⟨Go.TypeDesc.string, 1, 16, .string ⟨#[]⟩, [], []⟩
theorem ty11_ok : TyOk Try.prog 11 ty11 := tyOk_of Try.underlying11 (by kernel_rfl) rfl (by kernel_rfl)
def ty12 : TyI := ⟨(Go.TypeDesc.int Go.IntKind.u64), 1, 8, .int .u64 0, [], []⟩
theorem ty12_ok : TyOk Try.prog 12 ty12 := tyOk_of Try.underlying12 (by kernel_rfl) rfl (by kernel_rfl)
def ty13 : TyI := ⟨(Go.TypeDesc.struct #[{ name := "msg", type := 9, offset := 0, embedded := false, tag := "", pkgPath := "runtime", byteOffset := 0 }, { name := "addr", type := 12, offset := 1, embedded := false, tag := "", pkgPath := "runtime", byteOffset := 16 }]), 2, 24, .agg #[.string ⟨#[]⟩, .int .u64 0], [(0, 9), (1, 12)], [(0, 1), (1, 1)]⟩
theorem ty13_ok : TyOk Try.prog 13 ty13 := tyOk_of Try.underlying13 (by kernel_rfl) rfl (by kernel_rfl)
def ty14 : TyI := ⟨(Go.TypeDesc.struct #[{ name := "msg", type := 9, offset := 0, embedded := false, tag := "", pkgPath := "runtime", byteOffset := 0 }, { name := "addr", type := 12, offset := 1, embedded := false, tag := "", pkgPath := "runtime", byteOffset := 16 }]), 2, 24, .agg #[.string ⟨#[]⟩, .int .u64 0], [(0, 9), (1, 12)], [(0, 1), (1, 1)]⟩
theorem ty14_ok : TyOk Try.prog 14 ty14 := tyOk_of Try.underlying14 (by kernel_rfl) rfl (by kernel_rfl)
def ty15 : TyI := ⟨(Go.TypeDesc.pointer 190), 1, 8, .pointer none, [], []⟩
theorem ty15_ok : TyOk Try.prog 15 ty15 := tyOk_of Try.underlying15 (by kernel_rfl) rfl (by kernel_rfl)
def ty16 : TyI := ⟨(Go.TypeDesc.pointer 193), 1, 8, .pointer none, [], []⟩
theorem ty16_ok : TyOk Try.prog 16 ty16 := tyOk_of Try.underlying16 (by kernel_rfl) rfl (by kernel_rfl)
def ty17 : TyI := ⟨(Go.TypeDesc.pointer 202), 1, 8, .pointer none, [], []⟩
theorem ty17_ok : TyOk Try.prog 17 ty17 := tyOk_of Try.underlying17 (by kernel_rfl) rfl (by kernel_rfl)
def ty18 : TyI := ⟨(Go.TypeDesc.struct #[{ name := "typ", type := 17, offset := 0, embedded := false, tag := "", pkgPath := "internal/runtime/maps", byteOffset := 0 }]), 1, 8, .agg #[.pointer none], [(0, 17)], [(0, 1)]⟩
theorem ty18_ok : TyOk Try.prog 18 ty18 := tyOk_of Try.underlying18 (by kernel_rfl) rfl (by kernel_rfl)
def ty19 : TyI := ⟨(Go.TypeDesc.struct #[{ name := "typ", type := 17, offset := 0, embedded := false, tag := "", pkgPath := "internal/runtime/maps", byteOffset := 0 }]), 1, 8, .agg #[.pointer none], [(0, 17)], [(0, 1)]⟩
theorem ty19_ok : TyOk Try.prog 19 ty19 := tyOk_of Try.underlying19 (by kernel_rfl) rfl (by kernel_rfl)
def ty21 : TyI := ⟨(Go.TypeDesc.int Go.IntKind.i32), 1, 4, .int .i32 0, [], []⟩
theorem ty21_ok : TyOk Try.prog 21 ty21 := tyOk_of Try.underlying21 (by kernel_rfl) rfl (by kernel_rfl)
def ty22 : TyI := ⟨(Go.TypeDesc.slice 3), 1, 24, .slice none 0 0, [], []⟩
theorem ty22_ok : TyOk Try.prog 22 ty22 := tyOk_of Try.underlying22 (by kernel_rfl) rfl (by kernel_rfl)
def ty23 : TyI := ⟨(Go.TypeDesc.slice 110), 1, 24, .slice none 0 0, [], []⟩
theorem ty23_ok : TyOk Try.prog 23 ty23 := tyOk_of Try.underlying23 (by kernel_rfl) rfl (by kernel_rfl)
def ty24 : TyI := ⟨(Go.TypeDesc.slice 111), 1, 24, .slice none 0 0, [], []⟩
theorem ty24_ok : TyOk Try.prog 24 ty24 := tyOk_of Try.underlying24 (by kernel_rfl) rfl (by kernel_rfl)
def ty26 : TyI := ⟨(Go.TypeDesc.func #[22, 22, 22, 22] #[23, 24] false), 1, 8, .nilFunc, [], []⟩
theorem ty26_ok : TyOk Try.prog 26 ty26 := tyOk_of Try.underlying26 (by kernel_rfl) rfl (by kernel_rfl)
def ty27 : TyI := ⟨(Go.TypeDesc.slice 9), 1, 24, .slice none 0 0, [], []⟩
theorem ty27_ok : TyOk Try.prog 27 ty27 := tyOk_of Try.underlying27 (by kernel_rfl) rfl (by kernel_rfl)
def ty28 : TyI := ⟨(Go.TypeDesc.func #[3, 3] #[3] false), 1, 8, .nilFunc, [], []⟩
theorem ty28_ok : TyOk Try.prog 28 ty28 := tyOk_of Try.underlying28 (by kernel_rfl) rfl (by kernel_rfl)
def ty29 : TyI := ⟨(Go.TypeDesc.struct #[{ name := "F", type := 9, offset := 0, embedded := false, tag := "", pkgPath := "", byteOffset := 0 }, { name := "T", type := 9, offset := 1, embedded := false, tag := "", pkgPath := "", byteOffset := 16 }]), 2, 32, .agg #[.string ⟨#[]⟩, .string ⟨#[]⟩], [(0, 9), (1, 9)], [(0, 1), (1, 1)]⟩
theorem ty29_ok : TyOk Try.prog 29 ty29 := tyOk_of Try.underlying29 (by kernel_rfl) rfl (by kernel_rfl)
def ty30 : TyI := ⟨(Go.TypeDesc.struct #[{ name := "F", type := 9, offset := 0, embedded := false, tag := "", pkgPath := "", byteOffset := 0 }, { name := "T", type := 9, offset := 1, embedded := false, tag := "", pkgPath := "", byteOffset := 16 }]), 2, 32, .agg #[.string ⟨#[]⟩, .string ⟨#[]⟩], [(0, 9), (1, 9)], [(0, 1), (1, 1)]⟩
theorem ty30_ok : TyOk Try.prog 30 ty30 := tyOk_of Try.underlying30 (by kernel_rfl) rfl (by kernel_rfl)
def ty31 : TyI := ⟨(Go.TypeDesc.func #[22, 22] #[4] false), 1, 8, .nilFunc, [], []⟩
theorem ty31_ok : TyOk Try.prog 31 ty31 := tyOk_of Try.underlying31 (by kernel_rfl) rfl (by kernel_rfl)
def ty32 : TyI := ⟨(Go.TypeDesc.func #[23, 30] #[22] false), 1, 8, .nilFunc, [], []⟩
theorem ty32_ok : TyOk Try.prog 32 ty32 := tyOk_of Try.underlying32 (by kernel_rfl) rfl (by kernel_rfl)
def ty33 : TyI := ⟨(Go.TypeDesc.func #[24, 30] #[22] false), 1, 8, .nilFunc, [], []⟩
theorem ty33_ok : TyOk Try.prog 33 ty33 := tyOk_of Try.underlying33 (by kernel_rfl) rfl (by kernel_rfl)
def ty34 : TyI := ⟨(Go.TypeDesc.func #[23] #[4] false), 1, 8, .nilFunc, [], []⟩
theorem ty34_ok : TyOk Try.prog 34 ty34 := tyOk_of Try.underlying34 (by kernel_rfl) rfl (by kernel_rfl)
def ty35 : TyI := ⟨(Go.TypeDesc.func #[24] #[4] false), 1, 8, .nilFunc, [], []⟩
theorem ty35_ok : TyOk Try.prog 35 ty35 := tyOk_of Try.underlying35 (by kernel_rfl) rfl (by kernel_rfl)
def ty36 : TyI := ⟨(Go.TypeDesc.func #[] #[4] false), 1, 8, .nilFunc, [], []⟩
theorem ty36_ok : TyOk Try.prog 36 ty36 := tyOk_of Try.underlying36 (by kernel_rfl) rfl (by kernel_rfl)
def ty37 : TyI := ⟨(Go.TypeDesc.func #[22, 22, 22, 22, 3] #[4] false), 1, 8, .nilFunc, [], []⟩
theorem ty37_ok : TyOk Try.prog 37 ty37 := tyOk_of Try.underlying37 (by kernel_rfl) rfl (by kernel_rfl)
def ty38 : TyI := ⟨(Go.TypeDesc.slice 43), 1, 24, .slice none 0 0, [], []⟩
theorem ty38_ok : TyOk Try.prog 38 ty38 := tyOk_of Try.underlying38 (by kernel_rfl) rfl (by kernel_rfl)
def ty39 : TyI := ⟨(Go.TypeDesc.pointer 118), 1, 8, .pointer none, [], []⟩
theorem ty39_ok : TyOk Try.prog 39 ty39 := tyOk_of Try.underlying39 (by kernel_rfl) rfl (by kernel_rfl)
def ty40 : TyI := ⟨(Go.TypeDesc.func #[] #[39] false), 1, 8, .nilFunc, [], []⟩
theorem ty40_ok : TyOk Try.prog 40 ty40 := tyOk_of Try.underlying40 (by kernel_rfl) rfl (by kernel_rfl)
def ty41 : TyI := ⟨(Go.TypeDesc.slice 46), 1, 24, .slice none 0 0, [], []⟩
theorem ty41_ok : TyOk Try.prog 41 ty41 := tyOk_of Try.underlying41 (by kernel_rfl) rfl (by kernel_rfl)
def ty42 : TyI := ⟨(Go.TypeDesc.struct #[{ name := "Do", type := 3, offset := 0, embedded := false, tag := "", pkgPath := "", byteOffset := 0 }, { name := "F", type := 3, offset := 1, embedded := false, tag := "", pkgPath := "", byteOffset := 8 }, { name := "E", type := 3, offset := 2, embedded := false, tag := "", pkgPath := "", byteOffset := 16 }, { name := "N", type := 3, offset := 3, embedded := false, tag := "", pkgPath := "", byteOffset := 24 }, { name := "Due", type := 3, offset := 4, embedded := false, tag := "", pkgPath := "", byteOffset := 32 }]), 5, 40, .agg #[.int .i64 0, .int .i64 0, .int .i64 0, .int .i64 0, .int .i64 0], [(0, 3), (1, 3), (2, 3), (3, 3), (4, 3)], [(0, 1), (1, 1), (2, 1), (3, 1), (4, 1)]⟩
theorem ty42_ok : TyOk Try.prog 42 ty42 := tyOk_of Try.underlying42 (by kernel_rfl) rfl (by kernel_rfl)
def ty43 : TyI := ⟨(Go.TypeDesc.struct #[{ name := "Do", type := 3, offset := 0, embedded := false, tag := "", pkgPath := "", byteOffset := 0 }, { name := "F", type := 3, offset := 1, embedded := false, tag := "", pkgPath := "", byteOffset := 8 }, { name := "E", type := 3, offset := 2, embedded := false, tag := "", pkgPath := "", byteOffset := 16 }, { name := "N", type := 3, offset := 3, embedded := false, tag := "", pkgPath := "", byteOffset := 24 }, { name := "Due", type := 3, offset := 4, embedded := false, tag := "", pkgPath := "", byteOffset := 32 }]), 5, 40, .agg #[.int .i64 0, .int .i64 0, .int .i64 0, .int .i64 0, .int .i64 0], [(0, 3), (1, 3), (2, 3), (3, 3), (4, 3)], [(0, 1), (1, 1), (2, 1), (3, 1), (4, 1)]⟩
theorem ty43_ok : TyOk Try.prog 43 ty43 := tyOk_of Try.underlying43 (by kernel_rfl) rfl (by kernel_rfl)
def ty44 : TyI := ⟨(Go.TypeDesc.pointer 120), 1, 8, .pointer none, [], []⟩
theorem ty44_ok : TyOk Try.prog 44 ty44 := tyOk_of Try.underlying44 (by kernel_rfl) rfl (by kernel_rfl)
def ty45 : TyI := ⟨(Go.TypeDesc.struct #[{ name := "f", type := 9, offset := 0, embedded := false, tag := "", pkgPath := "hostler/hostlerlaw16", byteOffset := 0 }, { name := "e", type := 9, offset := 1, embedded := false, tag := "", pkgPath := "hostler/hostlerlaw16", byteOffset := 16 }, { name := "n", type := 3, offset := 2, embedded := false, tag := "", pkgPath := "hostler/hostlerlaw16", byteOffset := 32 }, { name := "r", type := 44, offset := 3, embedded := false, tag := "", pkgPath := "hostler/hostlerlaw16", byteOffset := 40 }]), 4, 48, .agg #[.string ⟨#[]⟩, .string ⟨#[]⟩, .int .i64 0, .pointer none], [(0, 9), (1, 9), (2, 3), (3, 44)], [(0, 1), (1, 1), (2, 1), (3, 1)]⟩
theorem ty45_ok : TyOk Try.prog 45 ty45 := tyOk_of Try.underlying45 (by kernel_rfl) rfl (by kernel_rfl)
def ty46 : TyI := ⟨(Go.TypeDesc.struct #[{ name := "f", type := 9, offset := 0, embedded := false, tag := "", pkgPath := "hostler/hostlerlaw16", byteOffset := 0 }, { name := "e", type := 9, offset := 1, embedded := false, tag := "", pkgPath := "hostler/hostlerlaw16", byteOffset := 16 }, { name := "n", type := 3, offset := 2, embedded := false, tag := "", pkgPath := "hostler/hostlerlaw16", byteOffset := 32 }, { name := "r", type := 44, offset := 3, embedded := false, tag := "", pkgPath := "hostler/hostlerlaw16", byteOffset := 40 }]), 4, 48, .agg #[.string ⟨#[]⟩, .string ⟨#[]⟩, .int .i64 0, .pointer none], [(0, 9), (1, 9), (2, 3), (3, 44)], [(0, 1), (1, 1), (2, 1), (3, 1)]⟩
theorem ty46_ok : TyOk Try.prog 46 ty46 := tyOk_of Try.underlying46 (by kernel_rfl) rfl (by kernel_rfl)
def ty47 : TyI := ⟨(Go.TypeDesc.func #[9, 9, 3] #[44] false), 1, 8, .nilFunc, [], []⟩
theorem ty47_ok : TyOk Try.prog 47 ty47 := tyOk_of Try.underlying47 (by kernel_rfl) rfl (by kernel_rfl)
def ty48 : TyI := ⟨(Go.TypeDesc.int Go.IntKind.i64), 1, 8, .int .i64 0, [], []⟩
theorem ty48_ok : TyOk Try.prog 48 ty48 := tyOk_of Try.underlying48 (by kernel_rfl) rfl (by kernel_rfl)
def ty49 : TyI := ⟨(Go.TypeDesc.func #[3, 3] #[48] false), 1, 8, .nilFunc, [], []⟩
theorem ty49_ok : TyOk Try.prog 49 ty49 := tyOk_of Try.underlying49 (by kernel_rfl) rfl (by kernel_rfl)
def ty50 : TyI := ⟨(Go.TypeDesc.func #[44] #[48] false), 1, 8, .nilFunc, [], []⟩
theorem ty50_ok : TyOk Try.prog 50 ty50 := tyOk_of Try.underlying50 (by kernel_rfl) rfl (by kernel_rfl)
def ty51 : TyI := ⟨(Go.TypeDesc.func #[9, 9] #[4] false), 1, 8, .nilFunc, [], []⟩
theorem ty51_ok : TyOk Try.prog 51 ty51 := tyOk_of Try.underlying51 (by kernel_rfl) rfl (by kernel_rfl)
def ty52 : TyI := ⟨(Go.TypeDesc.func #[9, 9] #[44] false), 1, 8, .nilFunc, [], []⟩
theorem ty52_ok : TyOk Try.prog 52 ty52 := tyOk_of Try.underlying52 (by kernel_rfl) rfl (by kernel_rfl)
def ty53 : TyI := ⟨(Go.TypeDesc.slice 44), 1, 24, .slice none 0 0, [], []⟩
theorem ty53_ok : TyOk Try.prog 53 ty53 := tyOk_of Try.underlying53 (by kernel_rfl) rfl (by kernel_rfl)
def ty54 : TyI := ⟨(Go.TypeDesc.func #[] #[53] false), 1, 8, .nilFunc, [], []⟩
theorem ty54_ok : TyOk Try.prog 54 ty54 := tyOk_of Try.underlying54 (by kernel_rfl) rfl (by kernel_rfl)
def ty55 : TyI := ⟨(Go.TypeDesc.func #[3] #[53] false), 1, 8, .nilFunc, [], []⟩
theorem ty55_ok : TyOk Try.prog 55 ty55 := tyOk_of Try.underlying55 (by kernel_rfl) rfl (by kernel_rfl)
def ty56 : TyI := ⟨(Go.TypeDesc.func #[3] #[4] false), 1, 8, .nilFunc, [], []⟩
theorem ty56_ok : TyOk Try.prog 56 ty56 := tyOk_of Try.underlying56 (by kernel_rfl) rfl (by kernel_rfl)
def ty57 : TyI := ⟨(Go.TypeDesc.func #[38, 3] #[4] false), 1, 8, .nilFunc, [], []⟩
theorem ty57_ok : TyOk Try.prog 57 ty57 := tyOk_of Try.underlying57 (by kernel_rfl) rfl (by kernel_rfl)
def ty58 : TyI := ⟨(Go.TypeDesc.slice 4), 1, 24, .slice none 0 0, [], []⟩
theorem ty58_ok : TyOk Try.prog 58 ty58 := tyOk_of Try.underlying58 (by kernel_rfl) rfl (by kernel_rfl)
def ty59 : TyI := ⟨(Go.TypeDesc.func #[] #[48] false), 1, 8, .nilFunc, [], []⟩
theorem ty59_ok : TyOk Try.prog 59 ty59 := tyOk_of Try.underlying59 (by kernel_rfl) rfl (by kernel_rfl)
def ty61 : TyI := ⟨(Go.TypeDesc.func #[] #[9, 9, 3] false), 1, 8, .nilFunc, [], []⟩
theorem ty61_ok : TyOk Try.prog 61 ty61 := tyOk_of Try.underlying61 (by kernel_rfl) rfl (by kernel_rfl)
def ty62 : TyI := ⟨(Go.TypeDesc.func #[22, 58, 3] #[4] false), 1, 8, .nilFunc, [], []⟩
theorem ty62_ok : TyOk Try.prog 62 ty62 := tyOk_of Try.underlying62 (by kernel_rfl) rfl (by kernel_rfl)
def ty63 : TyI := ⟨(Go.TypeDesc.pointer 131), 1, 8, .pointer none, [], []⟩
theorem ty63_ok : TyOk Try.prog 63 ty63 := tyOk_of Try.underlying63 (by kernel_rfl) rfl (by kernel_rfl)
def ty64 : TyI := ⟨(Go.TypeDesc.func #[] #[63] false), 1, 8, .nilFunc, [], []⟩
theorem ty64_ok : TyOk Try.prog 64 ty64 := tyOk_of Try.underlying64 (by kernel_rfl) rfl (by kernel_rfl)
def ty65 : TyI := ⟨(Go.TypeDesc.slice 69), 1, 24, .slice none 0 0, [], []⟩
theorem ty65_ok : TyOk Try.prog 65 ty65 := tyOk_of Try.underlying65 (by kernel_rfl) rfl (by kernel_rfl)
def ty66 : TyI := ⟨(Go.TypeDesc.func #[69] #[65] false), 1, 8, .nilFunc, [], []⟩
theorem ty66_ok : TyOk Try.prog 66 ty66 := tyOk_of Try.underlying66 (by kernel_rfl) rfl (by kernel_rfl)
def ty67 : TyI := ⟨(Go.TypeDesc.slice 72), 1, 24, .slice none 0 0, [], []⟩
theorem ty67_ok : TyOk Try.prog 67 ty67 := tyOk_of Try.underlying67 (by kernel_rfl) rfl (by kernel_rfl)
def ty68 : TyI := ⟨(Go.TypeDesc.struct #[{ name := "Kind", type := 3, offset := 0, embedded := false, tag := "", pkgPath := "", byteOffset := 0 }, { name := "F", type := 9, offset := 1, embedded := false, tag := "", pkgPath := "", byteOffset := 8 }, { name := "E", type := 9, offset := 2, embedded := false, tag := "", pkgPath := "", byteOffset := 24 }, { name := "T", type := 9, offset := 3, embedded := false, tag := "", pkgPath := "", byteOffset := 40 }, { name := "N", type := 3, offset := 4, embedded := false, tag := "", pkgPath := "", byteOffset := 56 }, { name := "State", type := 3, offset := 5, embedded := false, tag := "", pkgPath := "", byteOffset := 64 }, { name := "Number", type := 3, offset := 6, embedded := false, tag := "", pkgPath := "", byteOffset := 72 }, { name := "Epoch", type := 3, offset := 7, embedded := false, tag := "", pkgPath := "", byteOffset := 80 }, { name := "Items", type := 67, offset := 8, embedded := false, tag := "", pkgPath := "", byteOffset := 88 }]), 9, 112, .agg #[.int .i64 0, .string ⟨#[]⟩, .string ⟨#[]⟩, .string ⟨#[]⟩, .int .i64 0, .int .i64 0, .int .i64 0, .int .i64 0, .slice none 0 0], [(0, 3), (1, 9), (2, 9), (3, 9), (4, 3), (5, 3), (6, 3), (7, 3), (8, 67)], [(0, 1), (1, 1), (2, 1), (3, 1), (4, 1), (5, 1), (6, 1), (7, 1), (8, 1)]⟩
theorem ty68_ok : TyOk Try.prog 68 ty68 := tyOk_of Try.underlying68 (by kernel_rfl) rfl (by kernel_rfl)
def ty69 : TyI := ⟨(Go.TypeDesc.struct #[{ name := "Kind", type := 3, offset := 0, embedded := false, tag := "", pkgPath := "", byteOffset := 0 }, { name := "F", type := 9, offset := 1, embedded := false, tag := "", pkgPath := "", byteOffset := 8 }, { name := "E", type := 9, offset := 2, embedded := false, tag := "", pkgPath := "", byteOffset := 24 }, { name := "T", type := 9, offset := 3, embedded := false, tag := "", pkgPath := "", byteOffset := 40 }, { name := "N", type := 3, offset := 4, embedded := false, tag := "", pkgPath := "", byteOffset := 56 }, { name := "State", type := 3, offset := 5, embedded := false, tag := "", pkgPath := "", byteOffset := 64 }, { name := "Number", type := 3, offset := 6, embedded := false, tag := "", pkgPath := "", byteOffset := 72 }, { name := "Epoch", type := 3, offset := 7, embedded := false, tag := "", pkgPath := "", byteOffset := 80 }, { name := "Items", type := 67, offset := 8, embedded := false, tag := "", pkgPath := "", byteOffset := 88 }]), 9, 112, .agg #[.int .i64 0, .string ⟨#[]⟩, .string ⟨#[]⟩, .string ⟨#[]⟩, .int .i64 0, .int .i64 0, .int .i64 0, .int .i64 0, .slice none 0 0], [(0, 3), (1, 9), (2, 9), (3, 9), (4, 3), (5, 3), (6, 3), (7, 3), (8, 67)], [(0, 1), (1, 1), (2, 1), (3, 1), (4, 1), (5, 1), (6, 1), (7, 1), (8, 1)]⟩
theorem ty69_ok : TyOk Try.prog 69 ty69 := tyOk_of Try.underlying69 (by kernel_rfl) rfl (by kernel_rfl)
def ty70 : TyI := ⟨(Go.TypeDesc.complex Go.FloatKind.f64), 1, 16, .complex .f64 0 0, [], []⟩
theorem ty70_ok : TyOk Try.prog 70 ty70 := tyOk_of Try.underlying70 (by kernel_rfl) rfl (by kernel_rfl)
def ty71 : TyI := ⟨(Go.TypeDesc.struct #[{ name := "T", type := 9, offset := 0, embedded := false, tag := "", pkgPath := "", byteOffset := 0 }, { name := "Need", type := 70, offset := 1, embedded := false, tag := "", pkgPath := "", byteOffset := 16 }]), 2, 32, .agg #[.string ⟨#[]⟩, .complex .f64 0 0], [(0, 9), (1, 70)], [(0, 1), (1, 1)]⟩
theorem ty71_ok : TyOk Try.prog 71 ty71 := tyOk_of Try.underlying71 (by kernel_rfl) rfl (by kernel_rfl)
def ty72 : TyI := ⟨(Go.TypeDesc.struct #[{ name := "T", type := 9, offset := 0, embedded := false, tag := "", pkgPath := "", byteOffset := 0 }, { name := "Need", type := 70, offset := 1, embedded := false, tag := "", pkgPath := "", byteOffset := 16 }]), 2, 32, .agg #[.string ⟨#[]⟩, .complex .f64 0 0], [(0, 9), (1, 70)], [(0, 1), (1, 1)]⟩
theorem ty72_ok : TyOk Try.prog 72 ty72 := tyOk_of Try.underlying72 (by kernel_rfl) rfl (by kernel_rfl)
def ty73 : TyI := ⟨(Go.TypeDesc.func #[] #[65] false), 1, 8, .nilFunc, [], []⟩
theorem ty73_ok : TyOk Try.prog 73 ty73 := tyOk_of Try.underlying73 (by kernel_rfl) rfl (by kernel_rfl)
def ty74 : TyI := ⟨(Go.TypeDesc.func #[] #[3] false), 1, 8, .nilFunc, [], []⟩
theorem ty74_ok : TyOk Try.prog 74 ty74 := tyOk_of Try.underlying74 (by kernel_rfl) rfl (by kernel_rfl)
def ty75 : TyI := ⟨(Go.TypeDesc.func #[76, 76] #[4] false), 1, 8, .nilFunc, [], []⟩
theorem ty75_ok : TyOk Try.prog 75 ty75 := tyOk_of Try.underlying75 (by kernel_rfl) rfl (by kernel_rfl)
def ty76 : TyI := ⟨(Go.TypeDesc.slice 30), 1, 24, .slice none 0 0, [], []⟩
theorem ty76_ok : TyOk Try.prog 76 ty76 := tyOk_of Try.underlying76 (by kernel_rfl) rfl (by kernel_rfl)
def ty77 : TyI := ⟨(Go.TypeDesc.func #[] #[76] false), 1, 8, .nilFunc, [], []⟩
theorem ty77_ok : TyOk Try.prog 77 ty77 := tyOk_of Try.underlying77 (by kernel_rfl) rfl (by kernel_rfl)
def ty78 : TyI := ⟨(Go.TypeDesc.func #[3] #[69] false), 1, 8, .nilFunc, [], []⟩
theorem ty78_ok : TyOk Try.prog 78 ty78 := tyOk_of Try.underlying78 (by kernel_rfl) rfl (by kernel_rfl)
def ty79 : TyI := ⟨(Go.TypeDesc.func #[65, 65] #[4] false), 1, 8, .nilFunc, [], []⟩
theorem ty79_ok : TyOk Try.prog 79 ty79 := tyOk_of Try.underlying79 (by kernel_rfl) rfl (by kernel_rfl)
def ty80 : TyI := ⟨(Go.TypeDesc.func #[3, 3, 3] #[4] false), 1, 8, .nilFunc, [], []⟩
theorem ty80_ok : TyOk Try.prog 80 ty80 := tyOk_of Try.underlying80 (by kernel_rfl) rfl (by kernel_rfl)
def ty81 : TyI := ⟨(Go.TypeDesc.pointer 84), 1, 8, .pointer none, [], []⟩
theorem ty81_ok : TyOk Try.prog 81 ty81 := tyOk_of Try.underlying81 (by kernel_rfl) rfl (by kernel_rfl)
def ty82 : TyI := ⟨(Go.TypeDesc.slice 147), 1, 24, .slice none 0 0, [], []⟩
theorem ty82_ok : TyOk Try.prog 82 ty82 := tyOk_of Try.underlying82 (by kernel_rfl) rfl (by kernel_rfl)
def ty83 : TyI := ⟨(Go.TypeDesc.struct #[{ name := "p", type := 82, offset := 0, embedded := false, tag := "", pkgPath := "hostler/hostlerref19", byteOffset := 0 }, { name := "Keys", type := 76, offset := 1, embedded := false, tag := "", pkgPath := "", byteOffset := 24 }]), 2, 48, .agg #[.slice none 0 0, .slice none 0 0], [(0, 82), (1, 76)], [(0, 1), (1, 1)]⟩
theorem ty83_ok : TyOk Try.prog 83 ty83 := tyOk_of Try.underlying83 (by kernel_rfl) rfl (by kernel_rfl)
def ty84 : TyI := ⟨(Go.TypeDesc.struct #[{ name := "p", type := 82, offset := 0, embedded := false, tag := "", pkgPath := "hostler/hostlerref19", byteOffset := 0 }, { name := "Keys", type := 76, offset := 1, embedded := false, tag := "", pkgPath := "", byteOffset := 24 }]), 2, 48, .agg #[.slice none 0 0, .slice none 0 0], [(0, 82), (1, 76)], [(0, 1), (1, 1)]⟩
theorem ty84_ok : TyOk Try.prog 84 ty84 := tyOk_of Try.underlying84 (by kernel_rfl) rfl (by kernel_rfl)
def ty85 : TyI := ⟨(Go.TypeDesc.func #[3] #[9] false), 1, 8, .nilFunc, [], []⟩
theorem ty85_ok : TyOk Try.prog 85 ty85 := tyOk_of Try.underlying85 (by kernel_rfl) rfl (by kernel_rfl)
def ty86 : TyI := ⟨(Go.TypeDesc.func #[22, 22, 22] #[4] false), 1, 8, .nilFunc, [], []⟩
theorem ty86_ok : TyOk Try.prog 86 ty86 := tyOk_of Try.underlying86 (by kernel_rfl) rfl (by kernel_rfl)
def ty87 : TyI := ⟨(Go.TypeDesc.slice 92), 1, 24, .slice none 0 0, [], []⟩
theorem ty87_ok : TyOk Try.prog 87 ty87 := tyOk_of Try.underlying87 (by kernel_rfl) rfl (by kernel_rfl)
def ty88 : TyI := ⟨(Go.TypeDesc.pointer 156), 1, 8, .pointer none, [], []⟩
theorem ty88_ok : TyOk Try.prog 88 ty88 := tyOk_of Try.underlying88 (by kernel_rfl) rfl (by kernel_rfl)
def ty89 : TyI := ⟨(Go.TypeDesc.func #[] #[88] false), 1, 8, .nilFunc, [], []⟩
theorem ty89_ok : TyOk Try.prog 89 ty89 := tyOk_of Try.underlying89 (by kernel_rfl) rfl (by kernel_rfl)
def ty90 : TyI := ⟨(Go.TypeDesc.func #[9, 9, 3, 3] #[4] false), 1, 8, .nilFunc, [], []⟩
theorem ty90_ok : TyOk Try.prog 90 ty90 := tyOk_of Try.underlying90 (by kernel_rfl) rfl (by kernel_rfl)
def ty91 : TyI := ⟨(Go.TypeDesc.struct #[{ name := "Do", type := 3, offset := 0, embedded := false, tag := "", pkgPath := "", byteOffset := 0 }, { name := "F", type := 3, offset := 1, embedded := false, tag := "", pkgPath := "", byteOffset := 8 }, { name := "E", type := 3, offset := 2, embedded := false, tag := "", pkgPath := "", byteOffset := 16 }, { name := "N", type := 3, offset := 3, embedded := false, tag := "", pkgPath := "", byteOffset := 24 }, { name := "Since", type := 3, offset := 4, embedded := false, tag := "", pkgPath := "", byteOffset := 32 }]), 5, 40, .agg #[.int .i64 0, .int .i64 0, .int .i64 0, .int .i64 0, .int .i64 0], [(0, 3), (1, 3), (2, 3), (3, 3), (4, 3)], [(0, 1), (1, 1), (2, 1), (3, 1), (4, 1)]⟩
theorem ty91_ok : TyOk Try.prog 91 ty91 := tyOk_of Try.underlying91 (by kernel_rfl) rfl (by kernel_rfl)
def ty92 : TyI := ⟨(Go.TypeDesc.struct #[{ name := "Do", type := 3, offset := 0, embedded := false, tag := "", pkgPath := "", byteOffset := 0 }, { name := "F", type := 3, offset := 1, embedded := false, tag := "", pkgPath := "", byteOffset := 8 }, { name := "E", type := 3, offset := 2, embedded := false, tag := "", pkgPath := "", byteOffset := 16 }, { name := "N", type := 3, offset := 3, embedded := false, tag := "", pkgPath := "", byteOffset := 24 }, { name := "Since", type := 3, offset := 4, embedded := false, tag := "", pkgPath := "", byteOffset := 32 }]), 5, 40, .agg #[.int .i64 0, .int .i64 0, .int .i64 0, .int .i64 0, .int .i64 0], [(0, 3), (1, 3), (2, 3), (3, 3), (4, 3)], [(0, 1), (1, 1), (2, 1), (3, 1), (4, 1)]⟩
theorem ty92_ok : TyOk Try.prog 92 ty92 := tyOk_of Try.underlying92 (by kernel_rfl) rfl (by kernel_rfl)
def ty93 : TyI := ⟨(Go.TypeDesc.slice 96), 1, 24, .slice none 0 0, [], []⟩
theorem ty93_ok : TyOk Try.prog 93 ty93 := tyOk_of Try.underlying93 (by kernel_rfl) rfl (by kernel_rfl)
def ty94 : TyI := ⟨(Go.TypeDesc.func #[] #[93] false), 1, 8, .nilFunc, [], []⟩
theorem ty94_ok : TyOk Try.prog 94 ty94 := tyOk_of Try.underlying94 (by kernel_rfl) rfl (by kernel_rfl)
def ty95 : TyI := ⟨(Go.TypeDesc.struct #[{ name := "F", type := 9, offset := 0, embedded := false, tag := "", pkgPath := "", byteOffset := 0 }, { name := "E", type := 9, offset := 1, embedded := false, tag := "", pkgPath := "", byteOffset := 16 }, { name := "N", type := 3, offset := 2, embedded := false, tag := "", pkgPath := "", byteOffset := 32 }, { name := "Since", type := 3, offset := 3, embedded := false, tag := "", pkgPath := "", byteOffset := 40 }]), 4, 48, .agg #[.string ⟨#[]⟩, .string ⟨#[]⟩, .int .i64 0, .int .i64 0], [(0, 9), (1, 9), (2, 3), (3, 3)], [(0, 1), (1, 1), (2, 1), (3, 1)]⟩
theorem ty95_ok : TyOk Try.prog 95 ty95 := tyOk_of Try.underlying95 (by kernel_rfl) rfl (by kernel_rfl)
def ty96 : TyI := ⟨(Go.TypeDesc.struct #[{ name := "F", type := 9, offset := 0, embedded := false, tag := "", pkgPath := "", byteOffset := 0 }, { name := "E", type := 9, offset := 1, embedded := false, tag := "", pkgPath := "", byteOffset := 16 }, { name := "N", type := 3, offset := 2, embedded := false, tag := "", pkgPath := "", byteOffset := 32 }, { name := "Since", type := 3, offset := 3, embedded := false, tag := "", pkgPath := "", byteOffset := 40 }]), 4, 48, .agg #[.string ⟨#[]⟩, .string ⟨#[]⟩, .int .i64 0, .int .i64 0], [(0, 9), (1, 9), (2, 3), (3, 3)], [(0, 1), (1, 1), (2, 1), (3, 1)]⟩
theorem ty96_ok : TyOk Try.prog 96 ty96 := tyOk_of Try.underlying96 (by kernel_rfl) rfl (by kernel_rfl)
def ty97 : TyI := ⟨(Go.TypeDesc.func #[3, 3] #[93] false), 1, 8, .nilFunc, [], []⟩
theorem ty97_ok : TyOk Try.prog 97 ty97 := tyOk_of Try.underlying97 (by kernel_rfl) rfl (by kernel_rfl)
def ty98 : TyI := ⟨(Go.TypeDesc.func #[9, 9, 3] #[4] false), 1, 8, .nilFunc, [], []⟩
theorem ty98_ok : TyOk Try.prog 98 ty98 := tyOk_of Try.underlying98 (by kernel_rfl) rfl (by kernel_rfl)
def ty99 : TyI := ⟨(Go.TypeDesc.func #[87, 3, 3] #[4] false), 1, 8, .nilFunc, [], []⟩
theorem ty99_ok : TyOk Try.prog 99 ty99 := tyOk_of Try.underlying99 (by kernel_rfl) rfl (by kernel_rfl)
def ty100 : TyI := ⟨(Go.TypeDesc.func #[93, 93] #[4] false), 1, 8, .nilFunc, [], []⟩
theorem ty100_ok : TyOk Try.prog 100 ty100 := tyOk_of Try.underlying100 (by kernel_rfl) rfl (by kernel_rfl)
def ty101 : TyI := ⟨(Go.TypeDesc.func #[3, 3] #[4] false), 1, 8, .nilFunc, [], []⟩
theorem ty101_ok : TyOk Try.prog 101 ty101 := tyOk_of Try.underlying101 (by kernel_rfl) rfl (by kernel_rfl)
def ty102 : TyI := ⟨(Go.TypeDesc.pointer 105), 1, 8, .pointer none, [], []⟩
theorem ty102_ok : TyOk Try.prog 102 ty102 := tyOk_of Try.underlying102 (by kernel_rfl) rfl (by kernel_rfl)
def ty103 : TyI := ⟨(Go.TypeDesc.slice 165), 1, 24, .slice none 0 0, [], []⟩
theorem ty103_ok : TyOk Try.prog 103 ty103 := tyOk_of Try.underlying103 (by kernel_rfl) rfl (by kernel_rfl)
def ty104 : TyI := ⟨(Go.TypeDesc.struct #[{ name := "B", type := 103, offset := 0, embedded := false, tag := "", pkgPath := "", byteOffset := 0 }]), 1, 24, .agg #[.slice none 0 0], [(0, 103)], [(0, 1)]⟩
theorem ty104_ok : TyOk Try.prog 104 ty104 := tyOk_of Try.underlying104 (by kernel_rfl) rfl (by kernel_rfl)
def ty105 : TyI := ⟨(Go.TypeDesc.struct #[{ name := "B", type := 103, offset := 0, embedded := false, tag := "", pkgPath := "", byteOffset := 0 }]), 1, 24, .agg #[.slice none 0 0], [(0, 103)], [(0, 1)]⟩
theorem ty105_ok : TyOk Try.prog 105 ty105 := tyOk_of Try.underlying105 (by kernel_rfl) rfl (by kernel_rfl)
def ty106 : TyI := ⟨(Go.TypeDesc.func #[93, 103] #[4] false), 1, 8, .nilFunc, [], []⟩
theorem ty106_ok : TyOk Try.prog 106 ty106 := tyOk_of Try.underlying106 (by kernel_rfl) rfl (by kernel_rfl)
def ty107 : TyI := ⟨(Go.TypeDesc.func #[] #[103] false), 1, 8, .nilFunc, [], []⟩
theorem ty107_ok : TyOk Try.prog 107 ty107 := tyOk_of Try.underlying107 (by kernel_rfl) rfl (by kernel_rfl)
def ty108 : TyI := ⟨(Go.TypeDesc.func #[3, 3] #[103] false), 1, 8, .nilFunc, [], []⟩
theorem ty108_ok : TyOk Try.prog 108 ty108 := tyOk_of Try.underlying108 (by kernel_rfl) rfl (by kernel_rfl)
def ty109 : TyI := ⟨(Go.TypeDesc.struct #[{ name := "Message", type := 69, offset := 0, embedded := false, tag := "", pkgPath := "", byteOffset := 0 }, { name := "Epoch", type := 3, offset := 9, embedded := false, tag := "", pkgPath := "", byteOffset := 112 }, { name := "Now", type := 3, offset := 10, embedded := false, tag := "", pkgPath := "", byteOffset := 120 }]), 11, 128, .agg #[.int .i64 0, .string ⟨#[]⟩, .string ⟨#[]⟩, .string ⟨#[]⟩, .int .i64 0, .int .i64 0, .int .i64 0, .int .i64 0, .slice none 0 0, .int .i64 0, .int .i64 0], [(0, 69), (9, 3), (10, 3)], [(0, 9), (9, 1), (10, 1)]⟩
theorem ty109_ok : TyOk Try.prog 109 ty109 := tyOk_of Try.underlying109 (by kernel_rfl) rfl (by kernel_rfl)
def ty110 : TyI := ⟨(Go.TypeDesc.struct #[{ name := "Message", type := 69, offset := 0, embedded := false, tag := "", pkgPath := "", byteOffset := 0 }, { name := "Epoch", type := 3, offset := 9, embedded := false, tag := "", pkgPath := "", byteOffset := 112 }, { name := "Now", type := 3, offset := 10, embedded := false, tag := "", pkgPath := "", byteOffset := 120 }]), 11, 128, .agg #[.int .i64 0, .string ⟨#[]⟩, .string ⟨#[]⟩, .string ⟨#[]⟩, .int .i64 0, .int .i64 0, .int .i64 0, .int .i64 0, .slice none 0 0, .int .i64 0, .int .i64 0], [(0, 69), (9, 3), (10, 3)], [(0, 9), (9, 1), (10, 1)]⟩
theorem ty110_ok : TyOk Try.prog 110 ty110 := tyOk_of Try.underlying110 (by kernel_rfl) rfl (by kernel_rfl)
def ty111 : TyI := ⟨(Go.TypeDesc.struct #[{ name := "Message", type := 69, offset := 0, embedded := false, tag := "", pkgPath := "", byteOffset := 0 }, { name := "Epoch", type := 3, offset := 9, embedded := false, tag := "", pkgPath := "", byteOffset := 112 }, { name := "Now", type := 3, offset := 10, embedded := false, tag := "", pkgPath := "", byteOffset := 120 }]), 11, 128, .agg #[.int .i64 0, .string ⟨#[]⟩, .string ⟨#[]⟩, .string ⟨#[]⟩, .int .i64 0, .int .i64 0, .int .i64 0, .int .i64 0, .slice none 0 0, .int .i64 0, .int .i64 0], [(0, 69), (9, 3), (10, 3)], [(0, 9), (9, 1), (10, 1)]⟩
theorem ty111_ok : TyOk Try.prog 111 ty111 := tyOk_of Try.underlying111 (by kernel_rfl) rfl (by kernel_rfl)
def ty112 : TyI := ⟨(Go.TypeDesc.func #[69] #[30] false), 1, 8, .nilFunc, [], []⟩
theorem ty112_ok : TyOk Try.prog 112 ty112 := tyOk_of Try.underlying112 (by kernel_rfl) rfl (by kernel_rfl)
def ty113 : TyI := ⟨(Go.TypeDesc.func #[23, 30] #[4] false), 1, 8, .nilFunc, [], []⟩
theorem ty113_ok : TyOk Try.prog 113 ty113 := tyOk_of Try.underlying113 (by kernel_rfl) rfl (by kernel_rfl)
def ty114 : TyI := ⟨(Go.TypeDesc.map 30 69), 1, 8, .map none, [], []⟩
theorem ty114_ok : TyOk Try.prog 114 ty114 := tyOk_of Try.underlying114 (by kernel_rfl) rfl (by kernel_rfl)
def ty116 : TyI := ⟨(Go.TypeDesc.func #[69, 69] #[4] false), 1, 8, .nilFunc, [], []⟩
theorem ty116_ok : TyOk Try.prog 116 ty116 := tyOk_of Try.underlying116 (by kernel_rfl) rfl (by kernel_rfl)
def ty117 : TyI := ⟨(Go.TypeDesc.struct #[{ name := "l", type := 53, offset := 0, embedded := false, tag := "", pkgPath := "hostler/crew", byteOffset := 0 }]), 1, 24, .agg #[.slice none 0 0], [(0, 53)], [(0, 1)]⟩
theorem ty117_ok : TyOk Try.prog 117 ty117 := tyOk_of Try.underlying117 (by kernel_rfl) rfl (by kernel_rfl)
def ty118 : TyI := ⟨(Go.TypeDesc.struct #[{ name := "l", type := 53, offset := 0, embedded := false, tag := "", pkgPath := "hostler/crew", byteOffset := 0 }]), 1, 24, .agg #[.slice none 0 0], [(0, 53)], [(0, 1)]⟩
theorem ty118_ok : TyOk Try.prog 118 ty118 := tyOk_of Try.underlying118 (by kernel_rfl) rfl (by kernel_rfl)
def ty119 : TyI := ⟨(Go.TypeDesc.struct #[{ name := "f", type := 9, offset := 0, embedded := false, tag := "", pkgPath := "hostler/run", byteOffset := 0 }, { name := "e", type := 9, offset := 1, embedded := false, tag := "", pkgPath := "hostler/run", byteOffset := 16 }, { name := "n", type := 3, offset := 2, embedded := false, tag := "", pkgPath := "hostler/run", byteOffset := 32 }, { name := "phase", type := 3, offset := 3, embedded := false, tag := "", pkgPath := "hostler/run", byteOffset := 40 }, { name := "due", type := 3, offset := 4, embedded := false, tag := "", pkgPath := "hostler/run", byteOffset := 48 }, { name := "waits", type := 4, offset := 5, embedded := false, tag := "", pkgPath := "hostler/run", byteOffset := 56 }]), 6, 64, .agg #[.string ⟨#[]⟩, .string ⟨#[]⟩, .int .i64 0, .int .i64 0, .int .i64 0, .bool false], [(0, 9), (1, 9), (2, 3), (3, 3), (4, 3), (5, 4)], [(0, 1), (1, 1), (2, 1), (3, 1), (4, 1), (5, 1)]⟩
theorem ty119_ok : TyOk Try.prog 119 ty119 := tyOk_of Try.underlying119 (by kernel_rfl) rfl (by kernel_rfl)
def ty120 : TyI := ⟨(Go.TypeDesc.struct #[{ name := "f", type := 9, offset := 0, embedded := false, tag := "", pkgPath := "hostler/run", byteOffset := 0 }, { name := "e", type := 9, offset := 1, embedded := false, tag := "", pkgPath := "hostler/run", byteOffset := 16 }, { name := "n", type := 3, offset := 2, embedded := false, tag := "", pkgPath := "hostler/run", byteOffset := 32 }, { name := "phase", type := 3, offset := 3, embedded := false, tag := "", pkgPath := "hostler/run", byteOffset := 40 }, { name := "due", type := 3, offset := 4, embedded := false, tag := "", pkgPath := "hostler/run", byteOffset := 48 }, { name := "waits", type := 4, offset := 5, embedded := false, tag := "", pkgPath := "hostler/run", byteOffset := 56 }]), 6, 64, .agg #[.string ⟨#[]⟩, .string ⟨#[]⟩, .int .i64 0, .int .i64 0, .int .i64 0, .bool false], [(0, 9), (1, 9), (2, 3), (3, 3), (4, 3), (5, 4)], [(0, 1), (1, 1), (2, 1), (3, 1), (4, 1), (5, 1)]⟩
theorem ty120_ok : TyOk Try.prog 120 ty120 := tyOk_of Try.underlying120 (by kernel_rfl) rfl (by kernel_rfl)
def ty121 : TyI := ⟨(Go.TypeDesc.func #[3, 3] #[] false), 1, 8, .nilFunc, [], []⟩
theorem ty121_ok : TyOk Try.prog 121 ty121 := tyOk_of Try.underlying121 (by kernel_rfl) rfl (by kernel_rfl)
def ty122 : TyI := ⟨(Go.TypeDesc.func #[9, 9] #[3] false), 1, 8, .nilFunc, [], []⟩
theorem ty122_ok : TyOk Try.prog 122 ty122 := tyOk_of Try.underlying122 (by kernel_rfl) rfl (by kernel_rfl)
def ty123 : TyI := ⟨(Go.TypeDesc.func #[53, 3, 3] #[53] false), 1, 8, .nilFunc, [], []⟩
theorem ty123_ok : TyOk Try.prog 123 ty123 := tyOk_of Try.underlying123 (by kernel_rfl) rfl (by kernel_rfl)
def ty124 : TyI := ⟨(Go.TypeDesc.func #[53] #[53] false), 1, 8, .nilFunc, [], []⟩
theorem ty124_ok : TyOk Try.prog 124 ty124 := tyOk_of Try.underlying124 (by kernel_rfl) rfl (by kernel_rfl)
def ty125 : TyI := ⟨(Go.TypeDesc.func #[53, 126] #[53] false), 1, 8, .nilFunc, [], []⟩
theorem ty125_ok : TyOk Try.prog 125 ty125 := tyOk_of Try.underlying125 (by kernel_rfl) rfl (by kernel_rfl)
def ty126 : TyI := ⟨(Go.TypeDesc.func #[44] #[4] false), 1, 8, .nilFunc, [], []⟩
theorem ty126_ok : TyOk Try.prog 126 ty126 := tyOk_of Try.underlying126 (by kernel_rfl) rfl (by kernel_rfl)
def ty127 : TyI := ⟨(Go.TypeDesc.func #[3] #[] false), 1, 8, .nilFunc, [], []⟩
theorem ty127_ok : TyOk Try.prog 127 ty127 := tyOk_of Try.underlying127 (by kernel_rfl) rfl (by kernel_rfl)
def ty128 : TyI := ⟨(Go.TypeDesc.map 134 4), 1, 8, .map none, [], []⟩
theorem ty128_ok : TyOk Try.prog 128 ty128 := tyOk_of Try.underlying128 (by kernel_rfl) rfl (by kernel_rfl)
def ty129 : TyI := ⟨(Go.TypeDesc.slice 137), 1, 24, .slice none 0 0, [], []⟩
theorem ty129_ok : TyOk Try.prog 129 ty129 := tyOk_of Try.underlying129 (by kernel_rfl) rfl (by kernel_rfl)
def ty130 : TyI := ⟨(Go.TypeDesc.struct #[{ name := "l", type := 129, offset := 0, embedded := false, tag := "", pkgPath := "hostler/hands", byteOffset := 0 }, { name := "started", type := 128, offset := 1, embedded := false, tag := "", pkgPath := "hostler/hands", byteOffset := 24 }, { name := "launched", type := 76, offset := 2, embedded := false, tag := "", pkgPath := "hostler/hands", byteOffset := 32 }]), 3, 56, .agg #[.slice none 0 0, .map none, .slice none 0 0], [(0, 129), (1, 128), (2, 76)], [(0, 1), (1, 1), (2, 1)]⟩
theorem ty130_ok : TyOk Try.prog 130 ty130 := tyOk_of Try.underlying130 (by kernel_rfl) rfl (by kernel_rfl)
def ty131 : TyI := ⟨(Go.TypeDesc.struct #[{ name := "l", type := 129, offset := 0, embedded := false, tag := "", pkgPath := "hostler/hands", byteOffset := 0 }, { name := "started", type := 128, offset := 1, embedded := false, tag := "", pkgPath := "hostler/hands", byteOffset := 24 }, { name := "launched", type := 76, offset := 2, embedded := false, tag := "", pkgPath := "hostler/hands", byteOffset := 32 }]), 3, 56, .agg #[.slice none 0 0, .map none, .slice none 0 0], [(0, 129), (1, 128), (2, 76)], [(0, 1), (1, 1), (2, 1)]⟩
theorem ty131_ok : TyOk Try.prog 131 ty131 := tyOk_of Try.underlying131 (by kernel_rfl) rfl (by kernel_rfl)
def ty132 : TyI := ⟨(Go.TypeDesc.func #[134] #[65] false), 1, 8, .nilFunc, [], []⟩
theorem ty132_ok : TyOk Try.prog 132 ty132 := tyOk_of Try.underlying132 (by kernel_rfl) rfl (by kernel_rfl)
def ty133 : TyI := ⟨(Go.TypeDesc.struct #[{ name := "f", type := 9, offset := 0, embedded := false, tag := "", pkgPath := "hostler/hands", byteOffset := 0 }, { name := "e", type := 9, offset := 1, embedded := false, tag := "", pkgPath := "hostler/hands", byteOffset := 16 }, { name := "n", type := 3, offset := 2, embedded := false, tag := "", pkgPath := "hostler/hands", byteOffset := 32 }]), 3, 40, .agg #[.string ⟨#[]⟩, .string ⟨#[]⟩, .int .i64 0], [(0, 9), (1, 9), (2, 3)], [(0, 1), (1, 1), (2, 1)]⟩
theorem ty133_ok : TyOk Try.prog 133 ty133 := tyOk_of Try.underlying133 (by kernel_rfl) rfl (by kernel_rfl)
def ty134 : TyI := ⟨(Go.TypeDesc.struct #[{ name := "f", type := 9, offset := 0, embedded := false, tag := "", pkgPath := "hostler/hands", byteOffset := 0 }, { name := "e", type := 9, offset := 1, embedded := false, tag := "", pkgPath := "hostler/hands", byteOffset := 16 }, { name := "n", type := 3, offset := 2, embedded := false, tag := "", pkgPath := "hostler/hands", byteOffset := 32 }]), 3, 40, .agg #[.string ⟨#[]⟩, .string ⟨#[]⟩, .int .i64 0], [(0, 9), (1, 9), (2, 3)], [(0, 1), (1, 1), (2, 1)]⟩
theorem ty134_ok : TyOk Try.prog 134 ty134 := tyOk_of Try.underlying134 (by kernel_rfl) rfl (by kernel_rfl)
def ty135 : TyI := ⟨(Go.TypeDesc.func #[69] #[134] false), 1, 8, .nilFunc, [], []⟩
theorem ty135_ok : TyOk Try.prog 135 ty135 := tyOk_of Try.underlying135 (by kernel_rfl) rfl (by kernel_rfl)
def ty136 : TyI := ⟨(Go.TypeDesc.func #[134] #[3] false), 1, 8, .nilFunc, [], []⟩
theorem ty136_ok : TyOk Try.prog 136 ty136 := tyOk_of Try.underlying136 (by kernel_rfl) rfl (by kernel_rfl)
def ty137 : TyI := ⟨(Go.TypeDesc.pointer 144), 1, 8, .pointer none, [], []⟩
theorem ty137_ok : TyOk Try.prog 137 ty137 := tyOk_of Try.underlying137 (by kernel_rfl) rfl (by kernel_rfl)
def ty138 : TyI := ⟨(Go.TypeDesc.func #[137, 67] #[] false), 1, 8, .nilFunc, [], []⟩
theorem ty138_ok : TyOk Try.prog 138 ty138 := tyOk_of Try.underlying138 (by kernel_rfl) rfl (by kernel_rfl)
def ty139 : TyI := ⟨(Go.TypeDesc.func #[137, 9] #[65] false), 1, 8, .nilFunc, [], []⟩
theorem ty139_ok : TyOk Try.prog 139 ty139 := tyOk_of Try.underlying139 (by kernel_rfl) rfl (by kernel_rfl)
def ty140 : TyI := ⟨(Go.TypeDesc.func #[129, 3, 3] #[129] false), 1, 8, .nilFunc, [], []⟩
theorem ty140_ok : TyOk Try.prog 140 ty140 := tyOk_of Try.underlying140 (by kernel_rfl) rfl (by kernel_rfl)
def ty141 : TyI := ⟨(Go.TypeDesc.func #[3, 134] #[69] false), 1, 8, .nilFunc, [], []⟩
theorem ty141_ok : TyOk Try.prog 141 ty141 := tyOk_of Try.underlying141 (by kernel_rfl) rfl (by kernel_rfl)
def ty142 : TyI := ⟨(Go.TypeDesc.slice 176), 1, 24, .slice none 0 0, [], []⟩
theorem ty142_ok : TyOk Try.prog 142 ty142 := tyOk_of Try.underlying142 (by kernel_rfl) rfl (by kernel_rfl)
def ty143 : TyI := ⟨(Go.TypeDesc.struct #[{ name := "id", type := 134, offset := 0, embedded := true, tag := "", pkgPath := "hostler/hands", byteOffset := 0 }, { name := "l", type := 142, offset := 3, embedded := false, tag := "", pkgPath := "hostler/hands", byteOffset := 40 }]), 4, 64, .agg #[.string ⟨#[]⟩, .string ⟨#[]⟩, .int .i64 0, .slice none 0 0], [(0, 134), (3, 142)], [(0, 3), (3, 1)]⟩
theorem ty143_ok : TyOk Try.prog 143 ty143 := tyOk_of Try.underlying143 (by kernel_rfl) rfl (by kernel_rfl)
def ty144 : TyI := ⟨(Go.TypeDesc.struct #[{ name := "id", type := 134, offset := 0, embedded := true, tag := "", pkgPath := "hostler/hands", byteOffset := 0 }, { name := "l", type := 142, offset := 3, embedded := false, tag := "", pkgPath := "hostler/hands", byteOffset := 40 }]), 4, 64, .agg #[.string ⟨#[]⟩, .string ⟨#[]⟩, .int .i64 0, .slice none 0 0], [(0, 134), (3, 142)], [(0, 3), (3, 1)]⟩
theorem ty144_ok : TyOk Try.prog 144 ty144 := tyOk_of Try.underlying144 (by kernel_rfl) rfl (by kernel_rfl)
def ty145 : TyI := ⟨(Go.TypeDesc.func #[] #[69] false), 1, 8, .nilFunc, [], []⟩
theorem ty145_ok : TyOk Try.prog 145 ty145 := tyOk_of Try.underlying145 (by kernel_rfl) rfl (by kernel_rfl)
def ty146 : TyI := ⟨(Go.TypeDesc.func #[76] #[76] false), 1, 8, .nilFunc, [], []⟩
theorem ty146_ok : TyOk Try.prog 146 ty146 := tyOk_of Try.underlying146 (by kernel_rfl) rfl (by kernel_rfl)
def ty147 : TyI := ⟨(Go.TypeDesc.pointer 150), 1, 8, .pointer none, [], []⟩
theorem ty147_ok : TyOk Try.prog 147 ty147 := tyOk_of Try.underlying147 (by kernel_rfl) rfl (by kernel_rfl)
def ty148 : TyI := ⟨(Go.TypeDesc.slice 153), 1, 24, .slice none 0 0, [], []⟩
theorem ty148_ok : TyOk Try.prog 148 ty148 := tyOk_of Try.underlying148 (by kernel_rfl) rfl (by kernel_rfl)
def ty149 : TyI := ⟨(Go.TypeDesc.struct #[{ name := "f", type := 9, offset := 0, embedded := false, tag := "", pkgPath := "hostler/hostlerref19", byteOffset := 0 }, { name := "e", type := 9, offset := 1, embedded := false, tag := "", pkgPath := "hostler/hostlerref19", byteOffset := 16 }, { name := "n", type := 3, offset := 2, embedded := false, tag := "", pkgPath := "hostler/hostlerref19", byteOffset := 32 }, { name := "live", type := 4, offset := 3, embedded := false, tag := "", pkgPath := "hostler/hostlerref19", byteOffset := 40 }, { name := "tasks", type := 148, offset := 4, embedded := false, tag := "", pkgPath := "hostler/hostlerref19", byteOffset := 48 }]), 5, 72, .agg #[.string ⟨#[]⟩, .string ⟨#[]⟩, .int .i64 0, .bool false, .slice none 0 0], [(0, 9), (1, 9), (2, 3), (3, 4), (4, 148)], [(0, 1), (1, 1), (2, 1), (3, 1), (4, 1)]⟩
theorem ty149_ok : TyOk Try.prog 149 ty149 := tyOk_of Try.underlying149 (by kernel_rfl) rfl (by kernel_rfl)
def ty150 : TyI := ⟨(Go.TypeDesc.struct #[{ name := "f", type := 9, offset := 0, embedded := false, tag := "", pkgPath := "hostler/hostlerref19", byteOffset := 0 }, { name := "e", type := 9, offset := 1, embedded := false, tag := "", pkgPath := "hostler/hostlerref19", byteOffset := 16 }, { name := "n", type := 3, offset := 2, embedded := false, tag := "", pkgPath := "hostler/hostlerref19", byteOffset := 32 }, { name := "live", type := 4, offset := 3, embedded := false, tag := "", pkgPath := "hostler/hostlerref19", byteOffset := 40 }, { name := "tasks", type := 148, offset := 4, embedded := false, tag := "", pkgPath := "hostler/hostlerref19", byteOffset := 48 }]), 5, 72, .agg #[.string ⟨#[]⟩, .string ⟨#[]⟩, .int .i64 0, .bool false, .slice none 0 0], [(0, 9), (1, 9), (2, 3), (3, 4), (4, 148)], [(0, 1), (1, 1), (2, 1), (3, 1), (4, 1)]⟩
theorem ty150_ok : TyOk Try.prog 150 ty150 := tyOk_of Try.underlying150 (by kernel_rfl) rfl (by kernel_rfl)
def ty151 : TyI := ⟨(Go.TypeDesc.func #[3, 147] #[69] false), 1, 8, .nilFunc, [], []⟩
theorem ty151_ok : TyOk Try.prog 151 ty151 := tyOk_of Try.underlying151 (by kernel_rfl) rfl (by kernel_rfl)
def ty152 : TyI := ⟨(Go.TypeDesc.struct #[{ name := "t", type := 9, offset := 0, embedded := false, tag := "", pkgPath := "hostler/hostlerref19", byteOffset := 0 }, { name := "reported", type := 4, offset := 1, embedded := false, tag := "", pkgPath := "hostler/hostlerref19", byteOffset := 16 }]), 2, 24, .agg #[.string ⟨#[]⟩, .bool false], [(0, 9), (1, 4)], [(0, 1), (1, 1)]⟩
theorem ty152_ok : TyOk Try.prog 152 ty152 := tyOk_of Try.underlying152 (by kernel_rfl) rfl (by kernel_rfl)
def ty153 : TyI := ⟨(Go.TypeDesc.struct #[{ name := "t", type := 9, offset := 0, embedded := false, tag := "", pkgPath := "hostler/hostlerref19", byteOffset := 0 }, { name := "reported", type := 4, offset := 1, embedded := false, tag := "", pkgPath := "hostler/hostlerref19", byteOffset := 16 }]), 2, 24, .agg #[.string ⟨#[]⟩, .bool false], [(0, 9), (1, 4)], [(0, 1), (1, 1)]⟩
theorem ty153_ok : TyOk Try.prog 153 ty153 := tyOk_of Try.underlying153 (by kernel_rfl) rfl (by kernel_rfl)
def ty154 : TyI := ⟨(Go.TypeDesc.func #[69] #[147] false), 1, 8, .nilFunc, [], []⟩
theorem ty154_ok : TyOk Try.prog 154 ty154 := tyOk_of Try.underlying154 (by kernel_rfl) rfl (by kernel_rfl)
def ty155 : TyI := ⟨(Go.TypeDesc.struct #[{ name := "l", type := 93, offset := 0, embedded := false, tag := "", pkgPath := "hostler/bin", byteOffset := 0 }]), 1, 24, .agg #[.slice none 0 0], [(0, 93)], [(0, 1)]⟩
theorem ty155_ok : TyOk Try.prog 155 ty155 := tyOk_of Try.underlying155 (by kernel_rfl) rfl (by kernel_rfl)
def ty156 : TyI := ⟨(Go.TypeDesc.struct #[{ name := "l", type := 93, offset := 0, embedded := false, tag := "", pkgPath := "hostler/bin", byteOffset := 0 }]), 1, 24, .agg #[.slice none 0 0], [(0, 93)], [(0, 1)]⟩
theorem ty156_ok : TyOk Try.prog 156 ty156 := tyOk_of Try.underlying156 (by kernel_rfl) rfl (by kernel_rfl)
def ty157 : TyI := ⟨(Go.TypeDesc.func #[9, 9, 3] #[3] false), 1, 8, .nilFunc, [], []⟩
theorem ty157_ok : TyOk Try.prog 157 ty157 := tyOk_of Try.underlying157 (by kernel_rfl) rfl (by kernel_rfl)
def ty158 : TyI := ⟨(Go.TypeDesc.func #[93, 159] #[] false), 1, 8, .nilFunc, [], []⟩
theorem ty158_ok : TyOk Try.prog 158 ty158 := tyOk_of Try.underlying158 (by kernel_rfl) rfl (by kernel_rfl)
def ty159 : TyI := ⟨(Go.TypeDesc.func #[96, 96] #[3] false), 1, 8, .nilFunc, [], []⟩
theorem ty159_ok : TyOk Try.prog 159 ty159 := tyOk_of Try.underlying159 (by kernel_rfl) rfl (by kernel_rfl)
def ty160 : TyI := ⟨(Go.TypeDesc.func #[93] #[93] false), 1, 8, .nilFunc, [], []⟩
theorem ty160_ok : TyOk Try.prog 160 ty160 := tyOk_of Try.underlying160 (by kernel_rfl) rfl (by kernel_rfl)
def ty161 : TyI := ⟨(Go.TypeDesc.func #[93, 162] #[93] false), 1, 8, .nilFunc, [], []⟩
theorem ty161_ok : TyOk Try.prog 161 ty161 := tyOk_of Try.underlying161 (by kernel_rfl) rfl (by kernel_rfl)
def ty162 : TyI := ⟨(Go.TypeDesc.func #[96] #[4] false), 1, 8, .nilFunc, [], []⟩
theorem ty162_ok : TyOk Try.prog 162 ty162 := tyOk_of Try.underlying162 (by kernel_rfl) rfl (by kernel_rfl)
def ty163 : TyI := ⟨(Go.TypeDesc.func #[93, 3, 3] #[93] false), 1, 8, .nilFunc, [], []⟩
theorem ty163_ok : TyOk Try.prog 163 ty163 := tyOk_of Try.underlying163 (by kernel_rfl) rfl (by kernel_rfl)
def ty164 : TyI := ⟨(Go.TypeDesc.func #[3, 3, 3] #[3] false), 1, 8, .nilFunc, [], []⟩
theorem ty164_ok : TyOk Try.prog 164 ty164 := tyOk_of Try.underlying164 (by kernel_rfl) rfl (by kernel_rfl)
def ty165 : TyI := ⟨(Go.TypeDesc.struct #[{ name := "F", type := 9, offset := 0, embedded := false, tag := "", pkgPath := "", byteOffset := 0 }, { name := "E", type := 9, offset := 1, embedded := false, tag := "", pkgPath := "", byteOffset := 16 }, { name := "N", type := 3, offset := 2, embedded := false, tag := "", pkgPath := "", byteOffset := 32 }, { name := "Since", type := 3, offset := 3, embedded := false, tag := "", pkgPath := "", byteOffset := 40 }]), 4, 48, .agg #[.string ⟨#[]⟩, .string ⟨#[]⟩, .int .i64 0, .int .i64 0], [(0, 9), (1, 9), (2, 3), (3, 3)], [(0, 1), (1, 1), (2, 1), (3, 1)]⟩
theorem ty165_ok : TyOk Try.prog 165 ty165 := tyOk_of Try.underlying165 (by kernel_rfl) rfl (by kernel_rfl)
def ty166 : TyI := ⟨(Go.TypeDesc.map 3 3), 1, 8, .map none, [], []⟩
theorem ty166_ok : TyOk Try.prog 166 ty166 := tyOk_of Try.underlying166 (by kernel_rfl) rfl (by kernel_rfl)
def ty168 : TyI := ⟨(Go.TypeDesc.func #[23, 30] #[166, 4] false), 1, 8, .nilFunc, [], []⟩
theorem ty168_ok : TyOk Try.prog 168 ty168 := tyOk_of Try.underlying168 (by kernel_rfl) rfl (by kernel_rfl)
def ty169 : TyI := ⟨(Go.TypeDesc.func #[22] #[3] true), 1, 8, .nilFunc, [], []⟩
theorem ty169_ok : TyOk Try.prog 169 ty169 := tyOk_of Try.underlying169 (by kernel_rfl) rfl (by kernel_rfl)
def ty170 : TyI := ⟨(Go.TypeDesc.func #[67, 67] #[4] false), 1, 8, .nilFunc, [], []⟩
theorem ty170_ok : TyOk Try.prog 170 ty170 := tyOk_of Try.underlying170 (by kernel_rfl) rfl (by kernel_rfl)
def ty171 : TyI := ⟨(Go.TypeDesc.func #[53, 126] #[3] false), 1, 8, .nilFunc, [], []⟩
theorem ty171_ok : TyOk Try.prog 171 ty171 := tyOk_of Try.underlying171 (by kernel_rfl) rfl (by kernel_rfl)
def ty172 : TyI := ⟨(Go.TypeDesc.func #[129, 173] #[3] false), 1, 8, .nilFunc, [], []⟩
theorem ty172_ok : TyOk Try.prog 172 ty172 := tyOk_of Try.underlying172 (by kernel_rfl) rfl (by kernel_rfl)
def ty173 : TyI := ⟨(Go.TypeDesc.func #[137] #[4] false), 1, 8, .nilFunc, [], []⟩
theorem ty173_ok : TyOk Try.prog 173 ty173 := tyOk_of Try.underlying173 (by kernel_rfl) rfl (by kernel_rfl)
def ty174 : TyI := ⟨(Go.TypeDesc.func #[76, 30] #[4] false), 1, 8, .nilFunc, [], []⟩
theorem ty174_ok : TyOk Try.prog 174 ty174 := tyOk_of Try.underlying174 (by kernel_rfl) rfl (by kernel_rfl)
def ty175 : TyI := ⟨(Go.TypeDesc.struct #[{ name := "t", type := 9, offset := 0, embedded := false, tag := "", pkgPath := "hostler/hands", byteOffset := 0 }, { name := "told", type := 4, offset := 1, embedded := false, tag := "", pkgPath := "hostler/hands", byteOffset := 16 }]), 2, 24, .agg #[.string ⟨#[]⟩, .bool false], [(0, 9), (1, 4)], [(0, 1), (1, 1)]⟩
theorem ty175_ok : TyOk Try.prog 175 ty175 := tyOk_of Try.underlying175 (by kernel_rfl) rfl (by kernel_rfl)
def ty176 : TyI := ⟨(Go.TypeDesc.struct #[{ name := "t", type := 9, offset := 0, embedded := false, tag := "", pkgPath := "hostler/hands", byteOffset := 0 }, { name := "told", type := 4, offset := 1, embedded := false, tag := "", pkgPath := "hostler/hands", byteOffset := 16 }]), 2, 24, .agg #[.string ⟨#[]⟩, .bool false], [(0, 9), (1, 4)], [(0, 1), (1, 1)]⟩
theorem ty176_ok : TyOk Try.prog 176 ty176 := tyOk_of Try.underlying176 (by kernel_rfl) rfl (by kernel_rfl)
def ty177 : TyI := ⟨(Go.TypeDesc.func #[142, 178] #[3] false), 1, 8, .nilFunc, [], []⟩
theorem ty177_ok : TyOk Try.prog 177 ty177 := tyOk_of Try.underlying177 (by kernel_rfl) rfl (by kernel_rfl)
def ty178 : TyI := ⟨(Go.TypeDesc.func #[176] #[4] false), 1, 8, .nilFunc, [], []⟩
theorem ty178_ok : TyOk Try.prog 178 ty178 := tyOk_of Try.underlying178 (by kernel_rfl) rfl (by kernel_rfl)
def ty179 : TyI := ⟨(Go.TypeDesc.func #[142, 3, 3] #[142] false), 1, 8, .nilFunc, [], []⟩
theorem ty179_ok : TyOk Try.prog 179 ty179 := tyOk_of Try.underlying179 (by kernel_rfl) rfl (by kernel_rfl)
def ty180 : TyI := ⟨(Go.TypeDesc.func #[134, 9, 3] #[69] false), 1, 8, .nilFunc, [], []⟩
theorem ty180_ok : TyOk Try.prog 180 ty180 := tyOk_of Try.underlying180 (by kernel_rfl) rfl (by kernel_rfl)
def ty181 : TyI := ⟨(Go.TypeDesc.func #[93, 162] #[3] false), 1, 8, .nilFunc, [], []⟩
theorem ty181_ok : TyOk Try.prog 181 ty181 := tyOk_of Try.underlying181 (by kernel_rfl) rfl (by kernel_rfl)
def ty182 : TyI := ⟨(Go.TypeDesc.func #[93, 3, 159] #[] false), 1, 8, .nilFunc, [], []⟩
theorem ty182_ok : TyOk Try.prog 182 ty182 := tyOk_of Try.underlying182 (by kernel_rfl) rfl (by kernel_rfl)
def ty184 : TyI := ⟨(Go.TypeDesc.func #[76, 30] #[3] false), 1, 8, .nilFunc, [], []⟩
theorem ty184_ok : TyOk Try.prog 184 ty184 := tyOk_of Try.underlying184 (by kernel_rfl) rfl (by kernel_rfl)
def ty185 : TyI := ⟨(Go.TypeDesc.func #[93, 3, 3, 159] #[] false), 1, 8, .nilFunc, [], []⟩
theorem ty185_ok : TyOk Try.prog 185 ty185 := tyOk_of Try.underlying185 (by kernel_rfl) rfl (by kernel_rfl)
def ty186 : TyI := ⟨(Go.TypeDesc.func #[93, 3, 3, 3, 159] #[] false), 1, 8, .nilFunc, [], []⟩
theorem ty186_ok : TyOk Try.prog 186 ty186 := tyOk_of Try.underlying186 (by kernel_rfl) rfl (by kernel_rfl)
def ty187 : TyI := ⟨(Go.TypeDesc.int Go.IntKind.u64), 1, 8, .int .u64 0, [], []⟩
theorem ty187_ok : TyOk Try.prog 187 ty187 := tyOk_of Try.underlying187 (by kernel_rfl) rfl (by kernel_rfl)
def ty188 : TyI := ⟨(Go.TypeDesc.func #[] #[9] false), 1, 8, .nilFunc, [], []⟩
theorem ty188_ok : TyOk Try.prog 188 ty188 := tyOk_of Try.underlying188 (by kernel_rfl) rfl (by kernel_rfl)
def ty189 : TyI := ⟨(Go.TypeDesc.struct #[{ name := "_interface", type := 17, offset := 0, embedded := false, tag := "", pkgPath := "runtime", byteOffset := 0 }, { name := "concrete", type := 17, offset := 1, embedded := false, tag := "", pkgPath := "runtime", byteOffset := 8 }, { name := "asserted", type := 17, offset := 2, embedded := false, tag := "", pkgPath := "runtime", byteOffset := 16 }, { name := "missingMethod", type := 9, offset := 3, embedded := false, tag := "", pkgPath := "runtime", byteOffset := 24 }]), 4, 40, .agg #[.pointer none, .pointer none, .pointer none, .string ⟨#[]⟩], [(0, 17), (1, 17), (2, 17), (3, 9)], [(0, 1), (1, 1), (2, 1), (3, 1)]⟩
theorem ty189_ok : TyOk Try.prog 189 ty189 := tyOk_of Try.underlying189 (by kernel_rfl) rfl (by kernel_rfl)
def ty190 : TyI := ⟨(Go.TypeDesc.struct #[{ name := "_interface", type := 17, offset := 0, embedded := false, tag := "", pkgPath := "runtime", byteOffset := 0 }, { name := "concrete", type := 17, offset := 1, embedded := false, tag := "", pkgPath := "runtime", byteOffset := 8 }, { name := "asserted", type := 17, offset := 2, embedded := false, tag := "", pkgPath := "runtime", byteOffset := 16 }, { name := "missingMethod", type := 9, offset := 3, embedded := false, tag := "", pkgPath := "runtime", byteOffset := 24 }]), 4, 40, .agg #[.pointer none, .pointer none, .pointer none, .string ⟨#[]⟩], [(0, 17), (1, 17), (2, 17), (3, 9)], [(0, 1), (1, 1), (2, 1), (3, 1)]⟩
theorem ty190_ok : TyOk Try.prog 190 ty190 := tyOk_of Try.underlying190 (by kernel_rfl) rfl (by kernel_rfl)
def ty192 : TyI := ⟨(Go.TypeDesc.struct #[{ name := "_", type := 191, offset := 0, embedded := false, tag := "", pkgPath := "runtime", byteOffset := 0 }]), 0, 0, .agg #[], [(0, 191)], [(0, 0)]⟩
theorem ty192_ok : TyOk Try.prog 192 ty192 := tyOk_of Try.underlying192 (by kernel_rfl) rfl (by kernel_rfl)
def ty193 : TyI := ⟨(Go.TypeDesc.struct #[{ name := "_", type := 191, offset := 0, embedded := false, tag := "", pkgPath := "runtime", byteOffset := 0 }]), 0, 0, .agg #[], [(0, 191)], [(0, 0)]⟩
theorem ty193_ok : TyOk Try.prog 193 ty193 := tyOk_of Try.underlying193 (by kernel_rfl) rfl (by kernel_rfl)
def ty194 : TyI := ⟨(Go.TypeDesc.int Go.IntKind.u32), 1, 4, .int .u32 0, [], []⟩
theorem ty194_ok : TyOk Try.prog 194 ty194 := tyOk_of Try.underlying194 (by kernel_rfl) rfl (by kernel_rfl)
def ty195 : TyI := ⟨(Go.TypeDesc.int Go.IntKind.u8), 1, 1, .int .u8 0, [], []⟩
theorem ty195_ok : TyOk Try.prog 195 ty195 := tyOk_of Try.underlying195 (by kernel_rfl) rfl (by kernel_rfl)
def ty196 : TyI := ⟨(Go.TypeDesc.int Go.IntKind.u8), 1, 1, .int .u8 0, [], []⟩
theorem ty196_ok : TyOk Try.prog 196 ty196 := tyOk_of Try.underlying196 (by kernel_rfl) rfl (by kernel_rfl)
def ty197 : TyI := ⟨(Go.TypeDesc.func #[203, 203] #[4] false), 1, 8, .nilFunc, [], []⟩
theorem ty197_ok : TyOk Try.prog 197 ty197 := tyOk_of Try.underlying197 (by kernel_rfl) rfl (by kernel_rfl)
def ty198 : TyI := ⟨(Go.TypeDesc.pointer 5), 1, 8, .pointer none, [], []⟩
theorem ty198_ok : TyOk Try.prog 198 ty198 := tyOk_of Try.underlying198 (by kernel_rfl) rfl (by kernel_rfl)
def ty199 : TyI := ⟨(Go.TypeDesc.int Go.IntKind.i32), 1, 4, .int .i32 0, [], []⟩
theorem ty199_ok : TyOk Try.prog 199 ty199 := tyOk_of Try.underlying199 (by kernel_rfl) rfl (by kernel_rfl)
def ty200 : TyI := ⟨(Go.TypeDesc.int Go.IntKind.i32), 1, 4, .int .i32 0, [], []⟩
theorem ty200_ok : TyOk Try.prog 200 ty200 := tyOk_of Try.underlying200 (by kernel_rfl) rfl (by kernel_rfl)
def ty201 : TyI := ⟨(Go.TypeDesc.struct #[{ name := "Size_", type := 12, offset := 0, embedded := false, tag := "", pkgPath := "", byteOffset := 0 }, { name := "PtrBytes", type := 12, offset := 1, embedded := false, tag := "", pkgPath := "", byteOffset := 8 }, { name := "Hash", type := 194, offset := 2, embedded := false, tag := "", pkgPath := "", byteOffset := 16 }, { name := "TFlag", type := 195, offset := 3, embedded := false, tag := "", pkgPath := "", byteOffset := 20 }, { name := "Align_", type := 5, offset := 4, embedded := false, tag := "", pkgPath := "", byteOffset := 21 }, { name := "FieldAlign_", type := 5, offset := 5, embedded := false, tag := "", pkgPath := "", byteOffset := 22 }, { name := "Kind_", type := 196, offset := 6, embedded := false, tag := "", pkgPath := "", byteOffset := 23 }, { name := "Equal", type := 197, offset := 7, embedded := false, tag := "", pkgPath := "", byteOffset := 24 }, { name := "GCData", type := 198, offset := 8, embedded := false, tag := "", pkgPath := "", byteOffset := 32 }, { name := "Str", type := 199, offset := 9, embedded := false, tag := "", pkgPath := "", byteOffset := 40 }, { name := "PtrToThis", type := 200, offset := 10, embedded := false, tag := "", pkgPath := "", byteOffset := 44 }]), 11, 48, .agg #[.int .u64 0, .int .u64 0, .int .u32 0, .int .u8 0, .int .u8 0, .int .u8 0, .int .u8 0, .nilFunc, .pointer none, .int .i32 0, .int .i32 0], [(0, 12), (1, 12), (2, 194), (3, 195), (4, 5), (5, 5), (6, 196), (7, 197), (8, 198), (9, 199), (10, 200)], [(0, 1), (1, 1), (2, 1), (3, 1), (4, 1), (5, 1), (6, 1), (7, 1), (8, 1), (9, 1), (10, 1)]⟩
theorem ty201_ok : TyOk Try.prog 201 ty201 := tyOk_of Try.underlying201 (by kernel_rfl) rfl (by kernel_rfl)
def ty202 : TyI := ⟨(Go.TypeDesc.struct #[{ name := "Size_", type := 12, offset := 0, embedded := false, tag := "", pkgPath := "", byteOffset := 0 }, { name := "PtrBytes", type := 12, offset := 1, embedded := false, tag := "", pkgPath := "", byteOffset := 8 }, { name := "Hash", type := 194, offset := 2, embedded := false, tag := "", pkgPath := "", byteOffset := 16 }, { name := "TFlag", type := 195, offset := 3, embedded := false, tag := "", pkgPath := "", byteOffset := 20 }, { name := "Align_", type := 5, offset := 4, embedded := false, tag := "", pkgPath := "", byteOffset := 21 }, { name := "FieldAlign_", type := 5, offset := 5, embedded := false, tag := "", pkgPath := "", byteOffset := 22 }, { name := "Kind_", type := 196, offset := 6, embedded := false, tag := "", pkgPath := "", byteOffset := 23 }, { name := "Equal", type := 197, offset := 7, embedded := false, tag := "", pkgPath := "", byteOffset := 24 }, { name := "GCData", type := 198, offset := 8, embedded := false, tag := "", pkgPath := "", byteOffset := 32 }, { name := "Str", type := 199, offset := 9, embedded := false, tag := "", pkgPath := "", byteOffset := 40 }, { name := "PtrToThis", type := 200, offset := 10, embedded := false, tag := "", pkgPath := "", byteOffset := 44 }]), 11, 48, .agg #[.int .u64 0, .int .u64 0, .int .u32 0, .int .u8 0, .int .u8 0, .int .u8 0, .int .u8 0, .nilFunc, .pointer none, .int .i32 0, .int .i32 0], [(0, 12), (1, 12), (2, 194), (3, 195), (4, 5), (5, 5), (6, 196), (7, 197), (8, 198), (9, 199), (10, 200)], [(0, 1), (1, 1), (2, 1), (3, 1), (4, 1), (5, 1), (6, 1), (7, 1), (8, 1), (9, 1), (10, 1)]⟩
theorem ty202_ok : TyOk Try.prog 202 ty202 := tyOk_of Try.underlying202 (by kernel_rfl) rfl (by kernel_rfl)
def ty203 : TyI := ⟨Go.TypeDesc.unsafePointer, 1, 8, .pointer none, [], []⟩
theorem ty203_ok : TyOk Try.prog 203 ty203 := tyOk_of Try.underlying203 (by kernel_rfl) rfl (by kernel_rfl)
def tabL : List (Nat × TyI) := [(1, ty1), (2, ty2), (3, ty3), (4, ty4), (5, ty5), (6, ty6), (7, ty7), (8, ty8), (9, ty9), (10, ty10), (11, ty11), (12, ty12), (13, ty13), (14, ty14), (15, ty15), (16, ty16), (17, ty17), (18, ty18), (19, ty19), (21, ty21), (22, ty22), (23, ty23), (24, ty24), (26, ty26), (27, ty27), (28, ty28), (29, ty29), (30, ty30), (31, ty31), (32, ty32), (33, ty33), (34, ty34), (35, ty35), (36, ty36), (37, ty37), (38, ty38), (39, ty39), (40, ty40), (41, ty41), (42, ty42), (43, ty43), (44, ty44), (45, ty45), (46, ty46), (47, ty47), (48, ty48), (49, ty49), (50, ty50), (51, ty51), (52, ty52), (53, ty53), (54, ty54), (55, ty55), (56, ty56), (57, ty57), (58, ty58), (59, ty59), (61, ty61), (62, ty62), (63, ty63), (64, ty64), (65, ty65), (66, ty66), (67, ty67), (68, ty68), (69, ty69), (70, ty70), (71, ty71), (72, ty72), (73, ty73), (74, ty74), (75, ty75), (76, ty76), (77, ty77), (78, ty78), (79, ty79), (80, ty80), (81, ty81), (82, ty82), (83, ty83), (84, ty84), (85, ty85), (86, ty86), (87, ty87), (88, ty88), (89, ty89), (90, ty90), (91, ty91), (92, ty92), (93, ty93), (94, ty94), (95, ty95), (96, ty96), (97, ty97), (98, ty98), (99, ty99), (100, ty100), (101, ty101), (102, ty102), (103, ty103), (104, ty104), (105, ty105), (106, ty106), (107, ty107), (108, ty108), (109, ty109), (110, ty110), (111, ty111), (112, ty112), (113, ty113), (114, ty114), (116, ty116), (117, ty117), (118, ty118), (119, ty119), (120, ty120), (121, ty121), (122, ty122), (123, ty123), (124, ty124), (125, ty125), (126, ty126), (127, ty127), (128, ty128), (129, ty129), (130, ty130), (131, ty131), (132, ty132), (133, ty133), (134, ty134), (135, ty135), (136, ty136), (137, ty137), (138, ty138), (139, ty139), (140, ty140), (141, ty141), (142, ty142), (143, ty143), (144, ty144), (145, ty145), (146, ty146), (147, ty147), (148, ty148), (149, ty149), (150, ty150), (151, ty151), (152, ty152), (153, ty153), (154, ty154), (155, ty155), (156, ty156), (157, ty157), (158, ty158), (159, ty159), (160, ty160), (161, ty161), (162, ty162), (163, ty163), (164, ty164), (165, ty165), (166, ty166), (168, ty168), (169, ty169), (170, ty170), (171, ty171), (172, ty172), (173, ty173), (174, ty174), (175, ty175), (176, ty176), (177, ty177), (178, ty178), (179, ty179), (180, ty180), (181, ty181), (182, ty182), (184, ty184), (185, ty185), (186, ty186), (187, ty187), (188, ty188), (189, ty189), (190, ty190), (192, ty192), (193, ty193), (194, ty194), (195, ty195), (196, ty196), (197, ty197), (198, ty198), (199, ty199), (200, ty200), (201, ty201), (202, ty202), (203, ty203)]
theorem tabL_ok : allT Try.prog tabL := ⟨ty1_ok, ty2_ok, ty3_ok, ty4_ok, ty5_ok, ty6_ok, ty7_ok, ty8_ok, ty9_ok, ty10_ok, ty11_ok, ty12_ok, ty13_ok, ty14_ok, ty15_ok, ty16_ok, ty17_ok, ty18_ok, ty19_ok, ty21_ok, ty22_ok, ty23_ok, ty24_ok, ty26_ok, ty27_ok, ty28_ok, ty29_ok, ty30_ok, ty31_ok, ty32_ok, ty33_ok, ty34_ok, ty35_ok, ty36_ok, ty37_ok, ty38_ok, ty39_ok, ty40_ok, ty41_ok, ty42_ok, ty43_ok, ty44_ok, ty45_ok, ty46_ok, ty47_ok, ty48_ok, ty49_ok, ty50_ok, ty51_ok, ty52_ok, ty53_ok, ty54_ok, ty55_ok, ty56_ok, ty57_ok, ty58_ok, ty59_ok, ty61_ok, ty62_ok, ty63_ok, ty64_ok, ty65_ok, ty66_ok, ty67_ok, ty68_ok, ty69_ok, ty70_ok, ty71_ok, ty72_ok, ty73_ok, ty74_ok, ty75_ok, ty76_ok, ty77_ok, ty78_ok, ty79_ok, ty80_ok, ty81_ok, ty82_ok, ty83_ok, ty84_ok, ty85_ok, ty86_ok, ty87_ok, ty88_ok, ty89_ok, ty90_ok, ty91_ok, ty92_ok, ty93_ok, ty94_ok, ty95_ok, ty96_ok, ty97_ok, ty98_ok, ty99_ok, ty100_ok, ty101_ok, ty102_ok, ty103_ok, ty104_ok, ty105_ok, ty106_ok, ty107_ok, ty108_ok, ty109_ok, ty110_ok, ty111_ok, ty112_ok, ty113_ok, ty114_ok, ty116_ok, ty117_ok, ty118_ok, ty119_ok, ty120_ok, ty121_ok, ty122_ok, ty123_ok, ty124_ok, ty125_ok, ty126_ok, ty127_ok, ty128_ok, ty129_ok, ty130_ok, ty131_ok, ty132_ok, ty133_ok, ty134_ok, ty135_ok, ty136_ok, ty137_ok, ty138_ok, ty139_ok, ty140_ok, ty141_ok, ty142_ok, ty143_ok, ty144_ok, ty145_ok, ty146_ok, ty147_ok, ty148_ok, ty149_ok, ty150_ok, ty151_ok, ty152_ok, ty153_ok, ty154_ok, ty155_ok, ty156_ok, ty157_ok, ty158_ok, ty159_ok, ty160_ok, ty161_ok, ty162_ok, ty163_ok, ty164_ok, ty165_ok, ty166_ok, ty168_ok, ty169_ok, ty170_ok, ty171_ok, ty172_ok, ty173_ok, ty174_ok, ty175_ok, ty176_ok, ty177_ok, ty178_ok, ty179_ok, ty180_ok, ty181_ok, ty182_ok, ty184_ok, ty185_ok, ty186_ok, ty187_ok, ty188_ok, ty189_ok, ty190_ok, ty192_ok, ty193_ok, ty194_ok, ty195_ok, ty196_ok, ty197_ok, ty198_ok, ty199_ok, ty200_ok, ty201_ok, ty202_ok, ty203_ok, trivial⟩
instance : HasTab Try.prog := ⟨lookT tabL, allT_get tabL_ok⟩
end Go.Proofs.Ytkogmpeodamdgaa
