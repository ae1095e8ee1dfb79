-- printed by wip/cf/cfprint.py
import Derived.Test.YtiokflecflbopaaCf8
import Derived.Test.YtiokflecflbopaaProg
namespace Go.Proofs.Ytiokflecflbopaa
open Go CF
def cs : List Nat := [3, 4, 5, 6, 7, 8, 9, 10, 11, 12, 13, 14, 15, 16, 17, 18, 19, 20, 21, 22, 23, 24, 25, 26, 27, 28, 29, 30, 31, 32, 33, 34, 35, 36, 37, 38, 39, 40, 41, 42, 43, 44, 45, 46, 47, 48, 49, 50, 51, 52, 53, 54, 55, 56, 57, 58, 59, 60, 61, 62, 63, 64, 65, 66, 67, 68, 69, 71, 72, 73, 74, 75, 76, 77, 79, 80, 82]
def okCalls (P : Program) : List Nat → Bool
  | [] => true
  | f :: r => (match P.funcs[f]? with | some fn => !(fn.name == "runtime.NumGoroutine") && !fn.body.isNone | none => false) && okCalls P r
theorem okCalls_ok {P : Program} : ∀ {l : List Nat}, okCalls P l = true → Callable P l
  | [], _, f, h => by cases h
  | g :: r, hok, f, h => by
    simp only [okCalls, Bool.and_eq_true] at hok
    simp only [memN, Bool.or_eq_true] at h
    rcases h with h | h
    · have e : g = f := Nat.eq_of_beq_eq_true h
      subst e
      have h1 := hok.1
      split at h1
      · rename_i fn hf
        simp only [Bool.and_eq_true, Bool.not_eq_true'] at h1
        exact ⟨fn, hf, h1.1, h1.2⟩
      · cases h1
    · exact okCalls_ok hok.2 f h
theorem callable : Callable Try.prog cs := okCalls_ok (by kernel_rfl)
theorem wide : Try.prog.follows .mixedOrders = true := by kernel_rfl
noncomputable def G : Gen := gen Try.prog cs
def s_f : ByteArray := ⟨#[102]⟩
def s_k : ByteArray := ⟨#[107]⟩
def s_kx2e1 : ByteArray := ⟨#[107, 46, 49]⟩
def s_kx2e0 : ByteArray := ⟨#[107, 46, 48]⟩
def s_a : ByteArray := ⟨#[97]⟩
def s_1 : ByteArray := ⟨#[49]⟩
def s_x00 : ByteArray := ⟨#[0]⟩
def s_x3d : ByteArray := ⟨#[61]⟩
def s_SLOT : ByteArray := ⟨#[83, 76, 79, 84]⟩
def s_x2e : ByteArray := ⟨#[46]⟩
def Cpalletlaw18_TextReads (p0 : Sl) (w : World) (R : Bool → World → Prop) : Prop := CallK Try.prog 3 #[.slice p0.A p0.n p0.c] w [.b] R
def Cpalletlaw04_StoreSplits (p0 : Sl) (p1 : Int) (p2 : Int) (w : World) (R : Bool → World → Prop) : Prop := CallK Try.prog 4 #[.slice p0.A p0.n p0.c, .int .u8 p1, .int .u8 p2] w [.b] R
def Cpalletlaw18_TextWrites (p0 : Sl) (w : World) (R : Bool → World → Prop) : Prop := CallK Try.prog 5 #[.slice p0.A p0.n p0.c] w [.b] R
def Cpalletlaw18_TextJoins (p0 : Sl) (p1 : Sl) (w : World) (R : Bool → World → Prop) : Prop := CallK Try.prog 6 #[.slice p0.A p0.n p0.c, .slice p1.A p1.n p1.c] w [.b] R
def Cpalletlaw04_StoreBlocks (p0 : Sl) (w : World) (R : Bool → World → Prop) : Prop := CallK Try.prog 7 #[.slice p0.A p0.n p0.c] w [.b] R
def Cpalletlaw04_StoreCaches (p0 : Sl) (p1 : Bool) (p2 : Bool) (w : World) (R : Bool → World → Prop) : Prop := CallK Try.prog 8 #[.slice p0.A p0.n p0.c, .bool p1, .bool p2] w [.b] R
def Cpalletlaw04_StoreDurable (p0 : Sl) (p1 : Sl) (p2 : Bool) (p3 : Bool) (p4 : Bool) (p5 : Int) (p6 : Int) (w : World) (R : Bool → World → Prop) : Prop := CallK Try.prog 9 #[.slice p0.A p0.n p0.c, .slice p1.A p1.n p1.c, .bool p2, .bool p3, .bool p4, .int .u8 p5, .int .u8 p6] w [.b] R
def Cpalletlaw05_SlotsRecords (p0 : Int) (p1 : Sl) (p2 : Sl) (w : World) (R : Bool → World → Prop) : Prop := CallK Try.prog 10 #[.int .u64 p0, .slice p1.A p1.n p1.c, .slice p2.A p2.n p2.c] w [.b] R
def Cpalletlaw05_SlotsOld (p0 : Sl) (p1 : Sl) (p2 : Int) (p3 : Int) (p4 : Bool) (w : World) (R : Bool → World → Prop) : Prop := CallK Try.prog 11 #[.slice p0.A p0.n p0.c, .slice p1.A p1.n p1.c, .int .u16 p2, .int .u8 p3, .bool p4] w [.b] R
def Cpalletlaw05_SlotsTurns (p0 : Sl) (p1 : Sl) (w : World) (R : Bool → World → Prop) : Prop := CallK Try.prog 12 #[.slice p0.A p0.n p0.c, .slice p1.A p1.n p1.c] w [.b] R
def Cpalletlaw18_awake (w : World) (R : Bool → World → Prop) : Prop := CallK Try.prog 13 #[] w [.b] R
def Ctext_Parse (p0 : Sl) (w : World) (R : Sl → Int → World → Prop) : Prop := CallK Try.prog 14 #[.slice p0.A p0.n p0.c] w [.sl, .i .i64] R
def Cpalletref18_Parse (p0 : Sl) (w : World) (R : Sl → Int → World → Prop) : Prop := CallK Try.prog 15 #[.slice p0.A p0.n p0.c] w [.sl, .i .i64] R
def Cpalletref18_Same (p0 : Sl) (p1 : Sl) (w : World) (R : Bool → World → Prop) : Prop := CallK Try.prog 16 #[.slice p0.A p0.n p0.c, .slice p1.A p1.n p1.c] w [.b] R
def Cpalletlaw04_awake (w : World) (R : Bool → World → Prop) : Prop := CallK Try.prog 17 #[] w [.b] R
def Cstore_Open (p0 : Option Addr) (p1 : ByteArray) (p2 : Int) (p3 : Bool) (w : World) (R : (Option Addr) → Int → World → Prop) : Prop := CallK Try.prog 18 #[.pointer p0, .string p1, .int .i64 p2, .bool p3] w [.p, .i .i64] R
def Cworld_New (w : World) (R : (Option Addr) → World → Prop) : Prop := CallK Try.prog 19 #[] w [.p] R
def Cstore_Store_Write (p0 : Option Addr) (p1 : Int) (p2 : Sl) (p3 : Bool) (w : World) (R : Int → Int → World → Prop) : Prop := CallK Try.prog 20 #[.pointer p0, .int .i64 p1, .slice p2.A p2.n p2.c, .bool p3] w [.i .i64, .i .i64] R
def Cstore_Store_Read (p0 : Option Addr) (p1 : Int) (p2 : Int) (w : World) (R : Sl → Int → Int → World → Prop) : Prop := CallK Try.prog 21 #[.pointer p0, .int .i64 p1, .int .i64 p2] w [.sl, .i .i64, .i .i64] R
def Cpalletref04_Same (p0 : Sl) (p1 : Sl) (w : World) (R : Bool → World → Prop) : Prop := CallK Try.prog 22 #[.slice p0.A p0.n p0.c, .slice p1.A p1.n p1.c] w [.b] R
def Ctext_Write (p0 : Sl) (w : World) (R : Sl → Int → World → Prop) : Prop := CallK Try.prog 23 #[.slice p0.A p0.n p0.c] w [.sl, .i .i64] R
def Cpalletref18_Write (p0 : Sl) (w : World) (R : Sl → Int → World → Prop) : Prop := CallK Try.prog 24 #[.slice p0.A p0.n p0.c] w [.sl, .i .i64] R
def Ctext_Find (p0 : Sl) (p1 : ByteArray) (w : World) (R : ByteArray → Bool → World → Prop) : Prop := CallK Try.prog 25 #[.slice p0.A p0.n p0.c, .string p1] w [.s, .b] R
def Cpalletref04_Empty (w : World) (R : (Array Value) → World → Prop) : Prop := CallK Try.prog 26 #[] w [.ag] R
def Cstore_Store_Unmap (p0 : Option Addr) (p1 : Int) (p2 : Int) (w : World) (R : Int → Int → World → Prop) : Prop := CallK Try.prog 27 #[.pointer p0, .int .i64 p1, .int .i64 p2] w [.i .i64, .i .i64] R
def Cworld_World_Waits (p0 : Option Addr) (w : World) (R : Int → World → Prop) : Prop := CallK Try.prog 28 #[.pointer p0] w [.i .i64] R
def Cstore_Store_Sync (p0 : Option Addr) (w : World) (R : Int → World → Prop) : Prop := CallK Try.prog 29 #[.pointer p0] w [.i .i64] R
def Cstore_Store_SetCache (p0 : Option Addr) (p1 : Bool) (w : World) (R : World → Prop) : Prop := CallK Try.prog 30 #[.pointer p0, .bool p1] w [] R
def Cworld_World_Crash (p0 : Option Addr) (p1 : Int) (p2 : Int) (w : World) (R : World → Prop) : Prop := CallK Try.prog 31 #[.pointer p0, .int .i64 p1, .int .i64 p2] w [] R
def Cpalletlaw05_awake (w : World) (R : Bool → World → Prop) : Prop := CallK Try.prog 32 #[] w [.b] R
def Cslots_Record (p0 : Int) (p1 : Sl) (w : World) (R : Sl → Int → World → Prop) : Prop := CallK Try.prog 33 #[.int .u64 p0, .slice p1.A p1.n p1.c] w [.sl, .i .i64] R
def Cslots_Decode (p0 : Sl) (w : World) (R : Int → Sl → Int → World → Prop) : Prop := CallK Try.prog 34 #[.slice p0.A p0.n p0.c] w [.i .u64, .sl, .i .i64] R
def Cpalletref05_Decode (p0 : Sl) (w : World) (R : Int → Sl → Int → World → Prop) : Prop := CallK Try.prog 35 #[.slice p0.A p0.n p0.c] w [.i .u64, .sl, .i .i64] R
def Cpalletref05_Record (p0 : Int) (p1 : Sl) (w : World) (R : Sl → World → Prop) : Prop := CallK Try.prog 36 #[.int .u64 p0, .slice p1.A p1.n p1.c] w [.sl] R
def Cslots_Open (p0 : Option Addr) (p1 : ByteArray) (w : World) (R : (Option Addr) → Int → World → Prop) : Prop := CallK Try.prog 37 #[.pointer p0, .string p1] w [.p, .i .i64] R
def Cslots_Slots_Save (p0 : Option Addr) (p1 : Sl) (w : World) (R : Int → Int → World → Prop) : Prop := CallK Try.prog 38 #[.pointer p0, .slice p1.A p1.n p1.c] w [.i .u64, .i .i64] R
def Cpalletlaw05_SlotsOld_1 (p0 : ByteArray) (p1 : Addr) (p2 : Addr) (p3 : Addr) (w : World) (R : Bool → World → Prop) : Prop := CallK Try.prog 39 #[.string p0, .pointer (some p1), .pointer (some p2), .pointer (some p3)] w [.b] R
def Cworld_World_Read (p0 : Option Addr) (p1 : ByteArray) (p2 : Int) (p3 : Int) (w : World) (R : Sl → Int → World → Prop) : Prop := CallK Try.prog 40 #[.pointer p0, .string p1, .int .i64 p2, .int .i64 p3] w [.sl, .i .i64] R
def Cworld_World_Write (p0 : Option Addr) (p1 : ByteArray) (p2 : Int) (p3 : Sl) (w : World) (R : Int → World → Prop) : Prop := CallK Try.prog 41 #[.pointer p0, .string p1, .int .i64 p2, .slice p3.A p3.n p3.c] w [.i .i64] R
def Cslots_Slots_Load (p0 : Option Addr) (w : World) (R : Sl → Int → Int → World → Prop) : Prop := CallK Try.prog 42 #[.pointer p0] w [.sl, .i .u64, .i .i64] R
def Cstrings_Cut (p0 : ByteArray) (p1 : ByteArray) (w : World) (R : ByteArray → ByteArray → Bool → World → Prop) : Prop := CallK Try.prog 43 #[.string p0, .string p1] w [.s, .s, .b] R
def Ctext_key (p0 : ByteArray) (w : World) (R : Bool → World → Prop) : Prop := CallK Try.prog 44 #[.string p0] w [.b] R
def Ctext_value (p0 : ByteArray) (w : World) (R : Bool → World → Prop) : Prop := CallK Try.prog 45 #[.string p0] w [.b] R
def Cpalletref18_key (p0 : ByteArray) (w : World) (R : Bool → World → Prop) : Prop := CallK Try.prog 46 #[.string p0] w [.b] R
def Cpalletref18_value (p0 : ByteArray) (w : World) (R : Bool → World → Prop) : Prop := CallK Try.prog 47 #[.string p0] w [.b] R
def Cpalletref18_twice (p0 : Sl) (w : World) (R : Bool → World → Prop) : Prop := CallK Try.prog 48 #[.slice p0.A p0.n p0.c] w [.b] R
def Cstore_Store_check (p0 : Option Addr) (p1 : Int) (p2 : Int) (w : World) (R : Int → World → Prop) : Prop := CallK Try.prog 49 #[.pointer p0, .int .i64 p1, .int .i64 p2] w [.i .i64] R
def Cstore_Store_lay (p0 : Option Addr) (p1 : Int) (p2 : Int) (p3 : Value) (p4 : Bool) (w : World) (R : Int → Int → World → Prop) : Prop := CallK Try.prog 50 #[.pointer p0, .int .i64 p1, .int .i64 p2, p3, .bool p4] w [.i .i64, .i .i64] R
def Cstore_Store_Write_1 (p0 : Int) (p1 : Addr) (w : World) (R : Sl → World → Prop) : Prop := CallK Try.prog 51 #[.int .i64 p0, .pointer (some p1)] w [.sl] R
def Cstore_record (p0 : Array Value) (w : World) (R : Sl → World → Prop) : Prop := CallK Try.prog 52 #[.agg p0] w [.sl] R
def Cstore_block (p0 : Sl) (w : World) (R : (Array Value) → World → Prop) : Prop := CallK Try.prog 53 #[.slice p0.A p0.n p0.c] w [.ag] R
def Cstore_Store_Unmap_1 (p0 : Int) (w : World) (R : Sl → World → Prop) : Prop := CallK Try.prog 54 #[.int .i64 p0] w [.sl] R
def Cworld_World_Sync (p0 : Option Addr) (w : World) (R : Int → World → Prop) : Prop := CallK Try.prog 55 #[.pointer p0] w [.i .i64] R
def Cworld_apply (p0 : Option Nat) (p1 : Array Value) (p2 : Int) (w : World) (R : World → Prop) : Prop := CallK Try.prog 56 #[.map p0, .agg p1, .int .i64 p2] w [] R
def Cmaps_Clone_map_string_byte_string_byte (p0 : Option Nat) (w : World) (R : (Option Nat) → World → Prop) : Prop := CallK Try.prog 57 #[.map p0] w [.m] R
def Cbe_Put (p0 : Sl) (p1 : Int) (p2 : Int) (p3 : Int) (w : World) (R : Sl → Int → World → Prop) : Prop := CallK Try.prog 58 #[.slice p0.A p0.n p0.c, .int .i64 p1, .int .i64 p2, .int .u64 p3] w [.sl, .i .i64] R
def Ccrc_C32 (p0 : Sl) (w : World) (R : Int → World → Prop) : Prop := CallK Try.prog 59 #[.slice p0.A p0.n p0.c] w [.i .u32] R
def Cbe_Get (p0 : Sl) (p1 : Int) (p2 : Int) (w : World) (R : Int → Int → World → Prop) : Prop := CallK Try.prog 60 #[.slice p0.A p0.n p0.c, .int .i64 p1, .int .i64 p2] w [.i .u64, .i .i64] R
def Cpalletref01_Num (p0 : Sl) (p1 : Int) (p2 : Int) (w : World) (R : Int → World → Prop) : Prop := CallK Try.prog 61 #[.slice p0.A p0.n p0.c, .int .i64 p1, .int .i64 p2] w [.i .u64] R
def Cpalletref02_C32 (p0 : Sl) (w : World) (R : Int → World → Prop) : Prop := CallK Try.prog 62 #[.slice p0.A p0.n p0.c] w [.i .u32] R
def Cpalletref01_Big (p0 : Int) (p1 : Int) (w : World) (R : Sl → World → Prop) : Prop := CallK Try.prog 63 #[.int .u64 p0, .int .i64 p1] w [.sl] R
def Cslots_Slots_name (p0 : Option Addr) (p1 : Int) (w : World) (R : ByteArray → World → Prop) : Prop := CallK Try.prog 64 #[.pointer p0, .int .i64 p1] w [.s] R
def Cworld_name (p0 : ByteArray) (w : World) (R : Bool → World → Prop) : Prop := CallK Try.prog 65 #[.string p0] w [.b] R
def Cworld_World_call (p0 : Option Addr) (w : World) (R : Int → World → Prop) : Prop := CallK Try.prog 66 #[.pointer p0] w [.i .i64] R
def Cworld_World_do (p0 : Option Addr) (p1 : Array Value) (w : World) (R : Int → World → Prop) : Prop := CallK Try.prog 67 #[.pointer p0, .agg p1] w [.i .i64] R
def Cinternal_stringslite_Cut (p0 : ByteArray) (p1 : ByteArray) (w : World) (R : ByteArray → ByteArray → Bool → World → Prop) : Prop := CallK Try.prog 68 #[.string p0, .string p1] w [.s, .s, .b] R
def Cstore_empty (w : World) (R : (Array Value) → World → Prop) : Prop := CallK Try.prog 69 #[] w [.ag] R
def Cbe_field (p0 : Sl) (p1 : Int) (p2 : Int) (w : World) (R : Int → World → Prop) : Prop := CallK Try.prog 71 #[.slice p0.A p0.n p0.c, .int .i64 p1, .int .i64 p2] w [.i .i64] R
def Ccrc_Add32 (p0 : Int) (p1 : Sl) (w : World) (R : Int → World → Prop) : Prop := CallK Try.prog 72 #[.int .u32 p0, .slice p1.A p1.n p1.c] w [.i .u32] R
def Cpalletref01_Get (p0 : Sl) (p1 : Int) (p2 : Int) (w : World) (R : Int → Int → World → Prop) : Prop := CallK Try.prog 73 #[.slice p0.A p0.n p0.c, .int .i64 p1, .int .i64 p2] w [.i .u64, .i .i64] R
def Cpalletref02_Add32 (p0 : Int) (p1 : Sl) (w : World) (R : Int → World → Prop) : Prop := CallK Try.prog 74 #[.int .u32 p0, .slice p1.A p1.n p1.c] w [.i .u32] R
def Cinternal_stringslite_Index (p0 : ByteArray) (p1 : ByteArray) (w : World) (R : Int → World → Prop) : Prop := CallK Try.prog 75 #[.string p0, .string p1] w [.i .i64] R
def Cpalletref01_field (p0 : Int) (p1 : Int) (p2 : Int) (w : World) (R : Int → World → Prop) : Prop := CallK Try.prog 76 #[.int .i64 p0, .int .i64 p1, .int .i64 p2] w [.i .i64] R
def Cinternal_stringslite_IndexByte (p0 : ByteArray) (p1 : Int) (w : World) (R : Int → World → Prop) : Prop := CallK Try.prog 77 #[.string p0, .int .u8 p1] w [.i .i64] R
def Cinternal_bytealg_Cutover (p0 : Int) (w : World) (R : Int → World → Prop) : Prop := CallK Try.prog 79 #[.int .i64 p0] w [.i .i64] R
def Cinternal_bytealg_IndexRabinKarp_string (p0 : ByteArray) (p1 : ByteArray) (w : World) (R : Int → World → Prop) : Prop := CallK Try.prog 80 #[.string p0, .string p1] w [.i .i64] R
def Cinternal_bytealg_hashStr_string (p0 : ByteArray) (w : World) (R : Int → Int → World → Prop) : Prop := CallK Try.prog 82 #[.string p0] w [.i .u32, .i .u32] R
abbrev t_int : TypeId := 3
theorem u_int : Try.prog.underlying 3 = some (.int .i64) := by kernel_rfl
theorem i_int : (Try.prog.info? 3).map (fun i => (i.zero, i.size, i.bytes)) = some (some (.int .i64 0), 1, 8) := by kernel_rfl
abbrev t_bool : TypeId := 4
theorem u_bool : Try.prog.underlying 4 = some .bool := by kernel_rfl
theorem i_bool : (Try.prog.info? 4).map (fun i => (i.zero, i.size, i.bytes)) = some (some (.bool false), 1, 1) := by kernel_rfl
abbrev t_uint8 : TypeId := 5
theorem u_uint8 : Try.prog.underlying 5 = some (.int .u8) := by kernel_rfl
theorem i_uint8 : (Try.prog.info? 5).map (fun i => (i.zero, i.size, i.bytes)) = some (some (.int .u8 0), 1, 1) := by kernel_rfl
abbrev t_string : TypeId := 9
theorem u_string : Try.prog.underlying 9 = some .string := by kernel_rfl
theorem i_string : (Try.prog.info? 9).map (fun i => (i.zero, i.size, i.bytes)) = some (some (.string ⟨#[]⟩), 1, 16) := by kernel_rfl
abbrev t_sl_uint8 : TypeId := 22
theorem u_sl_uint8 : Try.prog.underlying 22 = some (.slice 5) := by kernel_rfl
theorem i_sl_uint8 : (Try.prog.info? 22).map (fun i => (i.zero, i.size, i.bytes)) = some (some (.slice none 0 0), 1, 24) := by kernel_rfl
abbrev t_sl_api_Pair : TypeId := 24
theorem u_sl_api_Pair : Try.prog.underlying 24 = some (.slice 52) := by kernel_rfl
theorem i_sl_api_Pair : (Try.prog.info? 24).map (fun i => (i.zero, i.size, i.bytes)) = some (some (.slice none 0 0), 1, 24) := by kernel_rfl
abbrev t_api_Errno : TypeId := 25
theorem u_api_Errno : Try.prog.underlying 25 = some (.int .i64) := by kernel_rfl
theorem i_api_Errno : (Try.prog.info? 25).map (fun i => (i.zero, i.size, i.bytes)) = some (some (.int .i64 0), 1, 8) := by kernel_rfl
abbrev t_sl_api_Block : TypeId := 32
theorem u_sl_api_Block : Try.prog.underlying 32 = some (.slice 60) := by kernel_rfl
theorem i_sl_api_Block : (Try.prog.info? 32).map (fun i => (i.zero, i.size, i.bytes)) = some (some (.slice none 0 0), 1, 24) := by kernel_rfl
abbrev t_p_store_Store : TypeId := 33
theorem i_p_store_Store : (Try.prog.info? 33).map (fun i => (i.zero, i.size, i.bytes)) = some (some (.pointer none), 1, 8) := by kernel_rfl
abbrev t_p_world_World : TypeId := 36
theorem i_p_world_World : (Try.prog.info? 36).map (fun i => (i.zero, i.size, i.bytes)) = some (some (.pointer none), 1, 8) := by kernel_rfl
abbrev t_api_Pair : TypeId := 52
theorem i_api_Pair : (Try.prog.info? 52).map (fun i => (i.zero, i.size, i.bytes)) = some (some (.agg #[.string ⟨#[]⟩, .string ⟨#[]⟩]), 2, 32) := by kernel_rfl
theorem g_api_Pair : (Try.prog.underlying 52).map kdOf = some .ag := by kernel_rfl
abbrev t_sl_palletlaw04_Act : TypeId := 53
theorem u_sl_palletlaw04_Act : Try.prog.underlying 53 = some (.slice 64) := by kernel_rfl
theorem i_sl_palletlaw04_Act : (Try.prog.info? 53).map (fun i => (i.zero, i.size, i.bytes)) = some (some (.slice none 0 0), 1, 24) := by kernel_rfl
abbrev t_16_uint8 : TypeId := 54
theorem i_16_uint8 : (Try.prog.info? 54).map (fun i => (i.zero, i.size, i.bytes)) = some (some (.agg #[.int .u8 0, .int .u8 0, .int .u8 0, .int .u8 0, .int .u8 0, .int .u8 0, .int .u8 0, .int .u8 0, .int .u8 0, .int .u8 0, .int .u8 0, .int .u8 0, .int .u8 0, .int .u8 0, .int .u8 0, .int .u8 0]), 16, 16) := by kernel_rfl
theorem g_16_uint8 : (Try.prog.underlying 54).map kdOf = some .ag := by kernel_rfl
abbrev t_uint16 : TypeId := 55
theorem u_uint16 : Try.prog.underlying 55 = some (.int .u16) := by kernel_rfl
theorem i_uint16 : (Try.prog.info? 55).map (fun i => (i.zero, i.size, i.bytes)) = some (some (.int .u16 0), 1, 2) := by kernel_rfl
abbrev t_uint32 : TypeId := 56
theorem u_uint32 : Try.prog.underlying 56 = some (.int .u32) := by kernel_rfl
theorem i_uint32 : (Try.prog.info? 56).map (fun i => (i.zero, i.size, i.bytes)) = some (some (.int .u32 0), 1, 4) := by kernel_rfl
abbrev t_api_Tuple : TypeId := 58
theorem i_api_Tuple : (Try.prog.info? 58).map (fun i => (i.zero, i.size, i.bytes)) = some (some (.agg #[.int .u16 0, .int .u16 0, .int .u32 0]), 3, 8) := by kernel_rfl
theorem g_api_Tuple : (Try.prog.underlying 58).map kdOf = some .ag := by kernel_rfl
abbrev t_api_Block : TypeId := 60
theorem i_api_Block : (Try.prog.info? 60).map (fun i => (i.zero, i.size, i.bytes)) = some (some (.agg #[.int .u8 0, .int .u8 0, .int .u8 0, .int .u8 0, .int .u8 0, .int .u8 0, .int .u8 0, .int .u8 0, .int .u8 0, .int .u8 0, .int .u8 0, .int .u8 0, .int .u8 0, .int .u8 0, .int .u8 0, .int .u8 0, .int .u16 0, .int .u16 0, .int .u32 0]), 19, 24) := by kernel_rfl
theorem g_api_Block : (Try.prog.underlying 60).map kdOf = some .ag := by kernel_rfl
abbrev t_32_api_Block : TypeId := 61
theorem g_32_api_Block : (Try.prog.underlying 61).map kdOf = some .ag := by kernel_rfl
abbrev t_palletlaw04_Act : TypeId := 64
theorem i_palletlaw04_Act : (Try.prog.info? 64).map (fun i => (i.zero, i.size, i.bytes)) = some (some (.agg #[.int .u8 0, .int .i64 0, .int .i64 0, .slice none 0 0, .bool false]), 5, 56) := by kernel_rfl
theorem g_palletlaw04_Act : (Try.prog.underlying 64).map kdOf = some .ag := by kernel_rfl
abbrev t_uint : TypeId := 65
theorem u_uint : Try.prog.underlying 65 = some (.int .u64) := by kernel_rfl
theorem i_uint : (Try.prog.info? 65).map (fun i => (i.zero, i.size, i.bytes)) = some (some (.int .u64 0), 1, 8) := by kernel_rfl
abbrev t_uint64 : TypeId := 74
theorem u_uint64 : Try.prog.underlying 74 = some (.int .u64) := by kernel_rfl
theorem i_uint64 : (Try.prog.info? 74).map (fun i => (i.zero, i.size, i.bytes)) = some (some (.int .u64 0), 1, 8) := by kernel_rfl
abbrev t_p_slots_Slots : TypeId := 82
theorem i_p_slots_Slots : (Try.prog.info? 82).map (fun i => (i.zero, i.size, i.bytes)) = some (some (.pointer none), 1, 8) := by kernel_rfl
abbrev t_sl_sl_uint8 : TypeId := 93
theorem u_sl_sl_uint8 : Try.prog.underlying 93 = some (.slice 22) := by kernel_rfl
theorem i_sl_sl_uint8 : (Try.prog.info? 93).map (fun i => (i.zero, i.size, i.bytes)) = some (some (.slice none 0 0), 1, 24) := by kernel_rfl
abbrev t_sl_bool : TypeId := 94
theorem u_sl_bool : Try.prog.underlying 94 = some (.slice 4) := by kernel_rfl
theorem i_sl_bool : (Try.prog.info? 94).map (fun i => (i.zero, i.size, i.bytes)) = some (some (.slice none 0 0), 1, 24) := by kernel_rfl
abbrev t_store_Store : TypeId := 99
theorem i_store_Store : (Try.prog.info? 99).map (fun i => (i.zero, i.size, i.bytes)) = some (some (.agg #[.pointer none, .string ⟨#[]⟩, .int .i64 0, .bool false]), 4, 40) := by kernel_rfl
theorem g_store_Store : (Try.prog.underlying 99).map kdOf = some .ag := by kernel_rfl
abbrev t_map_string_sl_uint8 : TypeId := 100
theorem u_map_string_sl_uint8 : Try.prog.underlying 100 = some (.map 9 22) := by kernel_rfl
theorem i_map_string_sl_uint8 : (Try.prog.info? 100).map (fun i => (i.zero, i.size, i.bytes)) = some (some (.map none), 1, 8) := by kernel_rfl
abbrev t_sl_world_change : TypeId := 101
theorem u_sl_world_change : Try.prog.underlying 101 = some (.slice 111) := by kernel_rfl
theorem i_sl_world_change : (Try.prog.info? 101).map (fun i => (i.zero, i.size, i.bytes)) = some (some (.slice none 0 0), 1, 24) := by kernel_rfl
abbrev t_map_int_bool : TypeId := 102
theorem u_map_int_bool : Try.prog.underlying 102 = some (.map 3 4) := by kernel_rfl
theorem i_map_int_bool : (Try.prog.info? 102).map (fun i => (i.zero, i.size, i.bytes)) = some (some (.map none), 1, 8) := by kernel_rfl
abbrev t_world_World : TypeId := 104
theorem i_world_World : (Try.prog.info? 104).map (fun i => (i.zero, i.size, i.bytes)) = some (some (.agg #[.map none, .map none, .slice none 0 0, .int .i64 0, .map none, .int .i64 0, .bool false]), 7, 72) := by kernel_rfl
theorem g_world_World : (Try.prog.underlying 104).map kdOf = some .ag := by kernel_rfl
abbrev t_world_change : TypeId := 111
theorem i_world_change : (Try.prog.info? 111).map (fun i => (i.zero, i.size, i.bytes)) = some (some (.agg #[.int .u8 0, .string ⟨#[]⟩, .string ⟨#[]⟩, .int .i64 0, .slice none 0 0]), 5, 72) := by kernel_rfl
theorem g_world_change : (Try.prog.underlying 111).map kdOf = some .ag := by kernel_rfl
abbrev t_slots_Slots : TypeId := 120
theorem i_slots_Slots : (Try.prog.info? 120).map (fun i => (i.zero, i.size, i.bytes)) = some (some (.agg #[.pointer none, .string ⟨#[]⟩, .bool false, .int .i64 0, .int .u64 0]), 5, 48) := by kernel_rfl
theorem g_slots_Slots : (Try.prog.underlying 120).map kdOf = some .ag := by kernel_rfl
end Go.Proofs.Ytiokflecflbopaa
