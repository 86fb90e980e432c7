import Derived.Test.YtoecfgldnlglnaaG3
import Derived.Test.YtoecfgldnlglnaaRows
set_option maxRecDepth 100000
namespace Go.Proofs.Ytoecfgldnlglnaa
open Go Go.Wk
theorem sz1 : Sz Try.prog 1 1 := fun w => by kernel_rfl
theorem na1 : NAg Try.prog 1 := fun w => by kernel_rfl
theorem zr1 : Zr Try.prog 1 (.nilFunc) := fun w => by kernel_rfl
theorem sz2 : Sz Try.prog 2 1 := fun w => by kernel_rfl
theorem na2 : NAg Try.prog 2 := fun w => by kernel_rfl
theorem zr2 : Zr Try.prog 2 (.int .i64 0) := fun w => by kernel_rfl
theorem sz3 : Sz Try.prog 3 1 := fun w => by kernel_rfl
theorem na3 : NAg Try.prog 3 := fun w => by kernel_rfl
theorem zr3 : Zr Try.prog 3 (.int .i64 0) := fun w => by kernel_rfl
theorem sz4 : Sz Try.prog 4 1 := fun w => by kernel_rfl
theorem na4 : NAg Try.prog 4 := fun w => by kernel_rfl
theorem zr4 : Zr Try.prog 4 (.bool false) := fun w => by kernel_rfl
theorem sz5 : Sz Try.prog 5 1 := fun w => by kernel_rfl
theorem na5 : NAg Try.prog 5 := fun w => by kernel_rfl
theorem zr5 : Zr Try.prog 5 (.int .u8 0) := fun w => by kernel_rfl
theorem sz6 : Sz Try.prog 6 1 := fun w => by kernel_rfl
theorem na6 : NAg Try.prog 6 := fun w => by kernel_rfl
theorem zr6 : Zr Try.prog 6 (.int .u8 0) := fun w => by kernel_rfl
theorem sz7 : Sz Try.prog 7 4 := fun w => by kernel_rfl
theorem ag7 : AgT Try.prog 7 4 := fun w => ⟨by kernel_rfl, by kernel_rfl⟩
theorem zr7 : Zr Try.prog 7 (.agg (List.toArray [.int .i64 0, .int .i64 0, .bool false, .int .u8 0])) := fun w => by kernel_rfl
theorem fo7_0 : Fo Try.prog 7 0 0 := fun b o w => by kernel_rfl
theorem fo7_1 : Fo Try.prog 7 1 1 := fun b o w => by kernel_rfl
theorem fo7_2 : Fo Try.prog 7 2 2 := fun b o w => by kernel_rfl
theorem fo7_3 : Fo Try.prog 7 3 3 := fun b o w => by kernel_rfl
theorem pl7 : Pl Try.prog 7 [.int .i64 0, .int .i64 0, .bool false, .int .u8 0] (fun i => (#[(0, 1), (1, 1), (2, 1), (3, 1)] : Array (Nat × Nat))[i]?) := Pl.struct Try.underlying7 zr7 (fun w => by kernel_rfl)
theorem sz8 : Sz Try.prog 8 4 := fun w => by kernel_rfl
theorem ag8 : AgT Try.prog 8 4 := fun w => ⟨by kernel_rfl, by kernel_rfl⟩
theorem zr8 : Zr Try.prog 8 (.agg (List.toArray [.int .i64 0, .int .i64 0, .bool false, .int .u8 0])) := fun w => by kernel_rfl
theorem fo8_0 : Fo Try.prog 8 0 0 := fun b o w => by kernel_rfl
theorem fo8_1 : Fo Try.prog 8 1 1 := fun b o w => by kernel_rfl
theorem fo8_2 : Fo Try.prog 8 2 2 := fun b o w => by kernel_rfl
theorem fo8_3 : Fo Try.prog 8 3 3 := fun b o w => by kernel_rfl
theorem pl8 : Pl Try.prog 8 [.int .i64 0, .int .i64 0, .bool false, .int .u8 0] (fun i => (#[(0, 1), (1, 1), (2, 1), (3, 1)] : Array (Nat × Nat))[i]?) := Pl.struct Try.underlying8 zr8 (fun w => by kernel_rfl)
theorem sz9 : Sz Try.prog 9 1 := fun w => by kernel_rfl
theorem na9 : NAg Try.prog 9 := fun w => by kernel_rfl
theorem zr9 : Zr Try.prog 9 (.string ⟨#[]⟩) := fun w => by kernel_rfl
theorem sz10 : Sz Try.prog 10 1 := fun w => by kernel_rfl
theorem na10 : NAg Try.prog 10 := fun w => by kernel_rfl
theorem zr10 : Zr Try.prog 10 (.string ⟨#[]⟩) := fun w => by kernel_rfl
theorem sz11 : Sz Try.prog 11 1 := fun w => by kernel_rfl
theorem na11 : NAg Try.prog 11 := fun w => by kernel_rfl
theorem zr11 : Zr Try.prog 11 (.string ⟨#[]⟩) := fun w => by kernel_rfl
theorem sz12 : Sz Try.prog 12 1 := fun w => by kernel_rfl
theorem na12 : NAg Try.prog 12 := fun w => by kernel_rfl
theorem zr12 : Zr Try.prog 12 (.int .u64 0) := fun w => by kernel_rfl
theorem sz13 : Sz Try.prog 13 2 := fun w => by kernel_rfl
theorem ag13 : AgT Try.prog 13 2 := fun w => ⟨by kernel_rfl, by kernel_rfl⟩
theorem zr13 : Zr Try.prog 13 (.agg (List.toArray [.string ⟨#[]⟩, .int .u64 0])) := fun w => by kernel_rfl
theorem fo13_0 : Fo Try.prog 13 0 0 := fun b o w => by kernel_rfl
theorem fo13_1 : Fo Try.prog 13 1 1 := fun b o w => by kernel_rfl
theorem pl13 : Pl Try.prog 13 [.string ⟨#[]⟩, .int .u64 0] (fun i => (#[(0, 1), (1, 1)] : Array (Nat × Nat))[i]?) := Pl.struct Try.underlying13 zr13 (fun w => by kernel_rfl)
theorem sz14 : Sz Try.prog 14 2 := fun w => by kernel_rfl
theorem ag14 : AgT Try.prog 14 2 := fun w => ⟨by kernel_rfl, by kernel_rfl⟩
theorem zr14 : Zr Try.prog 14 (.agg (List.toArray [.string ⟨#[]⟩, .int .u64 0])) := fun w => by kernel_rfl
theorem fo14_0 : Fo Try.prog 14 0 0 := fun b o w => by kernel_rfl
theorem fo14_1 : Fo Try.prog 14 1 1 := fun b o w => by kernel_rfl
theorem pl14 : Pl Try.prog 14 [.string ⟨#[]⟩, .int .u64 0] (fun i => (#[(0, 1), (1, 1)] : Array (Nat × Nat))[i]?) := Pl.struct Try.underlying14 zr14 (fun w => by kernel_rfl)
theorem sz15 : Sz Try.prog 15 1 := fun w => by kernel_rfl
theorem na15 : NAg Try.prog 15 := fun w => by kernel_rfl
theorem zr15 : Zr Try.prog 15 (.pointer none) := fun w => by kernel_rfl
theorem sz16 : Sz Try.prog 16 1 := fun w => by kernel_rfl
theorem na16 : NAg Try.prog 16 := fun w => by kernel_rfl
theorem zr16 : Zr Try.prog 16 (.pointer none) := fun w => by kernel_rfl
theorem sz17 : Sz Try.prog 17 1 := fun w => by kernel_rfl
theorem na17 : NAg Try.prog 17 := fun w => by kernel_rfl
theorem zr17 : Zr Try.prog 17 (.pointer none) := fun w => by kernel_rfl
theorem sz18 : Sz Try.prog 18 1 := fun w => by kernel_rfl
theorem ag18 : AgT Try.prog 18 1 := fun w => ⟨by kernel_rfl, by kernel_rfl⟩
theorem zr18 : Zr Try.prog 18 (.agg (List.toArray [.pointer none])) := fun w => by kernel_rfl
theorem fo18_0 : Fo Try.prog 18 0 0 := fun b o w => by kernel_rfl
theorem pl18 : Pl Try.prog 18 [.pointer none] (fun i => (#[(0, 1)] : Array (Nat × Nat))[i]?) := Pl.struct Try.underlying18 zr18 (fun w => by kernel_rfl)
theorem sz19 : Sz Try.prog 19 1 := fun w => by kernel_rfl
theorem ag19 : AgT Try.prog 19 1 := fun w => ⟨by kernel_rfl, by kernel_rfl⟩
theorem zr19 : Zr Try.prog 19 (.agg (List.toArray [.pointer none])) := fun w => by kernel_rfl
theorem fo19_0 : Fo Try.prog 19 0 0 := fun b o w => by kernel_rfl
theorem pl19 : Pl Try.prog 19 [.pointer none] (fun i => (#[(0, 1)] : Array (Nat × Nat))[i]?) := Pl.struct Try.underlying19 zr19 (fun w => by kernel_rfl)
theorem sz20 : Sz Try.prog 20 1 := fun w => by kernel_rfl
theorem na20 : NAg Try.prog 20 := fun w => by kernel_rfl
theorem zr20 : Zr Try.prog 20 (.nilIface) := fun w => by kernel_rfl
theorem sz21 : Sz Try.prog 21 1 := fun w => by kernel_rfl
theorem na21 : NAg Try.prog 21 := fun w => by kernel_rfl
theorem zr21 : Zr Try.prog 21 (.int .i32 0) := fun w => by kernel_rfl
theorem sz22 : Sz Try.prog 22 1 := fun w => by kernel_rfl
theorem na22 : NAg Try.prog 22 := fun w => by kernel_rfl
theorem zr22 : Zr Try.prog 22 (.slice none 0 0) := fun w => by kernel_rfl
theorem sz23 : Sz Try.prog 23 1 := fun w => by kernel_rfl
theorem na23 : NAg Try.prog 23 := fun w => by kernel_rfl
theorem zr23 : Zr Try.prog 23 (.slice none 0 0) := fun w => by kernel_rfl
theorem sz24 : Sz Try.prog 24 2 := fun w => by kernel_rfl
theorem ag24 : AgT Try.prog 24 2 := fun w => ⟨by kernel_rfl, by kernel_rfl⟩
theorem zr24 : Zr Try.prog 24 (.agg (List.toArray [.slice none 0 0, .slice none 0 0])) := fun w => by kernel_rfl
theorem fo24_0 : Fo Try.prog 24 0 0 := fun b o w => by kernel_rfl
theorem fo24_1 : Fo Try.prog 24 1 1 := fun b o w => by kernel_rfl
theorem pl24 : Pl Try.prog 24 [.slice none 0 0, .slice none 0 0] (fun i => (#[(0, 1), (1, 1)] : Array (Nat × Nat))[i]?) := Pl.struct Try.underlying24 zr24 (fun w => by kernel_rfl)
theorem sz25 : Sz Try.prog 25 2 := fun w => by kernel_rfl
theorem ag25 : AgT Try.prog 25 2 := fun w => ⟨by kernel_rfl, by kernel_rfl⟩
theorem zr25 : Zr Try.prog 25 (.agg (List.toArray [.slice none 0 0, .slice none 0 0])) := fun w => by kernel_rfl
theorem fo25_0 : Fo Try.prog 25 0 0 := fun b o w => by kernel_rfl
theorem fo25_1 : Fo Try.prog 25 1 1 := fun b o w => by kernel_rfl
theorem pl25 : Pl Try.prog 25 [.slice none 0 0, .slice none 0 0] (fun i => (#[(0, 1), (1, 1)] : Array (Nat × Nat))[i]?) := Pl.struct Try.underlying25 zr25 (fun w => by kernel_rfl)
theorem sz26 : Sz Try.prog 26 1 := fun w => by kernel_rfl
theorem na26 : NAg Try.prog 26 := fun w => by kernel_rfl
theorem zr26 : Zr Try.prog 26 (.nilFunc) := fun w => by kernel_rfl
theorem sz27 : Sz Try.prog 27 1 := fun w => by kernel_rfl
theorem na27 : NAg Try.prog 27 := fun w => by kernel_rfl
theorem zr27 : Zr Try.prog 27 (.nilFunc) := fun w => by kernel_rfl
theorem sz28 : Sz Try.prog 28 1 := fun w => by kernel_rfl
theorem na28 : NAg Try.prog 28 := fun w => by kernel_rfl
theorem zr28 : Zr Try.prog 28 (.nilFunc) := fun w => by kernel_rfl
theorem sz29 : Sz Try.prog 29 1 := fun w => by kernel_rfl
theorem na29 : NAg Try.prog 29 := fun w => by kernel_rfl
theorem zr29 : Zr Try.prog 29 (.pointer none) := fun w => by kernel_rfl
theorem sz30 : Sz Try.prog 30 1 := fun w => by kernel_rfl
theorem na30 : NAg Try.prog 30 := fun w => by kernel_rfl
theorem zr30 : Zr Try.prog 30 (.nilFunc) := fun w => by kernel_rfl
theorem sz31 : Sz Try.prog 31 1 := fun w => by kernel_rfl
theorem na31 : NAg Try.prog 31 := fun w => by kernel_rfl
theorem zr31 : Zr Try.prog 31 (.nilFunc) := fun w => by kernel_rfl
theorem sz32 : Sz Try.prog 32 1 := fun w => by kernel_rfl
theorem na32 : NAg Try.prog 32 := fun w => by kernel_rfl
theorem zr32 : Zr Try.prog 32 (.nilFunc) := fun w => by kernel_rfl
theorem sz33 : Sz Try.prog 33 1 := fun w => by kernel_rfl
theorem na33 : NAg Try.prog 33 := fun w => by kernel_rfl
theorem zr33 : Zr Try.prog 33 (.slice none 0 0) := fun w => by kernel_rfl
theorem sz34 : Sz Try.prog 34 1 := fun w => by kernel_rfl
theorem na34 : NAg Try.prog 34 := fun w => by kernel_rfl
theorem zr34 : Zr Try.prog 34 (.nilFunc) := fun w => by kernel_rfl
theorem sz35 : Sz Try.prog 35 1 := fun w => by kernel_rfl
theorem na35 : NAg Try.prog 35 := fun w => by kernel_rfl
theorem zr35 : Zr Try.prog 35 (.nilFunc) := fun w => by kernel_rfl
theorem sz36 : Sz Try.prog 36 1 := fun w => by kernel_rfl
theorem na36 : NAg Try.prog 36 := fun w => by kernel_rfl
theorem zr36 : Zr Try.prog 36 (.int .i64 0) := fun w => by kernel_rfl
theorem sz38 : Sz Try.prog 38 1 := fun w => by kernel_rfl
theorem na38 : NAg Try.prog 38 := fun w => by kernel_rfl
theorem zr38 : Zr Try.prog 38 (.nilFunc) := fun w => by kernel_rfl
theorem sz40 : Sz Try.prog 40 1 := fun w => by kernel_rfl
theorem na40 : NAg Try.prog 40 := fun w => by kernel_rfl
theorem zr40 : Zr Try.prog 40 (.nilFunc) := fun w => by kernel_rfl
theorem sz41 : Sz Try.prog 41 1 := fun w => by kernel_rfl
theorem na41 : NAg Try.prog 41 := fun w => by kernel_rfl
theorem zr41 : Zr Try.prog 41 (.nilFunc) := fun w => by kernel_rfl
theorem sz42 : Sz Try.prog 42 1 := fun w => by kernel_rfl
theorem na42 : NAg Try.prog 42 := fun w => by kernel_rfl
theorem zr42 : Zr Try.prog 42 (.nilFunc) := fun w => by kernel_rfl
theorem sz43 : Sz Try.prog 43 6 := fun w => by kernel_rfl
theorem ag43 : AgT Try.prog 43 6 := fun w => ⟨by kernel_rfl, by kernel_rfl⟩
theorem zr43 : Zr Try.prog 43 (.agg (List.toArray [.int .u8 0, .string ⟨#[]⟩, .string ⟨#[]⟩, .int .i64 0, .slice none 0 0, .slice none 0 0])) := fun w => by kernel_rfl
theorem fo43_0 : Fo Try.prog 43 0 0 := fun b o w => by kernel_rfl
theorem fo43_1 : Fo Try.prog 43 1 1 := fun b o w => by kernel_rfl
theorem fo43_2 : Fo Try.prog 43 2 2 := fun b o w => by kernel_rfl
theorem fo43_3 : Fo Try.prog 43 3 3 := fun b o w => by kernel_rfl
theorem fo43_4 : Fo Try.prog 43 4 4 := fun b o w => by kernel_rfl
theorem pl43 : Pl Try.prog 43 [.int .u8 0, .string ⟨#[]⟩, .string ⟨#[]⟩, .int .i64 0, .slice none 0 0, .slice none 0 0] (fun i => (#[(0, 1), (1, 1), (2, 1), (3, 1), (4, 2)] : Array (Nat × Nat))[i]?) := Pl.struct Try.underlying43 zr43 (fun w => by kernel_rfl)
theorem sz44 : Sz Try.prog 44 6 := fun w => by kernel_rfl
theorem ag44 : AgT Try.prog 44 6 := fun w => ⟨by kernel_rfl, by kernel_rfl⟩
theorem zr44 : Zr Try.prog 44 (.agg (List.toArray [.int .u8 0, .string ⟨#[]⟩, .string ⟨#[]⟩, .int .i64 0, .slice none 0 0, .slice none 0 0])) := fun w => by kernel_rfl
theorem fo44_0 : Fo Try.prog 44 0 0 := fun b o w => by kernel_rfl
theorem fo44_1 : Fo Try.prog 44 1 1 := fun b o w => by kernel_rfl
theorem fo44_2 : Fo Try.prog 44 2 2 := fun b o w => by kernel_rfl
theorem fo44_3 : Fo Try.prog 44 3 3 := fun b o w => by kernel_rfl
theorem fo44_4 : Fo Try.prog 44 4 4 := fun b o w => by kernel_rfl
theorem pl44 : Pl Try.prog 44 [.int .u8 0, .string ⟨#[]⟩, .string ⟨#[]⟩, .int .i64 0, .slice none 0 0, .slice none 0 0] (fun i => (#[(0, 1), (1, 1), (2, 1), (3, 1), (4, 2)] : Array (Nat × Nat))[i]?) := Pl.struct Try.underlying44 zr44 (fun w => by kernel_rfl)
theorem sz45 : Sz Try.prog 45 1 := fun w => by kernel_rfl
theorem na45 : NAg Try.prog 45 := fun w => by kernel_rfl
theorem zr45 : Zr Try.prog 45 (.nilFunc) := fun w => by kernel_rfl
theorem sz46 : Sz Try.prog 46 1 := fun w => by kernel_rfl
theorem na46 : NAg Try.prog 46 := fun w => by kernel_rfl
theorem zr46 : Zr Try.prog 46 (.nilFunc) := fun w => by kernel_rfl
theorem sz47 : Sz Try.prog 47 1 := fun w => by kernel_rfl
theorem na47 : NAg Try.prog 47 := fun w => by kernel_rfl
theorem zr47 : Zr Try.prog 47 (.nilFunc) := fun w => by kernel_rfl
theorem sz48 : Sz Try.prog 48 1 := fun w => by kernel_rfl
theorem na48 : NAg Try.prog 48 := fun w => by kernel_rfl
theorem zr48 : Zr Try.prog 48 (.nilFunc) := fun w => by kernel_rfl
theorem sz49 : Sz Try.prog 49 1 := fun w => by kernel_rfl
theorem na49 : NAg Try.prog 49 := fun w => by kernel_rfl
theorem zr49 : Zr Try.prog 49 (.nilFunc) := fun w => by kernel_rfl
theorem sz50 : Sz Try.prog 50 1 := fun w => by kernel_rfl
theorem na50 : NAg Try.prog 50 := fun w => by kernel_rfl
theorem zr50 : Zr Try.prog 50 (.pointer none) := fun w => by kernel_rfl
theorem sz51 : Sz Try.prog 51 1 := fun w => by kernel_rfl
theorem na51 : NAg Try.prog 51 := fun w => by kernel_rfl
theorem zr51 : Zr Try.prog 51 (.slice none 0 0) := fun w => by kernel_rfl
theorem sz52 : Sz Try.prog 52 3 := fun w => by kernel_rfl
theorem ag52 : AgT Try.prog 52 3 := fun w => ⟨by kernel_rfl, by kernel_rfl⟩
theorem zr52 : Zr Try.prog 52 (.agg (List.toArray [.slice none 0 0, .bool false, .int .i64 0])) := fun w => by kernel_rfl
theorem fo52_0 : Fo Try.prog 52 0 0 := fun b o w => by kernel_rfl
theorem fo52_1 : Fo Try.prog 52 1 1 := fun b o w => by kernel_rfl
theorem fo52_2 : Fo Try.prog 52 2 2 := fun b o w => by kernel_rfl
theorem pl52 : Pl Try.prog 52 [.slice none 0 0, .bool false, .int .i64 0] (fun i => (#[(0, 1), (1, 1), (2, 1)] : Array (Nat × Nat))[i]?) := Pl.struct Try.underlying52 zr52 (fun w => by kernel_rfl)
theorem sz53 : Sz Try.prog 53 3 := fun w => by kernel_rfl
theorem ag53 : AgT Try.prog 53 3 := fun w => ⟨by kernel_rfl, by kernel_rfl⟩
theorem zr53 : Zr Try.prog 53 (.agg (List.toArray [.slice none 0 0, .bool false, .int .i64 0])) := fun w => by kernel_rfl
theorem fo53_0 : Fo Try.prog 53 0 0 := fun b o w => by kernel_rfl
theorem fo53_1 : Fo Try.prog 53 1 1 := fun b o w => by kernel_rfl
theorem fo53_2 : Fo Try.prog 53 2 2 := fun b o w => by kernel_rfl
theorem pl53 : Pl Try.prog 53 [.slice none 0 0, .bool false, .int .i64 0] (fun i => (#[(0, 1), (1, 1), (2, 1)] : Array (Nat × Nat))[i]?) := Pl.struct Try.underlying53 zr53 (fun w => by kernel_rfl)
theorem sz54 : Sz Try.prog 54 1 := fun w => by kernel_rfl
theorem na54 : NAg Try.prog 54 := fun w => by kernel_rfl
theorem zr54 : Zr Try.prog 54 (.nilFunc) := fun w => by kernel_rfl
theorem sz55 : Sz Try.prog 55 1 := fun w => by kernel_rfl
theorem na55 : NAg Try.prog 55 := fun w => by kernel_rfl
theorem zr55 : Zr Try.prog 55 (.nilFunc) := fun w => by kernel_rfl
theorem sz56 : Sz Try.prog 56 1 := fun w => by kernel_rfl
theorem na56 : NAg Try.prog 56 := fun w => by kernel_rfl
theorem zr56 : Zr Try.prog 56 (.nilFunc) := fun w => by kernel_rfl
theorem sz57 : Sz Try.prog 57 1 := fun w => by kernel_rfl
theorem na57 : NAg Try.prog 57 := fun w => by kernel_rfl
theorem zr57 : Zr Try.prog 57 (.nilFunc) := fun w => by kernel_rfl
theorem sz58 : Sz Try.prog 58 1 := fun w => by kernel_rfl
theorem na58 : NAg Try.prog 58 := fun w => by kernel_rfl
theorem zr58 : Zr Try.prog 58 (.slice none 0 0) := fun w => by kernel_rfl
theorem sz59 : Sz Try.prog 59 1 := fun w => by kernel_rfl
theorem na59 : NAg Try.prog 59 := fun w => by kernel_rfl
theorem zr59 : Zr Try.prog 59 (.int .u16 0) := fun w => by kernel_rfl
theorem sz60 : Sz Try.prog 60 1 := fun w => by kernel_rfl
theorem na60 : NAg Try.prog 60 := fun w => by kernel_rfl
theorem zr60 : Zr Try.prog 60 (.pointer none) := fun w => by kernel_rfl
theorem sz61 : Sz Try.prog 61 1 := fun w => by kernel_rfl
theorem na61 : NAg Try.prog 61 := fun w => by kernel_rfl
theorem zr61 : Zr Try.prog 61 (.nilFunc) := fun w => by kernel_rfl
theorem sz63 : Sz Try.prog 63 1 := fun w => by kernel_rfl
theorem na63 : NAg Try.prog 63 := fun w => by kernel_rfl
theorem zr63 : Zr Try.prog 63 (.nilFunc) := fun w => by kernel_rfl
theorem sz64 : Sz Try.prog 64 8 := fun w => by kernel_rfl
theorem ag64 : AgT Try.prog 64 8 := fun w => ⟨by kernel_rfl, by kernel_rfl⟩
theorem zr64 : Zr Try.prog 64 (.agg (List.toArray [.int .u8 0, .int .u8 0, .int .u8 0, .int .u8 0, .int .u8 0, .int .u8 0, .int .u8 0, .int .u8 0])) := fun w => by kernel_rfl
theorem pl64 : Pl Try.prog 64 [.int .u8 0, .int .u8 0, .int .u8 0, .int .u8 0, .int .u8 0, .int .u8 0, .int .u8 0, .int .u8 0] (fun i => some (i * 1, 1)) := Pl.array Try.underlying64 zr64 sz5
theorem sz65 : Sz Try.prog 65 8 := fun w => by kernel_rfl
theorem ag65 : AgT Try.prog 65 8 := fun w => ⟨by kernel_rfl, by kernel_rfl⟩
theorem zr65 : Zr Try.prog 65 (.agg (List.toArray [.int .u8 0, .int .u8 0, .int .u8 0, .int .u8 0, .int .u8 0, .int .u8 0, .int .u8 0, .int .u8 0])) := fun w => by kernel_rfl
theorem pl65 : Pl Try.prog 65 [.int .u8 0, .int .u8 0, .int .u8 0, .int .u8 0, .int .u8 0, .int .u8 0, .int .u8 0, .int .u8 0] (fun i => some (i * 1, 1)) := Pl.array Try.underlying65 zr65 sz5
theorem sz66 : Sz Try.prog 66 4 := fun w => by kernel_rfl
theorem ag66 : AgT Try.prog 66 4 := fun w => ⟨by kernel_rfl, by kernel_rfl⟩
theorem zr66 : Zr Try.prog 66 (.agg (List.toArray [.int .i64 0, .int .i64 0, .int .i64 0, .int .i64 0])) := fun w => by kernel_rfl
theorem fo66_0 : Fo Try.prog 66 0 0 := fun b o w => by kernel_rfl
theorem fo66_1 : Fo Try.prog 66 1 1 := fun b o w => by kernel_rfl
theorem fo66_2 : Fo Try.prog 66 2 2 := fun b o w => by kernel_rfl
theorem fo66_3 : Fo Try.prog 66 3 3 := fun b o w => by kernel_rfl
theorem pl66 : Pl Try.prog 66 [.int .i64 0, .int .i64 0, .int .i64 0, .int .i64 0] (fun i => (#[(0, 1), (1, 1), (2, 1), (3, 1)] : Array (Nat × Nat))[i]?) := Pl.struct Try.underlying66 zr66 (fun w => by kernel_rfl)
theorem sz67 : Sz Try.prog 67 4 := fun w => by kernel_rfl
theorem ag67 : AgT Try.prog 67 4 := fun w => ⟨by kernel_rfl, by kernel_rfl⟩
theorem zr67 : Zr Try.prog 67 (.agg (List.toArray [.int .i64 0, .int .i64 0, .int .i64 0, .int .i64 0])) := fun w => by kernel_rfl
theorem fo67_0 : Fo Try.prog 67 0 0 := fun b o w => by kernel_rfl
theorem fo67_1 : Fo Try.prog 67 1 1 := fun b o w => by kernel_rfl
theorem fo67_2 : Fo Try.prog 67 2 2 := fun b o w => by kernel_rfl
theorem fo67_3 : Fo Try.prog 67 3 3 := fun b o w => by kernel_rfl
theorem pl67 : Pl Try.prog 67 [.int .i64 0, .int .i64 0, .int .i64 0, .int .i64 0] (fun i => (#[(0, 1), (1, 1), (2, 1), (3, 1)] : Array (Nat × Nat))[i]?) := Pl.struct Try.underlying67 zr67 (fun w => by kernel_rfl)
theorem sz68 : Sz Try.prog 68 15 := fun w => by kernel_rfl
theorem ag68 : AgT Try.prog 68 15 := fun w => ⟨by kernel_rfl, by kernel_rfl⟩
theorem zr68 : Zr Try.prog 68 (.agg (List.toArray [.int .u8 0, .int .u8 0, .int .u8 0, .int .u8 0, .int .u8 0, .int .u8 0, .int .u8 0, .int .u8 0, .int .u8 0, .int .u8 0, .int .u8 0, .int .i64 0, .int .i64 0, .int .i64 0, .int .i64 0])) := fun w => by kernel_rfl
theorem fo68_0 : Fo Try.prog 68 0 0 := fun b o w => by kernel_rfl
theorem fo68_1 : Fo Try.prog 68 1 1 := fun b o w => by kernel_rfl
theorem fo68_2 : Fo Try.prog 68 2 2 := fun b o w => by kernel_rfl
theorem fo68_3 : Fo Try.prog 68 3 3 := fun b o w => by kernel_rfl
theorem fo68_4 : Fo Try.prog 68 4 11 := fun b o w => by kernel_rfl
theorem pl68 : Pl Try.prog 68 [.int .u8 0, .int .u8 0, .int .u8 0, .int .u8 0, .int .u8 0, .int .u8 0, .int .u8 0, .int .u8 0, .int .u8 0, .int .u8 0, .int .u8 0, .int .i64 0, .int .i64 0, .int .i64 0, .int .i64 0] (fun i => (#[(0, 1), (1, 1), (2, 1), (3, 8), (11, 4)] : Array (Nat × Nat))[i]?) := Pl.struct Try.underlying68 zr68 (fun w => by kernel_rfl)
theorem sz69 : Sz Try.prog 69 15 := fun w => by kernel_rfl
theorem ag69 : AgT Try.prog 69 15 := fun w => ⟨by kernel_rfl, by kernel_rfl⟩
theorem zr69 : Zr Try.prog 69 (.agg (List.toArray [.int .u8 0, .int .u8 0, .int .u8 0, .int .u8 0, .int .u8 0, .int .u8 0, .int .u8 0, .int .u8 0, .int .u8 0, .int .u8 0, .int .u8 0, .int .i64 0, .int .i64 0, .int .i64 0, .int .i64 0])) := fun w => by kernel_rfl
theorem fo69_0 : Fo Try.prog 69 0 0 := fun b o w => by kernel_rfl
theorem fo69_1 : Fo Try.prog 69 1 1 := fun b o w => by kernel_rfl
theorem fo69_2 : Fo Try.prog 69 2 2 := fun b o w => by kernel_rfl
theorem fo69_3 : Fo Try.prog 69 3 3 := fun b o w => by kernel_rfl
theorem fo69_4 : Fo Try.prog 69 4 11 := fun b o w => by kernel_rfl
theorem pl69 : Pl Try.prog 69 [.int .u8 0, .int .u8 0, .int .u8 0, .int .u8 0, .int .u8 0, .int .u8 0, .int .u8 0, .int .u8 0, .int .u8 0, .int .u8 0, .int .u8 0, .int .i64 0, .int .i64 0, .int .i64 0, .int .i64 0] (fun i => (#[(0, 1), (1, 1), (2, 1), (3, 8), (11, 4)] : Array (Nat × Nat))[i]?) := Pl.struct Try.underlying69 zr69 (fun w => by kernel_rfl)
theorem sz70 : Sz Try.prog 70 1 := fun w => by kernel_rfl
theorem na70 : NAg Try.prog 70 := fun w => by kernel_rfl
theorem zr70 : Zr Try.prog 70 (.nilFunc) := fun w => by kernel_rfl
theorem sz72 : Sz Try.prog 72 1 := fun w => by kernel_rfl
theorem na72 : NAg Try.prog 72 := fun w => by kernel_rfl
theorem zr72 : Zr Try.prog 72 (.nilFunc) := fun w => by kernel_rfl
theorem sz73 : Sz Try.prog 73 1 := fun w => by kernel_rfl
theorem na73 : NAg Try.prog 73 := fun w => by kernel_rfl
theorem zr73 : Zr Try.prog 73 (.nilFunc) := fun w => by kernel_rfl
theorem sz75 : Sz Try.prog 75 1 := fun w => by kernel_rfl
theorem na75 : NAg Try.prog 75 := fun w => by kernel_rfl
theorem zr75 : Zr Try.prog 75 (.nilFunc) := fun w => by kernel_rfl
theorem sz76 : Sz Try.prog 76 4 := fun w => by kernel_rfl
theorem ag76 : AgT Try.prog 76 4 := fun w => ⟨by kernel_rfl, by kernel_rfl⟩
theorem zr76 : Zr Try.prog 76 (.agg (List.toArray [.int .i64 0, .int .i64 0, .int .i64 0, .int .i64 0])) := fun w => by kernel_rfl
theorem pl76 : Pl Try.prog 76 [.int .i64 0, .int .i64 0, .int .i64 0, .int .i64 0] (fun i => some (i * 1, 1)) := Pl.array Try.underlying76 zr76 sz3
theorem sz77 : Sz Try.prog 77 1 := fun w => by kernel_rfl
theorem na77 : NAg Try.prog 77 := fun w => by kernel_rfl
theorem zr77 : Zr Try.prog 77 (.slice none 0 0) := fun w => by kernel_rfl
theorem sz79 : Sz Try.prog 79 1 := fun w => by kernel_rfl
theorem na79 : NAg Try.prog 79 := fun w => by kernel_rfl
theorem zr79 : Zr Try.prog 79 (.nilFunc) := fun w => by kernel_rfl
theorem sz80 : Sz Try.prog 80 1 := fun w => by kernel_rfl
theorem na80 : NAg Try.prog 80 := fun w => by kernel_rfl
theorem zr80 : Zr Try.prog 80 (.nilFunc) := fun w => by kernel_rfl
theorem sz81 : Sz Try.prog 81 1 := fun w => by kernel_rfl
theorem na81 : NAg Try.prog 81 := fun w => by kernel_rfl
theorem zr81 : Zr Try.prog 81 (.nilFunc) := fun w => by kernel_rfl
theorem sz82 : Sz Try.prog 82 1 := fun w => by kernel_rfl
theorem na82 : NAg Try.prog 82 := fun w => by kernel_rfl
theorem zr82 : Zr Try.prog 82 (.slice none 0 0) := fun w => by kernel_rfl
theorem sz83 : Sz Try.prog 83 1 := fun w => by kernel_rfl
theorem na83 : NAg Try.prog 83 := fun w => by kernel_rfl
theorem zr83 : Zr Try.prog 83 (.slice none 0 0) := fun w => by kernel_rfl
theorem sz84 : Sz Try.prog 84 2 := fun w => by kernel_rfl
theorem ag84 : AgT Try.prog 84 2 := fun w => ⟨by kernel_rfl, by kernel_rfl⟩
theorem zr84 : Zr Try.prog 84 (.agg (List.toArray [.slice none 0 0, .slice none 0 0])) := fun w => by kernel_rfl
theorem fo84_0 : Fo Try.prog 84 0 0 := fun b o w => by kernel_rfl
theorem fo84_1 : Fo Try.prog 84 1 1 := fun b o w => by kernel_rfl
theorem pl84 : Pl Try.prog 84 [.slice none 0 0, .slice none 0 0] (fun i => (#[(0, 1), (1, 1)] : Array (Nat × Nat))[i]?) := Pl.struct Try.underlying84 zr84 (fun w => by kernel_rfl)
theorem sz85 : Sz Try.prog 85 2 := fun w => by kernel_rfl
theorem ag85 : AgT Try.prog 85 2 := fun w => ⟨by kernel_rfl, by kernel_rfl⟩
theorem zr85 : Zr Try.prog 85 (.agg (List.toArray [.slice none 0 0, .slice none 0 0])) := fun w => by kernel_rfl
theorem fo85_0 : Fo Try.prog 85 0 0 := fun b o w => by kernel_rfl
theorem fo85_1 : Fo Try.prog 85 1 1 := fun b o w => by kernel_rfl
theorem pl85 : Pl Try.prog 85 [.slice none 0 0, .slice none 0 0] (fun i => (#[(0, 1), (1, 1)] : Array (Nat × Nat))[i]?) := Pl.struct Try.underlying85 zr85 (fun w => by kernel_rfl)
theorem sz87 : Sz Try.prog 87 1 := fun w => by kernel_rfl
theorem na87 : NAg Try.prog 87 := fun w => by kernel_rfl
theorem zr87 : Zr Try.prog 87 (.nilFunc) := fun w => by kernel_rfl
theorem sz88 : Sz Try.prog 88 1 := fun w => by kernel_rfl
theorem na88 : NAg Try.prog 88 := fun w => by kernel_rfl
theorem zr88 : Zr Try.prog 88 (.nilFunc) := fun w => by kernel_rfl
theorem sz89 : Sz Try.prog 89 4 := fun w => by kernel_rfl
theorem ag89 : AgT Try.prog 89 4 := fun w => ⟨by kernel_rfl, by kernel_rfl⟩
theorem zr89 : Zr Try.prog 89 (.agg (List.toArray [.int .i64 0, .int .i64 0, .int .i64 0, .int .i64 0])) := fun w => by kernel_rfl
theorem fo89_0 : Fo Try.prog 89 0 0 := fun b o w => by kernel_rfl
theorem fo89_1 : Fo Try.prog 89 1 1 := fun b o w => by kernel_rfl
theorem fo89_2 : Fo Try.prog 89 2 2 := fun b o w => by kernel_rfl
theorem fo89_3 : Fo Try.prog 89 3 3 := fun b o w => by kernel_rfl
theorem pl89 : Pl Try.prog 89 [.int .i64 0, .int .i64 0, .int .i64 0, .int .i64 0] (fun i => (#[(0, 1), (1, 1), (2, 1), (3, 1)] : Array (Nat × Nat))[i]?) := Pl.struct Try.underlying89 zr89 (fun w => by kernel_rfl)
theorem sz91 : Sz Try.prog 91 1 := fun w => by kernel_rfl
theorem na91 : NAg Try.prog 91 := fun w => by kernel_rfl
theorem zr91 : Zr Try.prog 91 (.nilFunc) := fun w => by kernel_rfl
theorem sz92 : Sz Try.prog 92 1 := fun w => by kernel_rfl
theorem na92 : NAg Try.prog 92 := fun w => by kernel_rfl
theorem zr92 : Zr Try.prog 92 (.nilFunc) := fun w => by kernel_rfl
theorem sz93 : Sz Try.prog 93 1 := fun w => by kernel_rfl
theorem na93 : NAg Try.prog 93 := fun w => by kernel_rfl
theorem zr93 : Zr Try.prog 93 (.nilFunc) := fun w => by kernel_rfl
theorem sz94 : Sz Try.prog 94 1 := fun w => by kernel_rfl
theorem na94 : NAg Try.prog 94 := fun w => by kernel_rfl
theorem zr94 : Zr Try.prog 94 (.nilFunc) := fun w => by kernel_rfl
theorem sz96 : Sz Try.prog 96 1 := fun w => by kernel_rfl
theorem na96 : NAg Try.prog 96 := fun w => by kernel_rfl
theorem zr96 : Zr Try.prog 96 (.nilFunc) := fun w => by kernel_rfl
theorem sz97 : Sz Try.prog 97 1 := fun w => by kernel_rfl
theorem na97 : NAg Try.prog 97 := fun w => by kernel_rfl
theorem zr97 : Zr Try.prog 97 (.nilFunc) := fun w => by kernel_rfl
theorem sz98 : Sz Try.prog 98 1 := fun w => by kernel_rfl
theorem na98 : NAg Try.prog 98 := fun w => by kernel_rfl
theorem zr98 : Zr Try.prog 98 (.map none) := fun w => by kernel_rfl
theorem sz99 : Sz Try.prog 99 3 := fun w => by kernel_rfl
theorem ag99 : AgT Try.prog 99 3 := fun w => ⟨by kernel_rfl, by kernel_rfl⟩
theorem zr99 : Zr Try.prog 99 (.agg (List.toArray [.map none, .bool false, .int .i64 0])) := fun w => by kernel_rfl
theorem fo99_0 : Fo Try.prog 99 0 0 := fun b o w => by kernel_rfl
theorem fo99_1 : Fo Try.prog 99 1 1 := fun b o w => by kernel_rfl
theorem fo99_2 : Fo Try.prog 99 2 2 := fun b o w => by kernel_rfl
theorem pl99 : Pl Try.prog 99 [.map none, .bool false, .int .i64 0] (fun i => (#[(0, 1), (1, 1), (2, 1)] : Array (Nat × Nat))[i]?) := Pl.struct Try.underlying99 zr99 (fun w => by kernel_rfl)
theorem sz100 : Sz Try.prog 100 3 := fun w => by kernel_rfl
theorem ag100 : AgT Try.prog 100 3 := fun w => ⟨by kernel_rfl, by kernel_rfl⟩
theorem zr100 : Zr Try.prog 100 (.agg (List.toArray [.map none, .bool false, .int .i64 0])) := fun w => by kernel_rfl
theorem fo100_0 : Fo Try.prog 100 0 0 := fun b o w => by kernel_rfl
theorem fo100_1 : Fo Try.prog 100 1 1 := fun b o w => by kernel_rfl
theorem fo100_2 : Fo Try.prog 100 2 2 := fun b o w => by kernel_rfl
theorem pl100 : Pl Try.prog 100 [.map none, .bool false, .int .i64 0] (fun i => (#[(0, 1), (1, 1), (2, 1)] : Array (Nat × Nat))[i]?) := Pl.struct Try.underlying100 zr100 (fun w => by kernel_rfl)
theorem sz101 : Sz Try.prog 101 4 := fun w => by kernel_rfl
theorem ag101 : AgT Try.prog 101 4 := fun w => ⟨by kernel_rfl, by kernel_rfl⟩
theorem zr101 : Zr Try.prog 101 (.agg (List.toArray [.slice none 0 0, .int .i64 0, .bool false, .string ⟨#[]⟩])) := fun w => by kernel_rfl
theorem fo101_0 : Fo Try.prog 101 0 0 := fun b o w => by kernel_rfl
theorem fo101_1 : Fo Try.prog 101 1 1 := fun b o w => by kernel_rfl
theorem fo101_2 : Fo Try.prog 101 2 2 := fun b o w => by kernel_rfl
theorem fo101_3 : Fo Try.prog 101 3 3 := fun b o w => by kernel_rfl
theorem pl101 : Pl Try.prog 101 [.slice none 0 0, .int .i64 0, .bool false, .string ⟨#[]⟩] (fun i => (#[(0, 1), (1, 1), (2, 1), (3, 1)] : Array (Nat × Nat))[i]?) := Pl.struct Try.underlying101 zr101 (fun w => by kernel_rfl)
theorem sz102 : Sz Try.prog 102 4 := fun w => by kernel_rfl
theorem ag102 : AgT Try.prog 102 4 := fun w => ⟨by kernel_rfl, by kernel_rfl⟩
theorem zr102 : Zr Try.prog 102 (.agg (List.toArray [.slice none 0 0, .int .i64 0, .bool false, .string ⟨#[]⟩])) := fun w => by kernel_rfl
theorem fo102_0 : Fo Try.prog 102 0 0 := fun b o w => by kernel_rfl
theorem fo102_1 : Fo Try.prog 102 1 1 := fun b o w => by kernel_rfl
theorem fo102_2 : Fo Try.prog 102 2 2 := fun b o w => by kernel_rfl
theorem fo102_3 : Fo Try.prog 102 3 3 := fun b o w => by kernel_rfl
theorem pl102 : Pl Try.prog 102 [.slice none 0 0, .int .i64 0, .bool false, .string ⟨#[]⟩] (fun i => (#[(0, 1), (1, 1), (2, 1), (3, 1)] : Array (Nat × Nat))[i]?) := Pl.struct Try.underlying102 zr102 (fun w => by kernel_rfl)
theorem sz103 : Sz Try.prog 103 1 := fun w => by kernel_rfl
theorem na103 : NAg Try.prog 103 := fun w => by kernel_rfl
theorem zr103 : Zr Try.prog 103 (.nilFunc) := fun w => by kernel_rfl
theorem sz104 : Sz Try.prog 104 1 := fun w => by kernel_rfl
theorem na104 : NAg Try.prog 104 := fun w => by kernel_rfl
theorem zr104 : Zr Try.prog 104 (.nilFunc) := fun w => by kernel_rfl
theorem sz105 : Sz Try.prog 105 1 := fun w => by kernel_rfl
theorem na105 : NAg Try.prog 105 := fun w => by kernel_rfl
theorem zr105 : Zr Try.prog 105 (.nilFunc) := fun w => by kernel_rfl
theorem sz106 : Sz Try.prog 106 1 := fun w => by kernel_rfl
theorem na106 : NAg Try.prog 106 := fun w => by kernel_rfl
theorem zr106 : Zr Try.prog 106 (.nilFunc) := fun w => by kernel_rfl
theorem sz107 : Sz Try.prog 107 1 := fun w => by kernel_rfl
theorem na107 : NAg Try.prog 107 := fun w => by kernel_rfl
theorem zr107 : Zr Try.prog 107 (.nilFunc) := fun w => by kernel_rfl
theorem sz108 : Sz Try.prog 108 1 := fun w => by kernel_rfl
theorem na108 : NAg Try.prog 108 := fun w => by kernel_rfl
theorem zr108 : Zr Try.prog 108 (.nilFunc) := fun w => by kernel_rfl
theorem sz109 : Sz Try.prog 109 1 := fun w => by kernel_rfl
theorem na109 : NAg Try.prog 109 := fun w => by kernel_rfl
theorem zr109 : Zr Try.prog 109 (.nilFunc) := fun w => by kernel_rfl
theorem sz111 : Sz Try.prog 111 1 := fun w => by kernel_rfl
theorem na111 : NAg Try.prog 111 := fun w => by kernel_rfl
theorem zr111 : Zr Try.prog 111 (.nilFunc) := fun w => by kernel_rfl
theorem sz112 : Sz Try.prog 112 1 := fun w => by kernel_rfl
theorem na112 : NAg Try.prog 112 := fun w => by kernel_rfl
theorem zr112 : Zr Try.prog 112 (.nilFunc) := fun w => by kernel_rfl
theorem sz113 : Sz Try.prog 113 1 := fun w => by kernel_rfl
theorem na113 : NAg Try.prog 113 := fun w => by kernel_rfl
theorem zr113 : Zr Try.prog 113 (.nilFunc) := fun w => by kernel_rfl
theorem sz114 : Sz Try.prog 114 5 := fun w => by kernel_rfl
theorem ag114 : AgT Try.prog 114 5 := fun w => ⟨by kernel_rfl, by kernel_rfl⟩
theorem zr114 : Zr Try.prog 114 (.agg (List.toArray [.string ⟨#[]⟩, .slice none 0 0, .int .i64 0, .bool false, .string ⟨#[]⟩])) := fun w => by kernel_rfl
theorem fo114_0 : Fo Try.prog 114 0 0 := fun b o w => by kernel_rfl
theorem fo114_1 : Fo Try.prog 114 1 1 := fun b o w => by kernel_rfl
theorem fo114_2 : Fo Try.prog 114 2 2 := fun b o w => by kernel_rfl
theorem fo114_3 : Fo Try.prog 114 3 3 := fun b o w => by kernel_rfl
theorem fo114_4 : Fo Try.prog 114 4 4 := fun b o w => by kernel_rfl
theorem pl114 : Pl Try.prog 114 [.string ⟨#[]⟩, .slice none 0 0, .int .i64 0, .bool false, .string ⟨#[]⟩] (fun i => (#[(0, 1), (1, 1), (2, 1), (3, 1), (4, 1)] : Array (Nat × Nat))[i]?) := Pl.struct Try.underlying114 zr114 (fun w => by kernel_rfl)
theorem sz115 : Sz Try.prog 115 5 := fun w => by kernel_rfl
theorem ag115 : AgT Try.prog 115 5 := fun w => ⟨by kernel_rfl, by kernel_rfl⟩
theorem zr115 : Zr Try.prog 115 (.agg (List.toArray [.string ⟨#[]⟩, .slice none 0 0, .int .i64 0, .bool false, .string ⟨#[]⟩])) := fun w => by kernel_rfl
theorem fo115_0 : Fo Try.prog 115 0 0 := fun b o w => by kernel_rfl
theorem fo115_1 : Fo Try.prog 115 1 1 := fun b o w => by kernel_rfl
theorem fo115_2 : Fo Try.prog 115 2 2 := fun b o w => by kernel_rfl
theorem fo115_3 : Fo Try.prog 115 3 3 := fun b o w => by kernel_rfl
theorem fo115_4 : Fo Try.prog 115 4 4 := fun b o w => by kernel_rfl
theorem pl115 : Pl Try.prog 115 [.string ⟨#[]⟩, .slice none 0 0, .int .i64 0, .bool false, .string ⟨#[]⟩] (fun i => (#[(0, 1), (1, 1), (2, 1), (3, 1), (4, 1)] : Array (Nat × Nat))[i]?) := Pl.struct Try.underlying115 zr115 (fun w => by kernel_rfl)
theorem sz116 : Sz Try.prog 116 1 := fun w => by kernel_rfl
theorem na116 : NAg Try.prog 116 := fun w => by kernel_rfl
theorem zr116 : Zr Try.prog 116 (.nilFunc) := fun w => by kernel_rfl
theorem sz117 : Sz Try.prog 117 1 := fun w => by kernel_rfl
theorem na117 : NAg Try.prog 117 := fun w => by kernel_rfl
theorem zr117 : Zr Try.prog 117 (.nilFunc) := fun w => by kernel_rfl
theorem sz118 : Sz Try.prog 118 1 := fun w => by kernel_rfl
theorem na118 : NAg Try.prog 118 := fun w => by kernel_rfl
theorem zr118 : Zr Try.prog 118 (.nilFunc) := fun w => by kernel_rfl
theorem sz119 : Sz Try.prog 119 1 := fun w => by kernel_rfl
theorem na119 : NAg Try.prog 119 := fun w => by kernel_rfl
theorem zr119 : Zr Try.prog 119 (.nilFunc) := fun w => by kernel_rfl
theorem sz120 : Sz Try.prog 120 1 := fun w => by kernel_rfl
theorem na120 : NAg Try.prog 120 := fun w => by kernel_rfl
theorem zr120 : Zr Try.prog 120 (.map none) := fun w => by kernel_rfl
theorem sz121 : Sz Try.prog 121 16 := fun w => by kernel_rfl
theorem ag121 : AgT Try.prog 121 16 := fun w => ⟨by kernel_rfl, by kernel_rfl⟩
theorem zr121 : Zr Try.prog 121 (.agg (List.toArray [.int .i64 0, .int .i64 0, .int .i64 0, .int .i64 0, .int .i64 0, .int .i64 0, .int .i64 0, .int .i64 0, .int .i64 0, .int .i64 0, .int .i64 0, .int .i64 0, .int .i64 0, .int .i64 0, .int .i64 0, .int .i64 0])) := fun w => by kernel_rfl
theorem pl121 : Pl Try.prog 121 [.int .i64 0, .int .i64 0, .int .i64 0, .int .i64 0, .int .i64 0, .int .i64 0, .int .i64 0, .int .i64 0, .int .i64 0, .int .i64 0, .int .i64 0, .int .i64 0, .int .i64 0, .int .i64 0, .int .i64 0, .int .i64 0] (fun i => some (i * 4, 4)) := Pl.array Try.underlying121 zr121 sz67
theorem sz122 : Sz Try.prog 122 17 := fun w => by kernel_rfl
theorem ag122 : AgT Try.prog 122 17 := fun w => ⟨by kernel_rfl, by kernel_rfl⟩
theorem zr122 : Zr Try.prog 122 (.agg (List.toArray [.int .i64 0, .int .i64 0, .int .i64 0, .int .i64 0, .int .i64 0, .int .i64 0, .int .i64 0, .int .i64 0, .int .i64 0, .int .i64 0, .int .i64 0, .int .i64 0, .int .i64 0, .int .i64 0, .int .i64 0, .int .i64 0, .map none])) := fun w => by kernel_rfl
theorem fo122_0 : Fo Try.prog 122 0 0 := fun b o w => by kernel_rfl
theorem fo122_1 : Fo Try.prog 122 1 16 := fun b o w => by kernel_rfl
theorem pl122 : Pl Try.prog 122 [.int .i64 0, .int .i64 0, .int .i64 0, .int .i64 0, .int .i64 0, .int .i64 0, .int .i64 0, .int .i64 0, .int .i64 0, .int .i64 0, .int .i64 0, .int .i64 0, .int .i64 0, .int .i64 0, .int .i64 0, .int .i64 0, .map none] (fun i => (#[(0, 16), (16, 1)] : Array (Nat × Nat))[i]?) := Pl.struct Try.underlying122 zr122 (fun w => by kernel_rfl)
theorem sz123 : Sz Try.prog 123 17 := fun w => by kernel_rfl
theorem ag123 : AgT Try.prog 123 17 := fun w => ⟨by kernel_rfl, by kernel_rfl⟩
theorem zr123 : Zr Try.prog 123 (.agg (List.toArray [.int .i64 0, .int .i64 0, .int .i64 0, .int .i64 0, .int .i64 0, .int .i64 0, .int .i64 0, .int .i64 0, .int .i64 0, .int .i64 0, .int .i64 0, .int .i64 0, .int .i64 0, .int .i64 0, .int .i64 0, .int .i64 0, .map none])) := fun w => by kernel_rfl
theorem fo123_0 : Fo Try.prog 123 0 0 := fun b o w => by kernel_rfl
theorem fo123_1 : Fo Try.prog 123 1 16 := fun b o w => by kernel_rfl
theorem pl123 : Pl Try.prog 123 [.int .i64 0, .int .i64 0, .int .i64 0, .int .i64 0, .int .i64 0, .int .i64 0, .int .i64 0, .int .i64 0, .int .i64 0, .int .i64 0, .int .i64 0, .int .i64 0, .int .i64 0, .int .i64 0, .int .i64 0, .int .i64 0, .map none] (fun i => (#[(0, 16), (16, 1)] : Array (Nat × Nat))[i]?) := Pl.struct Try.underlying123 zr123 (fun w => by kernel_rfl)
theorem sz124 : Sz Try.prog 124 1 := fun w => by kernel_rfl
theorem na124 : NAg Try.prog 124 := fun w => by kernel_rfl
theorem zr124 : Zr Try.prog 124 (.nilFunc) := fun w => by kernel_rfl
theorem sz125 : Sz Try.prog 125 1 := fun w => by kernel_rfl
theorem na125 : NAg Try.prog 125 := fun w => by kernel_rfl
theorem zr125 : Zr Try.prog 125 (.nilFunc) := fun w => by kernel_rfl
theorem sz126 : Sz Try.prog 126 1 := fun w => by kernel_rfl
theorem na126 : NAg Try.prog 126 := fun w => by kernel_rfl
theorem zr126 : Zr Try.prog 126 (.nilFunc) := fun w => by kernel_rfl
theorem sz127 : Sz Try.prog 127 1 := fun w => by kernel_rfl
theorem na127 : NAg Try.prog 127 := fun w => by kernel_rfl
theorem zr127 : Zr Try.prog 127 (.nilFunc) := fun w => by kernel_rfl
theorem sz128 : Sz Try.prog 128 1 := fun w => by kernel_rfl
theorem na128 : NAg Try.prog 128 := fun w => by kernel_rfl
theorem zr128 : Zr Try.prog 128 (.int .u64 0) := fun w => by kernel_rfl
theorem sz129 : Sz Try.prog 129 1 := fun w => by kernel_rfl
theorem na129 : NAg Try.prog 129 := fun w => by kernel_rfl
theorem zr129 : Zr Try.prog 129 (.nilFunc) := fun w => by kernel_rfl
theorem sz130 : Sz Try.prog 130 1 := fun w => by kernel_rfl
theorem na130 : NAg Try.prog 130 := fun w => by kernel_rfl
theorem zr130 : Zr Try.prog 130 (.nilFunc) := fun w => by kernel_rfl
theorem sz131 : Sz Try.prog 131 1 := fun w => by kernel_rfl
theorem na131 : NAg Try.prog 131 := fun w => by kernel_rfl
theorem zr131 : Zr Try.prog 131 (.nilFunc) := fun w => by kernel_rfl
theorem sz132 : Sz Try.prog 132 1 := fun w => by kernel_rfl
theorem na132 : NAg Try.prog 132 := fun w => by kernel_rfl
theorem zr132 : Zr Try.prog 132 (.nilFunc) := fun w => by kernel_rfl
theorem sz133 : Sz Try.prog 133 2 := fun w => by kernel_rfl
theorem ag133 : AgT Try.prog 133 2 := fun w => ⟨by kernel_rfl, by kernel_rfl⟩
theorem zr133 : Zr Try.prog 133 (.agg (List.toArray [.int .u8 0, .int .u8 0])) := fun w => by kernel_rfl
theorem fo133_0 : Fo Try.prog 133 0 0 := fun b o w => by kernel_rfl
theorem fo133_1 : Fo Try.prog 133 1 1 := fun b o w => by kernel_rfl
theorem pl133 : Pl Try.prog 133 [.int .u8 0, .int .u8 0] (fun i => (#[(0, 1), (1, 1)] : Array (Nat × Nat))[i]?) := Pl.struct Try.underlying133 zr133 (fun w => by kernel_rfl)
theorem sz134 : Sz Try.prog 134 2 := fun w => by kernel_rfl
theorem ag134 : AgT Try.prog 134 2 := fun w => ⟨by kernel_rfl, by kernel_rfl⟩
theorem zr134 : Zr Try.prog 134 (.agg (List.toArray [.int .u8 0, .int .u8 0])) := fun w => by kernel_rfl
theorem fo134_0 : Fo Try.prog 134 0 0 := fun b o w => by kernel_rfl
theorem fo134_1 : Fo Try.prog 134 1 1 := fun b o w => by kernel_rfl
theorem pl134 : Pl Try.prog 134 [.int .u8 0, .int .u8 0] (fun i => (#[(0, 1), (1, 1)] : Array (Nat × Nat))[i]?) := Pl.struct Try.underlying134 zr134 (fun w => by kernel_rfl)
theorem sz135 : Sz Try.prog 135 1 := fun w => by kernel_rfl
theorem na135 : NAg Try.prog 135 := fun w => by kernel_rfl
theorem zr135 : Zr Try.prog 135 (.nilFunc) := fun w => by kernel_rfl
theorem sz136 : Sz Try.prog 136 1 := fun w => by kernel_rfl
theorem na136 : NAg Try.prog 136 := fun w => by kernel_rfl
theorem zr136 : Zr Try.prog 136 (.slice none 0 0) := fun w => by kernel_rfl
theorem sz137 : Sz Try.prog 137 1 := fun w => by kernel_rfl
theorem na137 : NAg Try.prog 137 := fun w => by kernel_rfl
theorem zr137 : Zr Try.prog 137 (.nilFunc) := fun w => by kernel_rfl
theorem sz139 : Sz Try.prog 139 1 := fun w => by kernel_rfl
theorem na139 : NAg Try.prog 139 := fun w => by kernel_rfl
theorem zr139 : Zr Try.prog 139 (.nilFunc) := fun w => by kernel_rfl
theorem sz141 : Sz Try.prog 141 1 := fun w => by kernel_rfl
theorem na141 : NAg Try.prog 141 := fun w => by kernel_rfl
theorem zr141 : Zr Try.prog 141 (.nilFunc) := fun w => by kernel_rfl
theorem sz142 : Sz Try.prog 142 1 := fun w => by kernel_rfl
theorem na142 : NAg Try.prog 142 := fun w => by kernel_rfl
theorem zr142 : Zr Try.prog 142 (.nilFunc) := fun w => by kernel_rfl
theorem sz144 : Sz Try.prog 144 1 := fun w => by kernel_rfl
theorem na144 : NAg Try.prog 144 := fun w => by kernel_rfl
theorem zr144 : Zr Try.prog 144 (.nilFunc) := fun w => by kernel_rfl
theorem sz145 : Sz Try.prog 145 1 := fun w => by kernel_rfl
theorem na145 : NAg Try.prog 145 := fun w => by kernel_rfl
theorem zr145 : Zr Try.prog 145 (.nilFunc) := fun w => by kernel_rfl
theorem sz146 : Sz Try.prog 146 1 := fun w => by kernel_rfl
theorem na146 : NAg Try.prog 146 := fun w => by kernel_rfl
theorem zr146 : Zr Try.prog 146 (.nilFunc) := fun w => by kernel_rfl
theorem sz147 : Sz Try.prog 147 1 := fun w => by kernel_rfl
theorem na147 : NAg Try.prog 147 := fun w => by kernel_rfl
theorem zr147 : Zr Try.prog 147 (.nilFunc) := fun w => by kernel_rfl
theorem sz148 : Sz Try.prog 148 3 := fun w => by kernel_rfl
theorem ag148 : AgT Try.prog 148 3 := fun w => ⟨by kernel_rfl, by kernel_rfl⟩
theorem zr148 : Zr Try.prog 148 (.agg (List.toArray [.string ⟨#[]⟩, .int .u8 0, .int .u8 0])) := fun w => by kernel_rfl
theorem fo148_0 : Fo Try.prog 148 0 0 := fun b o w => by kernel_rfl
theorem fo148_1 : Fo Try.prog 148 1 1 := fun b o w => by kernel_rfl
theorem fo148_2 : Fo Try.prog 148 2 2 := fun b o w => by kernel_rfl
theorem pl148 : Pl Try.prog 148 [.string ⟨#[]⟩, .int .u8 0, .int .u8 0] (fun i => (#[(0, 1), (1, 1), (2, 1)] : Array (Nat × Nat))[i]?) := Pl.struct Try.underlying148 zr148 (fun w => by kernel_rfl)
theorem sz149 : Sz Try.prog 149 3 := fun w => by kernel_rfl
theorem ag149 : AgT Try.prog 149 3 := fun w => ⟨by kernel_rfl, by kernel_rfl⟩
theorem zr149 : Zr Try.prog 149 (.agg (List.toArray [.string ⟨#[]⟩, .int .u8 0, .int .u8 0])) := fun w => by kernel_rfl
theorem fo149_0 : Fo Try.prog 149 0 0 := fun b o w => by kernel_rfl
theorem fo149_1 : Fo Try.prog 149 1 1 := fun b o w => by kernel_rfl
theorem fo149_2 : Fo Try.prog 149 2 2 := fun b o w => by kernel_rfl
theorem pl149 : Pl Try.prog 149 [.string ⟨#[]⟩, .int .u8 0, .int .u8 0] (fun i => (#[(0, 1), (1, 1), (2, 1)] : Array (Nat × Nat))[i]?) := Pl.struct Try.underlying149 zr149 (fun w => by kernel_rfl)
theorem sz150 : Sz Try.prog 150 1 := fun w => by kernel_rfl
theorem na150 : NAg Try.prog 150 := fun w => by kernel_rfl
theorem zr150 : Zr Try.prog 150 (.nilFunc) := fun w => by kernel_rfl
theorem sz151 : Sz Try.prog 151 5 := fun w => by kernel_rfl
theorem ag151 : AgT Try.prog 151 5 := fun w => ⟨by kernel_rfl, by kernel_rfl⟩
theorem zr151 : Zr Try.prog 151 (.agg (List.toArray [.int .u8 0, .int .i64 0, .int .i64 0, .int .i64 0, .int .i64 0])) := fun w => by kernel_rfl
theorem fo151_0 : Fo Try.prog 151 0 0 := fun b o w => by kernel_rfl
theorem fo151_1 : Fo Try.prog 151 1 1 := fun b o w => by kernel_rfl
theorem pl151 : Pl Try.prog 151 [.int .u8 0, .int .i64 0, .int .i64 0, .int .i64 0, .int .i64 0] (fun i => (#[(0, 1), (1, 4)] : Array (Nat × Nat))[i]?) := Pl.struct Try.underlying151 zr151 (fun w => by kernel_rfl)
theorem sz152 : Sz Try.prog 152 5 := fun w => by kernel_rfl
theorem ag152 : AgT Try.prog 152 5 := fun w => ⟨by kernel_rfl, by kernel_rfl⟩
theorem zr152 : Zr Try.prog 152 (.agg (List.toArray [.int .u8 0, .int .i64 0, .int .i64 0, .int .i64 0, .int .i64 0])) := fun w => by kernel_rfl
theorem fo152_0 : Fo Try.prog 152 0 0 := fun b o w => by kernel_rfl
theorem fo152_1 : Fo Try.prog 152 1 1 := fun b o w => by kernel_rfl
theorem pl152 : Pl Try.prog 152 [.int .u8 0, .int .i64 0, .int .i64 0, .int .i64 0, .int .i64 0] (fun i => (#[(0, 1), (1, 4)] : Array (Nat × Nat))[i]?) := Pl.struct Try.underlying152 zr152 (fun w => by kernel_rfl)
theorem sz153 : Sz Try.prog 153 1 := fun w => by kernel_rfl
theorem na153 : NAg Try.prog 153 := fun w => by kernel_rfl
theorem zr153 : Zr Try.prog 153 (.nilFunc) := fun w => by kernel_rfl
theorem sz154 : Sz Try.prog 154 1 := fun w => by kernel_rfl
theorem na154 : NAg Try.prog 154 := fun w => by kernel_rfl
theorem zr154 : Zr Try.prog 154 (.slice none 0 0) := fun w => by kernel_rfl
theorem sz155 : Sz Try.prog 155 1 := fun w => by kernel_rfl
theorem na155 : NAg Try.prog 155 := fun w => by kernel_rfl
theorem zr155 : Zr Try.prog 155 (.nilFunc) := fun w => by kernel_rfl
theorem sz156 : Sz Try.prog 156 1 := fun w => by kernel_rfl
theorem na156 : NAg Try.prog 156 := fun w => by kernel_rfl
theorem zr156 : Zr Try.prog 156 (.nilFunc) := fun w => by kernel_rfl
theorem sz157 : Sz Try.prog 157 1 := fun w => by kernel_rfl
theorem na157 : NAg Try.prog 157 := fun w => by kernel_rfl
theorem zr157 : Zr Try.prog 157 (.pointer none) := fun w => by kernel_rfl
theorem sz158 : Sz Try.prog 158 2 := fun w => by kernel_rfl
theorem ag158 : AgT Try.prog 158 2 := fun w => ⟨by kernel_rfl, by kernel_rfl⟩
theorem zr158 : Zr Try.prog 158 (.agg (List.toArray [.pointer none, .slice none 0 0])) := fun w => by kernel_rfl
theorem fo158_0 : Fo Try.prog 158 0 0 := fun b o w => by kernel_rfl
theorem fo158_1 : Fo Try.prog 158 1 1 := fun b o w => by kernel_rfl
theorem pl158 : Pl Try.prog 158 [.pointer none, .slice none 0 0] (fun i => (#[(0, 1), (1, 1)] : Array (Nat × Nat))[i]?) := Pl.struct Try.underlying158 zr158 (fun w => by kernel_rfl)
theorem sz159 : Sz Try.prog 159 2 := fun w => by kernel_rfl
theorem ag159 : AgT Try.prog 159 2 := fun w => ⟨by kernel_rfl, by kernel_rfl⟩
theorem zr159 : Zr Try.prog 159 (.agg (List.toArray [.pointer none, .slice none 0 0])) := fun w => by kernel_rfl
theorem fo159_0 : Fo Try.prog 159 0 0 := fun b o w => by kernel_rfl
theorem fo159_1 : Fo Try.prog 159 1 1 := fun b o w => by kernel_rfl
theorem pl159 : Pl Try.prog 159 [.pointer none, .slice none 0 0] (fun i => (#[(0, 1), (1, 1)] : Array (Nat × Nat))[i]?) := Pl.struct Try.underlying159 zr159 (fun w => by kernel_rfl)
theorem sz160 : Sz Try.prog 160 1 := fun w => by kernel_rfl
theorem na160 : NAg Try.prog 160 := fun w => by kernel_rfl
theorem zr160 : Zr Try.prog 160 (.nilIface) := fun w => by kernel_rfl
theorem sz161 : Sz Try.prog 161 1 := fun w => by kernel_rfl
theorem na161 : NAg Try.prog 161 := fun w => by kernel_rfl
theorem zr161 : Zr Try.prog 161 (.nilIface) := fun w => by kernel_rfl
theorem sz163 : Sz Try.prog 163 1 := fun w => by kernel_rfl
theorem na163 : NAg Try.prog 163 := fun w => by kernel_rfl
theorem zr163 : Zr Try.prog 163 (.nilFunc) := fun w => by kernel_rfl
theorem sz164 : Sz Try.prog 164 1 := fun w => by kernel_rfl
theorem na164 : NAg Try.prog 164 := fun w => by kernel_rfl
theorem zr164 : Zr Try.prog 164 (.nilFunc) := fun w => by kernel_rfl
theorem sz165 : Sz Try.prog 165 1 := fun w => by kernel_rfl
theorem na165 : NAg Try.prog 165 := fun w => by kernel_rfl
theorem zr165 : Zr Try.prog 165 (.nilFunc) := fun w => by kernel_rfl
theorem sz166 : Sz Try.prog 166 1 := fun w => by kernel_rfl
theorem na166 : NAg Try.prog 166 := fun w => by kernel_rfl
theorem zr166 : Zr Try.prog 166 (.nilFunc) := fun w => by kernel_rfl
theorem sz167 : Sz Try.prog 167 1 := fun w => by kernel_rfl
theorem na167 : NAg Try.prog 167 := fun w => by kernel_rfl
theorem zr167 : Zr Try.prog 167 (.nilFunc) := fun w => by kernel_rfl
theorem sz168 : Sz Try.prog 168 1 := fun w => by kernel_rfl
theorem na168 : NAg Try.prog 168 := fun w => by kernel_rfl
theorem zr168 : Zr Try.prog 168 (.nilFunc) := fun w => by kernel_rfl
theorem sz169 : Sz Try.prog 169 1 := fun w => by kernel_rfl
theorem na169 : NAg Try.prog 169 := fun w => by kernel_rfl
theorem zr169 : Zr Try.prog 169 (.nilFunc) := fun w => by kernel_rfl
theorem sz170 : Sz Try.prog 170 1 := fun w => by kernel_rfl
theorem na170 : NAg Try.prog 170 := fun w => by kernel_rfl
theorem zr170 : Zr Try.prog 170 (.nilFunc) := fun w => by kernel_rfl
theorem sz171 : Sz Try.prog 171 10 := fun w => by kernel_rfl
theorem ag171 : AgT Try.prog 171 10 := fun w => ⟨by kernel_rfl, by kernel_rfl⟩
theorem zr171 : Zr Try.prog 171 (.agg (List.toArray [.int .u8 0, .int .u8 0, .int .u8 0, .int .u8 0, .int .u8 0, .int .u8 0, .int .u8 0, .int .u8 0, .int .u8 0, .int .u8 0])) := fun w => by kernel_rfl
theorem pl171 : Pl Try.prog 171 [.int .u8 0, .int .u8 0, .int .u8 0, .int .u8 0, .int .u8 0, .int .u8 0, .int .u8 0, .int .u8 0, .int .u8 0, .int .u8 0] (fun i => some (i * 1, 1)) := Pl.array Try.underlying171 zr171 sz5
theorem sz172 : Sz Try.prog 172 1 := fun w => by kernel_rfl
theorem na172 : NAg Try.prog 172 := fun w => by kernel_rfl
theorem zr172 : Zr Try.prog 172 (.int .u64 0) := fun w => by kernel_rfl
theorem sz173 : Sz Try.prog 173 1 := fun w => by kernel_rfl
theorem na173 : NAg Try.prog 173 := fun w => by kernel_rfl
theorem zr173 : Zr Try.prog 173 (.nilFunc) := fun w => by kernel_rfl
theorem sz174 : Sz Try.prog 174 1 := fun w => by kernel_rfl
theorem na174 : NAg Try.prog 174 := fun w => by kernel_rfl
theorem zr174 : Zr Try.prog 174 (.nilFunc) := fun w => by kernel_rfl
theorem sz175 : Sz Try.prog 175 1 := fun w => by kernel_rfl
theorem na175 : NAg Try.prog 175 := fun w => by kernel_rfl
theorem zr175 : Zr Try.prog 175 (.nilFunc) := fun w => by kernel_rfl
theorem sz176 : Sz Try.prog 176 1 := fun w => by kernel_rfl
theorem na176 : NAg Try.prog 176 := fun w => by kernel_rfl
theorem zr176 : Zr Try.prog 176 (.pointer none) := fun w => by kernel_rfl
theorem sz177 : Sz Try.prog 177 1 := fun w => by kernel_rfl
theorem na177 : NAg Try.prog 177 := fun w => by kernel_rfl
theorem zr177 : Zr Try.prog 177 (.slice none 0 0) := fun w => by kernel_rfl
theorem sz178 : Sz Try.prog 178 1 := fun w => by kernel_rfl
theorem na178 : NAg Try.prog 178 := fun w => by kernel_rfl
theorem zr178 : Zr Try.prog 178 (.nilFunc) := fun w => by kernel_rfl
theorem sz179 : Sz Try.prog 179 1 := fun w => by kernel_rfl
theorem na179 : NAg Try.prog 179 := fun w => by kernel_rfl
theorem zr179 : Zr Try.prog 179 (.nilFunc) := fun w => by kernel_rfl
theorem sz180 : Sz Try.prog 180 1 := fun w => by kernel_rfl
theorem na180 : NAg Try.prog 180 := fun w => by kernel_rfl
theorem zr180 : Zr Try.prog 180 (.nilFunc) := fun w => by kernel_rfl
theorem sz181 : Sz Try.prog 181 1 := fun w => by kernel_rfl
theorem na181 : NAg Try.prog 181 := fun w => by kernel_rfl
theorem zr181 : Zr Try.prog 181 (.pointer none) := fun w => by kernel_rfl
theorem sz182 : Sz Try.prog 182 1 := fun w => by kernel_rfl
theorem na182 : NAg Try.prog 182 := fun w => by kernel_rfl
theorem zr182 : Zr Try.prog 182 (.nilFunc) := fun w => by kernel_rfl
theorem sz183 : Sz Try.prog 183 1 := fun w => by kernel_rfl
theorem na183 : NAg Try.prog 183 := fun w => by kernel_rfl
theorem zr183 : Zr Try.prog 183 (.nilFunc) := fun w => by kernel_rfl
theorem sz184 : Sz Try.prog 184 1 := fun w => by kernel_rfl
theorem na184 : NAg Try.prog 184 := fun w => by kernel_rfl
theorem zr184 : Zr Try.prog 184 (.nilFunc) := fun w => by kernel_rfl
theorem sz185 : Sz Try.prog 185 1 := fun w => by kernel_rfl
theorem na185 : NAg Try.prog 185 := fun w => by kernel_rfl
theorem zr185 : Zr Try.prog 185 (.int .i64 0) := fun w => by kernel_rfl
theorem sz187 : Sz Try.prog 187 1 := fun w => by kernel_rfl
theorem na187 : NAg Try.prog 187 := fun w => by kernel_rfl
theorem zr187 : Zr Try.prog 187 (.nilFunc) := fun w => by kernel_rfl
theorem sz188 : Sz Try.prog 188 1 := fun w => by kernel_rfl
theorem na188 : NAg Try.prog 188 := fun w => by kernel_rfl
theorem zr188 : Zr Try.prog 188 (.nilFunc) := fun w => by kernel_rfl
theorem sz189 : Sz Try.prog 189 1 := fun w => by kernel_rfl
theorem na189 : NAg Try.prog 189 := fun w => by kernel_rfl
theorem zr189 : Zr Try.prog 189 (.nilFunc) := fun w => by kernel_rfl
theorem sz190 : Sz Try.prog 190 1 := fun w => by kernel_rfl
theorem na190 : NAg Try.prog 190 := fun w => by kernel_rfl
theorem zr190 : Zr Try.prog 190 (.nilFunc) := fun w => by kernel_rfl
theorem sz192 : Sz Try.prog 192 1 := fun w => by kernel_rfl
theorem na192 : NAg Try.prog 192 := fun w => by kernel_rfl
theorem zr192 : Zr Try.prog 192 (.nilFunc) := fun w => by kernel_rfl
theorem sz193 : Sz Try.prog 193 1 := fun w => by kernel_rfl
theorem na193 : NAg Try.prog 193 := fun w => by kernel_rfl
theorem zr193 : Zr Try.prog 193 (.nilFunc) := fun w => by kernel_rfl
theorem sz194 : Sz Try.prog 194 1 := fun w => by kernel_rfl
theorem na194 : NAg Try.prog 194 := fun w => by kernel_rfl
theorem zr194 : Zr Try.prog 194 (.int .u32 0) := fun w => by kernel_rfl
theorem sz195 : Sz Try.prog 195 1 := fun w => by kernel_rfl
theorem na195 : NAg Try.prog 195 := fun w => by kernel_rfl
theorem zr195 : Zr Try.prog 195 (.nilFunc) := fun w => by kernel_rfl
theorem sz196 : Sz Try.prog 196 1 := fun w => by kernel_rfl
theorem na196 : NAg Try.prog 196 := fun w => by kernel_rfl
theorem zr196 : Zr Try.prog 196 (.pointer none) := fun w => by kernel_rfl
theorem sz197 : Sz Try.prog 197 1 := fun w => by kernel_rfl
theorem na197 : NAg Try.prog 197 := fun w => by kernel_rfl
theorem zr197 : Zr Try.prog 197 (.nilFunc) := fun w => by kernel_rfl
theorem sz198 : Sz Try.prog 198 1 := fun w => by kernel_rfl
theorem na198 : NAg Try.prog 198 := fun w => by kernel_rfl
theorem zr198 : Zr Try.prog 198 (.nilFunc) := fun w => by kernel_rfl
theorem sz199 : Sz Try.prog 199 1 := fun w => by kernel_rfl
theorem na199 : NAg Try.prog 199 := fun w => by kernel_rfl
theorem zr199 : Zr Try.prog 199 (.nilFunc) := fun w => by kernel_rfl
theorem sz200 : Sz Try.prog 200 1 := fun w => by kernel_rfl
theorem na200 : NAg Try.prog 200 := fun w => by kernel_rfl
theorem zr200 : Zr Try.prog 200 (.nilFunc) := fun w => by kernel_rfl
theorem sz201 : Sz Try.prog 201 1 := fun w => by kernel_rfl
theorem na201 : NAg Try.prog 201 := fun w => by kernel_rfl
theorem zr201 : Zr Try.prog 201 (.nilFunc) := fun w => by kernel_rfl
theorem sz202 : Sz Try.prog 202 1 := fun w => by kernel_rfl
theorem na202 : NAg Try.prog 202 := fun w => by kernel_rfl
theorem zr202 : Zr Try.prog 202 (.nilFunc) := fun w => by kernel_rfl
theorem sz203 : Sz Try.prog 203 1 := fun w => by kernel_rfl
theorem na203 : NAg Try.prog 203 := fun w => by kernel_rfl
theorem zr203 : Zr Try.prog 203 (.nilFunc) := fun w => by kernel_rfl
theorem sz204 : Sz Try.prog 204 1 := fun w => by kernel_rfl
theorem na204 : NAg Try.prog 204 := fun w => by kernel_rfl
theorem zr204 : Zr Try.prog 204 (.int .u64 0) := fun w => by kernel_rfl
theorem sz205 : Sz Try.prog 205 1 := fun w => by kernel_rfl
theorem na205 : NAg Try.prog 205 := fun w => by kernel_rfl
theorem zr205 : Zr Try.prog 205 (.nilFunc) := fun w => by kernel_rfl
theorem sz206 : Sz Try.prog 206 1 := fun w => by kernel_rfl
theorem na206 : NAg Try.prog 206 := fun w => by kernel_rfl
theorem zr206 : Zr Try.prog 206 (.nilFunc) := fun w => by kernel_rfl
theorem sz207 : Sz Try.prog 207 1 := fun w => by kernel_rfl
theorem na207 : NAg Try.prog 207 := fun w => by kernel_rfl
theorem zr207 : Zr Try.prog 207 (.nilFunc) := fun w => by kernel_rfl
theorem sz208 : Sz Try.prog 208 1 := fun w => by kernel_rfl
theorem na208 : NAg Try.prog 208 := fun w => by kernel_rfl
theorem zr208 : Zr Try.prog 208 (.nilFunc) := fun w => by kernel_rfl
theorem sz209 : Sz Try.prog 209 1 := fun w => by kernel_rfl
theorem na209 : NAg Try.prog 209 := fun w => by kernel_rfl
theorem zr209 : Zr Try.prog 209 (.nilFunc) := fun w => by kernel_rfl
theorem sz210 : Sz Try.prog 210 1 := fun w => by kernel_rfl
theorem na210 : NAg Try.prog 210 := fun w => by kernel_rfl
theorem zr210 : Zr Try.prog 210 (.nilFunc) := fun w => by kernel_rfl
theorem sz211 : Sz Try.prog 211 1 := fun w => by kernel_rfl
theorem na211 : NAg Try.prog 211 := fun w => by kernel_rfl
theorem zr211 : Zr Try.prog 211 (.pointer none) := fun w => by kernel_rfl
theorem sz212 : Sz Try.prog 212 1 := fun w => by kernel_rfl
theorem na212 : NAg Try.prog 212 := fun w => by kernel_rfl
theorem zr212 : Zr Try.prog 212 (.nilFunc) := fun w => by kernel_rfl
theorem sz213 : Sz Try.prog 213 1 := fun w => by kernel_rfl
theorem na213 : NAg Try.prog 213 := fun w => by kernel_rfl
theorem zr213 : Zr Try.prog 213 (.nilFunc) := fun w => by kernel_rfl
theorem sz214 : Sz Try.prog 214 4 := fun w => by kernel_rfl
theorem ag214 : AgT Try.prog 214 4 := fun w => ⟨by kernel_rfl, by kernel_rfl⟩
theorem zr214 : Zr Try.prog 214 (.agg (List.toArray [.pointer none, .pointer none, .pointer none, .string ⟨#[]⟩])) := fun w => by kernel_rfl
theorem fo214_0 : Fo Try.prog 214 0 0 := fun b o w => by kernel_rfl
theorem fo214_1 : Fo Try.prog 214 1 1 := fun b o w => by kernel_rfl
theorem fo214_2 : Fo Try.prog 214 2 2 := fun b o w => by kernel_rfl
theorem fo214_3 : Fo Try.prog 214 3 3 := fun b o w => by kernel_rfl
theorem pl214 : Pl Try.prog 214 [.pointer none, .pointer none, .pointer none, .string ⟨#[]⟩] (fun i => (#[(0, 1), (1, 1), (2, 1), (3, 1)] : Array (Nat × Nat))[i]?) := Pl.struct Try.underlying214 zr214 (fun w => by kernel_rfl)
theorem sz215 : Sz Try.prog 215 4 := fun w => by kernel_rfl
theorem ag215 : AgT Try.prog 215 4 := fun w => ⟨by kernel_rfl, by kernel_rfl⟩
theorem zr215 : Zr Try.prog 215 (.agg (List.toArray [.pointer none, .pointer none, .pointer none, .string ⟨#[]⟩])) := fun w => by kernel_rfl
theorem fo215_0 : Fo Try.prog 215 0 0 := fun b o w => by kernel_rfl
theorem fo215_1 : Fo Try.prog 215 1 1 := fun b o w => by kernel_rfl
theorem fo215_2 : Fo Try.prog 215 2 2 := fun b o w => by kernel_rfl
theorem fo215_3 : Fo Try.prog 215 3 3 := fun b o w => by kernel_rfl
theorem pl215 : Pl Try.prog 215 [.pointer none, .pointer none, .pointer none, .string ⟨#[]⟩] (fun i => (#[(0, 1), (1, 1), (2, 1), (3, 1)] : Array (Nat × Nat))[i]?) := Pl.struct Try.underlying215 zr215 (fun w => by kernel_rfl)
theorem sz216 : Sz Try.prog 216 0 := fun w => by kernel_rfl
theorem ag216 : AgT Try.prog 216 0 := fun w => ⟨by kernel_rfl, by kernel_rfl⟩
theorem zr216 : Zr Try.prog 216 (.agg (List.toArray [])) := fun w => by kernel_rfl
theorem sz217 : Sz Try.prog 217 0 := fun w => by kernel_rfl
theorem ag217 : AgT Try.prog 217 0 := fun w => ⟨by kernel_rfl, by kernel_rfl⟩
theorem zr217 : Zr Try.prog 217 (.agg (List.toArray [])) := fun w => by kernel_rfl
theorem sz218 : Sz Try.prog 218 0 := fun w => by kernel_rfl
theorem ag218 : AgT Try.prog 218 0 := fun w => ⟨by kernel_rfl, by kernel_rfl⟩
theorem zr218 : Zr Try.prog 218 (.agg (List.toArray [])) := fun w => by kernel_rfl
theorem sz219 : Sz Try.prog 219 1 := fun w => by kernel_rfl
theorem na219 : NAg Try.prog 219 := fun w => by kernel_rfl
theorem zr219 : Zr Try.prog 219 (.int .u8 0) := fun w => by kernel_rfl
theorem sz220 : Sz Try.prog 220 1 := fun w => by kernel_rfl
theorem na220 : NAg Try.prog 220 := fun w => by kernel_rfl
theorem zr220 : Zr Try.prog 220 (.int .u8 0) := fun w => by kernel_rfl
theorem sz221 : Sz Try.prog 221 1 := fun w => by kernel_rfl
theorem na221 : NAg Try.prog 221 := fun w => by kernel_rfl
theorem zr221 : Zr Try.prog 221 (.nilFunc) := fun w => by kernel_rfl
theorem sz222 : Sz Try.prog 222 1 := fun w => by kernel_rfl
theorem na222 : NAg Try.prog 222 := fun w => by kernel_rfl
theorem zr222 : Zr Try.prog 222 (.int .i32 0) := fun w => by kernel_rfl
theorem sz223 : Sz Try.prog 223 1 := fun w => by kernel_rfl
theorem na223 : NAg Try.prog 223 := fun w => by kernel_rfl
theorem zr223 : Zr Try.prog 223 (.int .i32 0) := fun w => by kernel_rfl
theorem sz224 : Sz Try.prog 224 11 := fun w => by kernel_rfl
theorem ag224 : AgT Try.prog 224 11 := fun w => ⟨by kernel_rfl, by kernel_rfl⟩
theorem zr224 : Zr Try.prog 224 (.agg (List.toArray [.int .u64 0, .int .u64 0, .int .u32 0, .int .u8 0, .int .u8 0, .int .u8 0, .int .u8 0, .nilFunc, .pointer none, .int .i32 0, .int .i32 0])) := fun w => by kernel_rfl
theorem fo224_0 : Fo Try.prog 224 0 0 := fun b o w => by kernel_rfl
theorem fo224_1 : Fo Try.prog 224 1 1 := fun b o w => by kernel_rfl
theorem fo224_2 : Fo Try.prog 224 2 2 := fun b o w => by kernel_rfl
theorem fo224_3 : Fo Try.prog 224 3 3 := fun b o w => by kernel_rfl
theorem fo224_4 : Fo Try.prog 224 4 4 := fun b o w => by kernel_rfl
theorem fo224_5 : Fo Try.prog 224 5 5 := fun b o w => by kernel_rfl
theorem fo224_6 : Fo Try.prog 224 6 6 := fun b o w => by kernel_rfl
theorem fo224_7 : Fo Try.prog 224 7 7 := fun b o w => by kernel_rfl
theorem fo224_8 : Fo Try.prog 224 8 8 := fun b o w => by kernel_rfl
theorem fo224_9 : Fo Try.prog 224 9 9 := fun b o w => by kernel_rfl
theorem fo224_10 : Fo Try.prog 224 10 10 := fun b o w => by kernel_rfl
theorem pl224 : Pl Try.prog 224 [.int .u64 0, .int .u64 0, .int .u32 0, .int .u8 0, .int .u8 0, .int .u8 0, .int .u8 0, .nilFunc, .pointer none, .int .i32 0, .int .i32 0] (fun i => (#[(0, 1), (1, 1), (2, 1), (3, 1), (4, 1), (5, 1), (6, 1), (7, 1), (8, 1), (9, 1), (10, 1)] : Array (Nat × Nat))[i]?) := Pl.struct Try.underlying224 zr224 (fun w => by kernel_rfl)
theorem sz225 : Sz Try.prog 225 11 := fun w => by kernel_rfl
theorem ag225 : AgT Try.prog 225 11 := fun w => ⟨by kernel_rfl, by kernel_rfl⟩
theorem zr225 : Zr Try.prog 225 (.agg (List.toArray [.int .u64 0, .int .u64 0, .int .u32 0, .int .u8 0, .int .u8 0, .int .u8 0, .int .u8 0, .nilFunc, .pointer none, .int .i32 0, .int .i32 0])) := fun w => by kernel_rfl
theorem fo225_0 : Fo Try.prog 225 0 0 := fun b o w => by kernel_rfl
theorem fo225_1 : Fo Try.prog 225 1 1 := fun b o w => by kernel_rfl
theorem fo225_2 : Fo Try.prog 225 2 2 := fun b o w => by kernel_rfl
theorem fo225_3 : Fo Try.prog 225 3 3 := fun b o w => by kernel_rfl
theorem fo225_4 : Fo Try.prog 225 4 4 := fun b o w => by kernel_rfl
theorem fo225_5 : Fo Try.prog 225 5 5 := fun b o w => by kernel_rfl
theorem fo225_6 : Fo Try.prog 225 6 6 := fun b o w => by kernel_rfl
theorem fo225_7 : Fo Try.prog 225 7 7 := fun b o w => by kernel_rfl
theorem fo225_8 : Fo Try.prog 225 8 8 := fun b o w => by kernel_rfl
theorem fo225_9 : Fo Try.prog 225 9 9 := fun b o w => by kernel_rfl
theorem fo225_10 : Fo Try.prog 225 10 10 := fun b o w => by kernel_rfl
theorem pl225 : Pl Try.prog 225 [.int .u64 0, .int .u64 0, .int .u32 0, .int .u8 0, .int .u8 0, .int .u8 0, .int .u8 0, .nilFunc, .pointer none, .int .i32 0, .int .i32 0] (fun i => (#[(0, 1), (1, 1), (2, 1), (3, 1), (4, 1), (5, 1), (6, 1), (7, 1), (8, 1), (9, 1), (10, 1)] : Array (Nat × Nat))[i]?) := Pl.struct Try.underlying225 zr225 (fun w => by kernel_rfl)
theorem fb2 : Fb Try.prog 2 := Fb.mk' Try.func2 rfl (by kernel_rfl)
theorem fb3 : Fb Try.prog 3 := Fb.mk' Try.func3 rfl (by kernel_rfl)
theorem fb4 : Fb Try.prog 4 := Fb.mk' Try.func4 rfl (by kernel_rfl)
theorem fb5 : Fb Try.prog 5 := Fb.mk' Try.func5 rfl (by kernel_rfl)
theorem fb6 : Fb Try.prog 6 := Fb.mk' Try.func6 rfl (by kernel_rfl)
theorem fb7 : Fb Try.prog 7 := Fb.mk' Try.func7 rfl (by kernel_rfl)
theorem fb8 : Fb Try.prog 8 := Fb.mk' Try.func8 rfl (by kernel_rfl)
theorem fb9 : Fb Try.prog 9 := Fb.mk' Try.func9 rfl (by kernel_rfl)
theorem fb10 : Fb Try.prog 10 := Fb.mk' Try.func10 rfl (by kernel_rfl)
theorem fb11 : Fb Try.prog 11 := Fb.mk' Try.func11 rfl (by kernel_rfl)
theorem fb12 : Fb Try.prog 12 := Fb.mk' Try.func12 rfl (by kernel_rfl)
theorem fb13 : Fb Try.prog 13 := Fb.mk' Try.func13 rfl (by kernel_rfl)
theorem fb14 : Fb Try.prog 14 := Fb.mk' Try.func14 rfl (by kernel_rfl)
theorem fb15 : Fb Try.prog 15 := Fb.mk' Try.func15 rfl (by kernel_rfl)
theorem fb16 : Fb Try.prog 16 := Fb.mk' Try.func16 rfl (by kernel_rfl)
theorem fb17 : Fb Try.prog 17 := Fb.mk' Try.func17 rfl (by kernel_rfl)
theorem fb18 : Fb Try.prog 18 := Fb.mk' Try.func18 rfl (by kernel_rfl)
theorem fb19 : Fb Try.prog 19 := Fb.mk' Try.func19 rfl (by kernel_rfl)
theorem fb20 : Fb Try.prog 20 := Fb.mk' Try.func20 rfl (by kernel_rfl)
theorem fb21 : Fb Try.prog 21 := Fb.mk' Try.func21 rfl (by kernel_rfl)
theorem fb22 : Fb Try.prog 22 := Fb.mk' Try.func22 rfl (by kernel_rfl)
theorem fb23 : Fb Try.prog 23 := Fb.mk' Try.func23 rfl (by kernel_rfl)
theorem fb24 : Fb Try.prog 24 := Fb.mk' Try.func24 rfl (by kernel_rfl)
theorem fb25 : Fb Try.prog 25 := Fb.mk' Try.func25 rfl (by kernel_rfl)
theorem fb26 : Fb Try.prog 26 := Fb.mk' Try.func26 rfl (by kernel_rfl)
theorem fb27 : Fb Try.prog 27 := Fb.mk' Try.func27 rfl (by kernel_rfl)
theorem fb28 : Fb Try.prog 28 := Fb.mk' Try.func28 rfl (by kernel_rfl)
theorem fb29 : Fb Try.prog 29 := Fb.mk' Try.func29 rfl (by kernel_rfl)
theorem fb30 : Fb Try.prog 30 := Fb.mk' Try.func30 rfl (by kernel_rfl)
theorem fb31 : Fb Try.prog 31 := Fb.mk' Try.func31 rfl (by kernel_rfl)
theorem fb32 : Fb Try.prog 32 := Fb.mk' Try.func32 rfl (by kernel_rfl)
theorem fb33 : Fb Try.prog 33 := Fb.mk' Try.func33 rfl (by kernel_rfl)
theorem fb34 : Fb Try.prog 34 := Fb.mk' Try.func34 rfl (by kernel_rfl)
theorem fb35 : Fb Try.prog 35 := Fb.mk' Try.func35 rfl (by kernel_rfl)
theorem fb36 : Fb Try.prog 36 := Fb.mk' Try.func36 rfl (by kernel_rfl)
theorem fb37 : Fb Try.prog 37 := Fb.mk' Try.func37 rfl (by kernel_rfl)
theorem fb38 : Fb Try.prog 38 := Fb.mk' Try.func38 rfl (by kernel_rfl)
theorem fb39 : Fb Try.prog 39 := Fb.mk' Try.func39 rfl (by kernel_rfl)
theorem fb40 : Fb Try.prog 40 := Fb.mk' Try.func40 rfl (by kernel_rfl)
theorem fb41 : Fb Try.prog 41 := Fb.mk' Try.func41 rfl (by kernel_rfl)
theorem fb42 : Fb Try.prog 42 := Fb.mk' Try.func42 rfl (by kernel_rfl)
theorem fb43 : Fb Try.prog 43 := Fb.mk' Try.func43 rfl (by kernel_rfl)
theorem fb44 : Fb Try.prog 44 := Fb.mk' Try.func44 rfl (by kernel_rfl)
theorem fb45 : Fb Try.prog 45 := Fb.mk' Try.func45 rfl (by kernel_rfl)
theorem fb46 : Fb Try.prog 46 := Fb.mk' Try.func46 rfl (by kernel_rfl)
theorem fb47 : Fb Try.prog 47 := Fb.mk' Try.func47 rfl (by kernel_rfl)
theorem fb48 : Fb Try.prog 48 := Fb.mk' Try.func48 rfl (by kernel_rfl)
theorem fb49 : Fb Try.prog 49 := Fb.mk' Try.func49 rfl (by kernel_rfl)
theorem fb50 : Fb Try.prog 50 := Fb.mk' Try.func50 rfl (by kernel_rfl)
theorem fb51 : Fb Try.prog 51 := Fb.mk' Try.func51 rfl (by kernel_rfl)
theorem fb52 : Fb Try.prog 52 := Fb.mk' Try.func52 rfl (by kernel_rfl)
theorem fb53 : Fb Try.prog 53 := Fb.mk' Try.func53 rfl (by kernel_rfl)
theorem fb54 : Fb Try.prog 54 := Fb.mk' Try.func54 rfl (by kernel_rfl)
theorem fb55 : Fb Try.prog 55 := Fb.mk' Try.func55 rfl (by kernel_rfl)
theorem fb56 : Fb Try.prog 56 := Fb.mk' Try.func56 rfl (by kernel_rfl)
theorem fb57 : Fb Try.prog 57 := Fb.mk' Try.func57 rfl (by kernel_rfl)
theorem fb58 : Fb Try.prog 58 := Fb.mk' Try.func58 rfl (by kernel_rfl)
theorem fb59 : Fb Try.prog 59 := Fb.mk' Try.func59 rfl (by kernel_rfl)
theorem fb60 : Fb Try.prog 60 := Fb.mk' Try.func60 rfl (by kernel_rfl)
theorem fb61 : Fb Try.prog 61 := Fb.mk' Try.func61 rfl (by kernel_rfl)
theorem fb62 : Fb Try.prog 62 := Fb.mk' Try.func62 rfl (by kernel_rfl)
theorem fb63 : Fb Try.prog 63 := Fb.mk' Try.func63 rfl (by kernel_rfl)
theorem fb64 : Fb Try.prog 64 := Fb.mk' Try.func64 rfl (by kernel_rfl)
theorem fb65 : Fb Try.prog 65 := Fb.mk' Try.func65 rfl (by kernel_rfl)
theorem fb66 : Fb Try.prog 66 := Fb.mk' Try.func66 rfl (by kernel_rfl)
theorem fb67 : Fb Try.prog 67 := Fb.mk' Try.func67 rfl (by kernel_rfl)
theorem fb68 : Fb Try.prog 68 := Fb.mk' Try.func68 rfl (by kernel_rfl)
theorem fb69 : Fb Try.prog 69 := Fb.mk' Try.func69 rfl (by kernel_rfl)
theorem fb70 : Fb Try.prog 70 := Fb.mk' Try.func70 rfl (by kernel_rfl)
theorem fb71 : Fb Try.prog 71 := Fb.mk' Try.func71 rfl (by kernel_rfl)
theorem fb72 : Fb Try.prog 72 := Fb.mk' Try.func72 rfl (by kernel_rfl)
theorem fb73 : Fb Try.prog 73 := Fb.mk' Try.func73 rfl (by kernel_rfl)
theorem fb74 : Fb Try.prog 74 := Fb.mk' Try.func74 rfl (by kernel_rfl)
theorem fb75 : Fb Try.prog 75 := Fb.mk' Try.func75 rfl (by kernel_rfl)
theorem fb76 : Fb Try.prog 76 := Fb.mk' Try.func76 rfl (by kernel_rfl)
theorem fb77 : Fb Try.prog 77 := Fb.mk' Try.func77 rfl (by kernel_rfl)
theorem fb78 : Fb Try.prog 78 := Fb.mk' Try.func78 rfl (by kernel_rfl)
theorem fb79 : Fb Try.prog 79 := Fb.mk' Try.func79 rfl (by kernel_rfl)
theorem fb80 : Fb Try.prog 80 := Fb.mk' Try.func80 rfl (by kernel_rfl)
theorem fb81 : Fb Try.prog 81 := Fb.mk' Try.func81 rfl (by kernel_rfl)
theorem fb82 : Fb Try.prog 82 := Fb.mk' Try.func82 rfl (by kernel_rfl)
theorem fb83 : Fb Try.prog 83 := Fb.mk' Try.func83 rfl (by kernel_rfl)
theorem fb84 : Fb Try.prog 84 := Fb.mk' Try.func84 rfl (by kernel_rfl)
theorem fb85 : Fb Try.prog 85 := Fb.mk' Try.func85 rfl (by kernel_rfl)
theorem fb86 : Fb Try.prog 86 := Fb.mk' Try.func86 rfl (by kernel_rfl)
theorem fb87 : Fb Try.prog 87 := Fb.mk' Try.func87 rfl (by kernel_rfl)
theorem fb88 : Fb Try.prog 88 := Fb.mk' Try.func88 rfl (by kernel_rfl)
theorem fb89 : Fb Try.prog 89 := Fb.mk' Try.func89 rfl (by kernel_rfl)
theorem fb90 : Fb Try.prog 90 := Fb.mk' Try.func90 rfl (by kernel_rfl)
theorem fb91 : Fb Try.prog 91 := Fb.mk' Try.func91 rfl (by kernel_rfl)
theorem fb92 : Fb Try.prog 92 := Fb.mk' Try.func92 rfl (by kernel_rfl)
theorem fb93 : Fb Try.prog 93 := Fb.mk' Try.func93 rfl (by kernel_rfl)
theorem fb94 : Fb Try.prog 94 := Fb.mk' Try.func94 rfl (by kernel_rfl)
theorem fb95 : Fb Try.prog 95 := Fb.mk' Try.func95 rfl (by kernel_rfl)
theorem fb96 : Fb Try.prog 96 := Fb.mk' Try.func96 rfl (by kernel_rfl)
theorem fb97 : Fb Try.prog 97 := Fb.mk' Try.func97 rfl (by kernel_rfl)
theorem fb98 : Fb Try.prog 98 := Fb.mk' Try.func98 rfl (by kernel_rfl)
theorem fb99 : Fb Try.prog 99 := Fb.mk' Try.func99 rfl (by kernel_rfl)
theorem fb100 : Fb Try.prog 100 := Fb.mk' Try.func100 rfl (by kernel_rfl)
theorem fb101 : Fb Try.prog 101 := Fb.mk' Try.func101 rfl (by kernel_rfl)
theorem fb102 : Fb Try.prog 102 := Fb.mk' Try.func102 rfl (by kernel_rfl)
theorem fb103 : Fb Try.prog 103 := Fb.mk' Try.func103 rfl (by kernel_rfl)
theorem fb104 : Fb Try.prog 104 := Fb.mk' Try.func104 rfl (by kernel_rfl)
theorem fb105 : Fb Try.prog 105 := Fb.mk' Try.func105 rfl (by kernel_rfl)
theorem fb106 : Fb Try.prog 106 := Fb.mk' Try.func106 rfl (by kernel_rfl)
theorem fb107 : Fb Try.prog 107 := Fb.mk' Try.func107 rfl (by kernel_rfl)
theorem fb108 : Fb Try.prog 108 := Fb.mk' Try.func108 rfl (by kernel_rfl)
theorem fb109 : Fb Try.prog 109 := Fb.mk' Try.func109 rfl (by kernel_rfl)
theorem fb110 : Fb Try.prog 110 := Fb.mk' Try.func110 rfl (by kernel_rfl)
theorem fb111 : Fb Try.prog 111 := Fb.mk' Try.func111 rfl (by kernel_rfl)
theorem fb112 : Fb Try.prog 112 := Fb.mk' Try.func112 rfl (by kernel_rfl)
theorem fb114 : Fb Try.prog 114 := Fb.mk' Try.func114 rfl (by kernel_rfl)
theorem fb115 : Fb Try.prog 115 := Fb.mk' Try.func115 rfl (by kernel_rfl)
theorem fb116 : Fb Try.prog 116 := Fb.mk' Try.func116 rfl (by kernel_rfl)
theorem fb117 : Fb Try.prog 117 := Fb.mk' Try.func117 rfl (by kernel_rfl)
theorem fb118 : Fb Try.prog 118 := Fb.mk' Try.func118 rfl (by kernel_rfl)
theorem fb119 : Fb Try.prog 119 := Fb.mk' Try.func119 rfl (by kernel_rfl)
theorem fb120 : Fb Try.prog 120 := Fb.mk' Try.func120 rfl (by kernel_rfl)
theorem fb121 : Fb Try.prog 121 := Fb.mk' Try.func121 rfl (by kernel_rfl)
theorem fb122 : Fb Try.prog 122 := Fb.mk' Try.func122 rfl (by kernel_rfl)
theorem fb123 : Fb Try.prog 123 := Fb.mk' Try.func123 rfl (by kernel_rfl)
theorem fb124 : Fb Try.prog 124 := Fb.mk' Try.func124 rfl (by kernel_rfl)
theorem fb125 : Fb Try.prog 125 := Fb.mk' Try.func125 rfl (by kernel_rfl)
theorem fb126 : Fb Try.prog 126 := Fb.mk' Try.func126 rfl (by kernel_rfl)
theorem fb127 : Fb Try.prog 127 := Fb.mk' Try.func127 rfl (by kernel_rfl)
theorem fb128 : Fb Try.prog 128 := Fb.mk' Try.func128 rfl (by kernel_rfl)
theorem fb129 : Fb Try.prog 129 := Fb.mk' Try.func129 rfl (by kernel_rfl)
theorem fb130 : Fb Try.prog 130 := Fb.mk' Try.func130 rfl (by kernel_rfl)
theorem fb131 : Fb Try.prog 131 := Fb.mk' Try.func131 rfl (by kernel_rfl)
theorem fb134 : Fb Try.prog 134 := Fb.mk' Try.func134 rfl (by kernel_rfl)
theorem fb135 : Fb Try.prog 135 := Fb.mk' Try.func135 rfl (by kernel_rfl)
theorem fb136 : Fb Try.prog 136 := Fb.mk' Try.func136 rfl (by kernel_rfl)
theorem fb137 : Fb Try.prog 137 := Fb.mk' Try.func137 rfl (by kernel_rfl)
theorem fb138 : Fb Try.prog 138 := Fb.mk' Try.func138 rfl (by kernel_rfl)
theorem fb139 : Fb Try.prog 139 := Fb.mk' Try.func139 rfl (by kernel_rfl)
theorem fb140 : Fb Try.prog 140 := Fb.mk' Try.func140 rfl (by kernel_rfl)
theorem fb141 : Fb Try.prog 141 := Fb.mk' Try.func141 rfl (by kernel_rfl)
theorem fb142 : Fb Try.prog 142 := Fb.mk' Try.func142 rfl (by kernel_rfl)
theorem fb143 : Fb Try.prog 143 := Fb.mk' Try.func143 rfl (by kernel_rfl)
theorem fb144 : Fb Try.prog 144 := Fb.mk' Try.func144 rfl (by kernel_rfl)
theorem fb145 : Fb Try.prog 145 := Fb.mk' Try.func145 rfl (by kernel_rfl)
theorem fb146 : Fb Try.prog 146 := Fb.mk' Try.func146 rfl (by kernel_rfl)
theorem fb147 : Fb Try.prog 147 := Fb.mk' Try.func147 rfl (by kernel_rfl)
theorem fb148 : Fb Try.prog 148 := Fb.mk' Try.func148 rfl (by kernel_rfl)
theorem fb149 : Fb Try.prog 149 := Fb.mk' Try.func149 rfl (by kernel_rfl)
theorem fb150 : Fb Try.prog 150 := Fb.mk' Try.func150 rfl (by kernel_rfl)
theorem fb151 : Fb Try.prog 151 := Fb.mk' Try.func151 rfl (by kernel_rfl)
theorem fb152 : Fb Try.prog 152 := Fb.mk' Try.func152 rfl (by kernel_rfl)
theorem in2 : Inf Try.prog 2 (.int .i64 0) 1 8 := by unfold Inf; kernel_rfl
theorem in3 : Inf Try.prog 3 (.int .i64 0) 1 8 := by unfold Inf; kernel_rfl
theorem in4 : Inf Try.prog 4 (.bool false) 1 1 := by unfold Inf; kernel_rfl
theorem in5 : Inf Try.prog 5 (.int .u8 0) 1 1 := by unfold Inf; kernel_rfl
theorem in6 : Inf Try.prog 6 (.int .u8 0) 1 1 := by unfold Inf; kernel_rfl
theorem in7 : Inf Try.prog 7 (.agg (List.toArray [.int .i64 0, .int .i64 0, .bool false, .int .u8 0])) 4 24 := by unfold Inf; kernel_rfl
theorem in8 : Inf Try.prog 8 (.agg (List.toArray [.int .i64 0, .int .i64 0, .bool false, .int .u8 0])) 4 24 := by unfold Inf; kernel_rfl
theorem in9 : Inf Try.prog 9 (.string ⟨#[]⟩) 1 16 := by unfold Inf; kernel_rfl
theorem in10 : Inf Try.prog 10 (.string ⟨#[]⟩) 1 16 := by unfold Inf; kernel_rfl
theorem in11 : Inf Try.prog 11 (.string ⟨#[]⟩) 1 16 := by unfold Inf; kernel_rfl
theorem in12 : Inf Try.prog 12 (.int .u64 0) 1 8 := by unfold Inf; kernel_rfl
theorem in13 : Inf Try.prog 13 (.agg (List.toArray [.string ⟨#[]⟩, .int .u64 0])) 2 24 := by unfold Inf; kernel_rfl
theorem in14 : Inf Try.prog 14 (.agg (List.toArray [.string ⟨#[]⟩, .int .u64 0])) 2 24 := by unfold Inf; kernel_rfl
theorem in15 : Inf Try.prog 15 (.pointer none) 1 8 := by unfold Inf; kernel_rfl
theorem in16 : Inf Try.prog 16 (.pointer none) 1 8 := by unfold Inf; kernel_rfl
theorem in17 : Inf Try.prog 17 (.pointer none) 1 8 := by unfold Inf; kernel_rfl
theorem in18 : Inf Try.prog 18 (.agg (List.toArray [.pointer none])) 1 8 := by unfold Inf; kernel_rfl
theorem in19 : Inf Try.prog 19 (.agg (List.toArray [.pointer none])) 1 8 := by unfold Inf; kernel_rfl
theorem in20 : Inf Try.prog 20 (.nilIface) 1 16 := by unfold Inf; kernel_rfl
theorem in21 : Inf Try.prog 21 (.int .i32 0) 1 4 := by unfold Inf; kernel_rfl
theorem in22 : Inf Try.prog 22 (.slice none 0 0) 1 24 := by unfold Inf; kernel_rfl
theorem in23 : Inf Try.prog 23 (.slice none 0 0) 1 24 := by unfold Inf; kernel_rfl
theorem in24 : Inf Try.prog 24 (.agg (List.toArray [.slice none 0 0, .slice none 0 0])) 2 48 := by unfold Inf; kernel_rfl
theorem in25 : Inf Try.prog 25 (.agg (List.toArray [.slice none 0 0, .slice none 0 0])) 2 48 := by unfold Inf; kernel_rfl
theorem in29 : Inf Try.prog 29 (.pointer none) 1 8 := by unfold Inf; kernel_rfl
theorem in33 : Inf Try.prog 33 (.slice none 0 0) 1 24 := by unfold Inf; kernel_rfl
theorem in36 : Inf Try.prog 36 (.int .i64 0) 1 8 := by unfold Inf; kernel_rfl
theorem in43 : Inf Try.prog 43 (.agg (List.toArray [.int .u8 0, .string ⟨#[]⟩, .string ⟨#[]⟩, .int .i64 0, .slice none 0 0, .slice none 0 0])) 6 96 := by unfold Inf; kernel_rfl
theorem in44 : Inf Try.prog 44 (.agg (List.toArray [.int .u8 0, .string ⟨#[]⟩, .string ⟨#[]⟩, .int .i64 0, .slice none 0 0, .slice none 0 0])) 6 96 := by unfold Inf; kernel_rfl
theorem in50 : Inf Try.prog 50 (.pointer none) 1 8 := by unfold Inf; kernel_rfl
theorem in51 : Inf Try.prog 51 (.slice none 0 0) 1 24 := by unfold Inf; kernel_rfl
theorem in52 : Inf Try.prog 52 (.agg (List.toArray [.slice none 0 0, .bool false, .int .i64 0])) 3 40 := by unfold Inf; kernel_rfl
theorem in53 : Inf Try.prog 53 (.agg (List.toArray [.slice none 0 0, .bool false, .int .i64 0])) 3 40 := by unfold Inf; kernel_rfl
theorem in58 : Inf Try.prog 58 (.slice none 0 0) 1 24 := by unfold Inf; kernel_rfl
theorem in59 : Inf Try.prog 59 (.int .u16 0) 1 2 := by unfold Inf; kernel_rfl
theorem in60 : Inf Try.prog 60 (.pointer none) 1 8 := by unfold Inf; kernel_rfl
theorem in64 : Inf Try.prog 64 (.agg (List.toArray [.int .u8 0, .int .u8 0, .int .u8 0, .int .u8 0, .int .u8 0, .int .u8 0, .int .u8 0, .int .u8 0])) 8 8 := by unfold Inf; kernel_rfl
theorem in65 : Inf Try.prog 65 (.agg (List.toArray [.int .u8 0, .int .u8 0, .int .u8 0, .int .u8 0, .int .u8 0, .int .u8 0, .int .u8 0, .int .u8 0])) 8 8 := by unfold Inf; kernel_rfl
theorem in66 : Inf Try.prog 66 (.agg (List.toArray [.int .i64 0, .int .i64 0, .int .i64 0, .int .i64 0])) 4 32 := by unfold Inf; kernel_rfl
theorem in67 : Inf Try.prog 67 (.agg (List.toArray [.int .i64 0, .int .i64 0, .int .i64 0, .int .i64 0])) 4 32 := by unfold Inf; kernel_rfl
theorem in68 : Inf Try.prog 68 (.agg (List.toArray [.int .u8 0, .int .u8 0, .int .u8 0, .int .u8 0, .int .u8 0, .int .u8 0, .int .u8 0, .int .u8 0, .int .u8 0, .int .u8 0, .int .u8 0, .int .i64 0, .int .i64 0, .int .i64 0, .int .i64 0])) 15 48 := by unfold Inf; kernel_rfl
theorem in69 : Inf Try.prog 69 (.agg (List.toArray [.int .u8 0, .int .u8 0, .int .u8 0, .int .u8 0, .int .u8 0, .int .u8 0, .int .u8 0, .int .u8 0, .int .u8 0, .int .u8 0, .int .u8 0, .int .i64 0, .int .i64 0, .int .i64 0, .int .i64 0])) 15 48 := by unfold Inf; kernel_rfl
theorem in76 : Inf Try.prog 76 (.agg (List.toArray [.int .i64 0, .int .i64 0, .int .i64 0, .int .i64 0])) 4 32 := by unfold Inf; kernel_rfl
theorem in77 : Inf Try.prog 77 (.slice none 0 0) 1 24 := by unfold Inf; kernel_rfl
theorem in82 : Inf Try.prog 82 (.slice none 0 0) 1 24 := by unfold Inf; kernel_rfl
theorem in83 : Inf Try.prog 83 (.slice none 0 0) 1 24 := by unfold Inf; kernel_rfl
theorem in84 : Inf Try.prog 84 (.agg (List.toArray [.slice none 0 0, .slice none 0 0])) 2 48 := by unfold Inf; kernel_rfl
theorem in85 : Inf Try.prog 85 (.agg (List.toArray [.slice none 0 0, .slice none 0 0])) 2 48 := by unfold Inf; kernel_rfl
theorem in89 : Inf Try.prog 89 (.agg (List.toArray [.int .i64 0, .int .i64 0, .int .i64 0, .int .i64 0])) 4 32 := by unfold Inf; kernel_rfl
theorem in98 : Inf Try.prog 98 (.map none) 1 8 := by unfold Inf; kernel_rfl
theorem in99 : Inf Try.prog 99 (.agg (List.toArray [.map none, .bool false, .int .i64 0])) 3 24 := by unfold Inf; kernel_rfl
theorem in100 : Inf Try.prog 100 (.agg (List.toArray [.map none, .bool false, .int .i64 0])) 3 24 := by unfold Inf; kernel_rfl
theorem in101 : Inf Try.prog 101 (.agg (List.toArray [.slice none 0 0, .int .i64 0, .bool false, .string ⟨#[]⟩])) 4 56 := by unfold Inf; kernel_rfl
theorem in102 : Inf Try.prog 102 (.agg (List.toArray [.slice none 0 0, .int .i64 0, .bool false, .string ⟨#[]⟩])) 4 56 := by unfold Inf; kernel_rfl
theorem in114 : Inf Try.prog 114 (.agg (List.toArray [.string ⟨#[]⟩, .slice none 0 0, .int .i64 0, .bool false, .string ⟨#[]⟩])) 5 72 := by unfold Inf; kernel_rfl
theorem in115 : Inf Try.prog 115 (.agg (List.toArray [.string ⟨#[]⟩, .slice none 0 0, .int .i64 0, .bool false, .string ⟨#[]⟩])) 5 72 := by unfold Inf; kernel_rfl
theorem in120 : Inf Try.prog 120 (.map none) 1 8 := by unfold Inf; kernel_rfl
theorem in121 : Inf Try.prog 121 (.agg (List.toArray [.int .i64 0, .int .i64 0, .int .i64 0, .int .i64 0, .int .i64 0, .int .i64 0, .int .i64 0, .int .i64 0, .int .i64 0, .int .i64 0, .int .i64 0, .int .i64 0, .int .i64 0, .int .i64 0, .int .i64 0, .int .i64 0])) 16 128 := by unfold Inf; kernel_rfl
theorem in122 : Inf Try.prog 122 (.agg (List.toArray [.int .i64 0, .int .i64 0, .int .i64 0, .int .i64 0, .int .i64 0, .int .i64 0, .int .i64 0, .int .i64 0, .int .i64 0, .int .i64 0, .int .i64 0, .int .i64 0, .int .i64 0, .int .i64 0, .int .i64 0, .int .i64 0, .map none])) 17 136 := by unfold Inf; kernel_rfl
theorem in123 : Inf Try.prog 123 (.agg (List.toArray [.int .i64 0, .int .i64 0, .int .i64 0, .int .i64 0, .int .i64 0, .int .i64 0, .int .i64 0, .int .i64 0, .int .i64 0, .int .i64 0, .int .i64 0, .int .i64 0, .int .i64 0, .int .i64 0, .int .i64 0, .int .i64 0, .map none])) 17 136 := by unfold Inf; kernel_rfl
theorem in128 : Inf Try.prog 128 (.int .u64 0) 1 8 := by unfold Inf; kernel_rfl
theorem in133 : Inf Try.prog 133 (.agg (List.toArray [.int .u8 0, .int .u8 0])) 2 2 := by unfold Inf; kernel_rfl
theorem in134 : Inf Try.prog 134 (.agg (List.toArray [.int .u8 0, .int .u8 0])) 2 2 := by unfold Inf; kernel_rfl
theorem in136 : Inf Try.prog 136 (.slice none 0 0) 1 24 := by unfold Inf; kernel_rfl
theorem in148 : Inf Try.prog 148 (.agg (List.toArray [.string ⟨#[]⟩, .int .u8 0, .int .u8 0])) 3 24 := by unfold Inf; kernel_rfl
theorem in149 : Inf Try.prog 149 (.agg (List.toArray [.string ⟨#[]⟩, .int .u8 0, .int .u8 0])) 3 24 := by unfold Inf; kernel_rfl
theorem in151 : Inf Try.prog 151 (.agg (List.toArray [.int .u8 0, .int .i64 0, .int .i64 0, .int .i64 0, .int .i64 0])) 5 40 := by unfold Inf; kernel_rfl
theorem in152 : Inf Try.prog 152 (.agg (List.toArray [.int .u8 0, .int .i64 0, .int .i64 0, .int .i64 0, .int .i64 0])) 5 40 := by unfold Inf; kernel_rfl
theorem in154 : Inf Try.prog 154 (.slice none 0 0) 1 24 := by unfold Inf; kernel_rfl
theorem in157 : Inf Try.prog 157 (.pointer none) 1 8 := by unfold Inf; kernel_rfl
theorem in158 : Inf Try.prog 158 (.agg (List.toArray [.pointer none, .slice none 0 0])) 2 32 := by unfold Inf; kernel_rfl
theorem in159 : Inf Try.prog 159 (.agg (List.toArray [.pointer none, .slice none 0 0])) 2 32 := by unfold Inf; kernel_rfl
theorem in160 : Inf Try.prog 160 (.nilIface) 1 16 := by unfold Inf; kernel_rfl
theorem in161 : Inf Try.prog 161 (.nilIface) 1 16 := by unfold Inf; kernel_rfl
theorem in171 : Inf Try.prog 171 (.agg (List.toArray [.int .u8 0, .int .u8 0, .int .u8 0, .int .u8 0, .int .u8 0, .int .u8 0, .int .u8 0, .int .u8 0, .int .u8 0, .int .u8 0])) 10 10 := by unfold Inf; kernel_rfl
theorem in172 : Inf Try.prog 172 (.int .u64 0) 1 8 := by unfold Inf; kernel_rfl
theorem in176 : Inf Try.prog 176 (.pointer none) 1 8 := by unfold Inf; kernel_rfl
theorem in177 : Inf Try.prog 177 (.slice none 0 0) 1 24 := by unfold Inf; kernel_rfl
theorem in181 : Inf Try.prog 181 (.pointer none) 1 8 := by unfold Inf; kernel_rfl
theorem in185 : Inf Try.prog 185 (.int .i64 0) 1 8 := by unfold Inf; kernel_rfl
theorem in194 : Inf Try.prog 194 (.int .u32 0) 1 4 := by unfold Inf; kernel_rfl
theorem in196 : Inf Try.prog 196 (.pointer none) 1 8 := by unfold Inf; kernel_rfl
theorem in204 : Inf Try.prog 204 (.int .u64 0) 1 8 := by unfold Inf; kernel_rfl
theorem in211 : Inf Try.prog 211 (.pointer none) 1 8 := by unfold Inf; kernel_rfl
theorem in214 : Inf Try.prog 214 (.agg (List.toArray [.pointer none, .pointer none, .pointer none, .string ⟨#[]⟩])) 4 40 := by unfold Inf; kernel_rfl
theorem in215 : Inf Try.prog 215 (.agg (List.toArray [.pointer none, .pointer none, .pointer none, .string ⟨#[]⟩])) 4 40 := by unfold Inf; kernel_rfl
theorem in219 : Inf Try.prog 219 (.int .u8 0) 1 1 := by unfold Inf; kernel_rfl
theorem in220 : Inf Try.prog 220 (.int .u8 0) 1 1 := by unfold Inf; kernel_rfl
theorem in222 : Inf Try.prog 222 (.int .i32 0) 1 4 := by unfold Inf; kernel_rfl
theorem in223 : Inf Try.prog 223 (.int .i32 0) 1 4 := by unfold Inf; kernel_rfl
theorem in224 : Inf Try.prog 224 (.agg (List.toArray [.int .u64 0, .int .u64 0, .int .u32 0, .int .u8 0, .int .u8 0, .int .u8 0, .int .u8 0, .nilFunc, .pointer none, .int .i32 0, .int .i32 0])) 11 48 := by unfold Inf; kernel_rfl
theorem in225 : Inf Try.prog 225 (.agg (List.toArray [.int .u64 0, .int .u64 0, .int .u32 0, .int .u8 0, .int .u8 0, .int .u8 0, .int .u8 0, .nilFunc, .pointer none, .int .i32 0, .int .i32 0])) 11 48 := by unfold Inf; kernel_rfl
end Go.Proofs.Ytoecfgldnlglnaa
