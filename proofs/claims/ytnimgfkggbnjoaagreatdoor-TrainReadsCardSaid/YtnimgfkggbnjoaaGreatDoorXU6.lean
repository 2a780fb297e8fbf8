/-
  The seat's program: what its closed runs need.
-/
import Derived.Test.YtnimgfkggbnjoaaGreatDoorXU4
import Derived.KernelRfl
import Derived.Test.YtnimgfkggbnjoaaGreatDoorProg
/-! The seat's program: what its closed runs need. -/
namespace Go.Abs.Seat
open Go Go.Abs Go.Proofs.Tryz
set_option maxRecDepth 100000
noncomputable section
def X (f:FuncId):Option ExtK :=
 match Nat.beq f 138 with
 |true => some .count
 |false => match Nat.beq f 152 with
  |true => some .indexByte
  |false => Option.none
theorem xok:EOK prog X :=by
 intro f k h args w
 unfold X at h
 split at h
 ·rename_i e
  have e :=Nat.eq_of_beq_eq_true e
  subst e
  cases h
  exact run_callFunc_extern func138 (by kernel_rfl) (by kernel_rfl) (by kernel_rfl) (by kernel_rfl) args w
 ·split at h
  ·rename_i e
   have e :=Nat.eq_of_beq_eq_true e
   subst e
   cases h
   exact run_callFunc_extern func152 (by kernel_rfl) (by kernel_rfl) (by kernel_rfl) (by kernel_rfl) args w
  ·cases h
theorem names_ok:(prog.funcs.toList.all fun fn => !(fn.name == "runtime.NumGoroutine")) = true :=by kernel_rfl
theorem mixed_ok:prog.follows .mixedOrders = true :=by kernel_rfl
def pu (f:FuncId):Bool :=([32,36,44,45,46,51,52,53,54,55,56,57,58,61,62,65,75,77,106,107,119,124]:List Nat).any (Nat.beq f)
def Goal (M:Memo) (f:FuncId) (args:List AV) (v:AV):Prop :=mkEnv prog X false pu M fun E => runV E 1000000 200 f args v
attribute [irreducible] Goal
theorem Goal.pure {M:Memo} {f:FuncId} {args:List AV} {v:AV} (h:Goal M f args v) (hM:MOK prog M) (ha:norefs args = true) (hv:noref v = true):Pure prog f args v :=by
 unfold Goal at h
 exact pure_run h names_ok xok mixed_ok hM ha hv
theorem MOK.nil:MOK prog [] :=fun _ h => by cases h
theorem MOK.cons {f:FuncId} {args:List AV} {v:AV} {M:Memo} (h:Pure prog f args v) (hM:MOK prog M):MOK prog ((f,args,v) :: M) :=fun e he => by
 rcases List.mem_cons.1 he with e1 | e1
 ·subst e1;exact h
 ·exact hM e e1
def i64 (n:Int):AV :=.int .i64 n
def fr (a b:Int):AV :=.agg [i64 a,i64 b]
def ints (own:Own) (l:List Int):AV :=.lst (l.map i64) l.length own
def pairs (own:Own) (l:List Int) (n:Nat):AV :=.lst (l.map i64) n own
def aR:AV :=.agg [i64 6,i64 12,i64 2,i64 1,ints .full [7]]
def aT:AV :=pairs .full [12,10,12,10] 2
def aText:AV :=.str [114,117,108,101,32,52,32,52,32,49,32,97,110,121,10,110,101,118,101,114,10,101,110,100,32,48,57,53,10]
end
end Go.Abs.Seat

namespace Go.Abs.Seat
open Go Go.Abs Go.Proofs.Tryz
set_option maxRecDepth 100000
noncomputable section
noncomputable def seatF:Tr Func :=.node f0 (.node f1 (.node f3 (.node f7 (.node f15 (.node f31 (.node f63 (.node f127 (.nil) (.nil)) (.nil)) (.node f95 (.node f159 (.nil) (.nil)) (.nil))) (.node f47 (.node f79 (.node f143 (.nil) (.nil)) (.nil)) (.node f111 (.node f175 (.nil) (.nil)) (.nil)))) (.node f23 (.node f39 (.node f71 (.node f135 (.nil) (.nil)) (.nil)) (.node f103 (.node f167 (.nil) (.nil)) (.nil))) (.node f55 (.node f87 (.node f151 (.nil) (.nil)) (.nil)) (.node f119 (.nil) (.nil))))) (.node f11 (.node f19 (.node f35 (.node f67 (.node f131 (.nil) (.nil)) (.nil)) (.node f99 (.node f163 (.nil) (.nil)) (.nil))) (.node f51 (.node f83 (.node f147 (.nil) (.nil)) (.nil)) (.node f115 (.node f179 (.nil) (.nil)) (.nil)))) (.node f27 (.node f43 (.node f75 (.node f139 (.nil) (.nil)) (.nil)) (.node f107 (.node f171 (.nil) (.nil)) (.nil))) (.node f59 (.node f91 (.node f155 (.nil) (.nil)) (.nil)) (.node f123 (.nil) (.nil)))))) (.node f5 (.node f9 (.node f17 (.node f33 (.node f65 (.node f129 (.nil) (.nil)) (.nil)) (.node f97 (.node f161 (.nil) (.nil)) (.nil))) (.node f49 (.node f81 (.node f145 (.nil) (.nil)) (.nil)) (.node f113 (.node f177 (.nil) (.nil)) (.nil)))) (.node f25 (.node f41 (.node f73 (.node f137 (.nil) (.nil)) (.nil)) (.node f105 (.node f169 (.nil) (.nil)) (.nil))) (.node f57 (.node f89 (.node f153 (.nil) (.nil)) (.nil)) (.node f121 (.nil) (.nil))))) (.node f13 (.node f21 (.node f37 (.node f69 (.node f133 (.nil) (.nil)) (.nil)) (.node f101 (.node f165 (.nil) (.nil)) (.nil))) (.node f53 (.node f85 (.node f149 (.nil) (.nil)) (.nil)) (.node f117 (.node f181 (.nil) (.nil)) (.nil)))) (.node f29 (.node f45 (.node f77 (.node f141 (.nil) (.nil)) (.nil)) (.node f109 (.node f173 (.nil) (.nil)) (.nil))) (.node f61 (.node f93 (.node f157 (.nil) (.nil)) (.nil)) (.node f125 (.nil) (.nil))))))) (.node f2 (.node f4 (.node f8 (.node f16 (.node f32 (.node f64 (.node f128 (.nil) (.nil)) (.nil)) (.node f96 (.node f160 (.nil) (.nil)) (.nil))) (.node f48 (.node f80 (.node f144 (.nil) (.nil)) (.nil)) (.node f112 (.node f176 (.nil) (.nil)) (.nil)))) (.node f24 (.node f40 (.node f72 (.node f136 (.nil) (.nil)) (.nil)) (.node f104 (.node f168 (.nil) (.nil)) (.nil))) (.node f56 (.node f88 (.node f152 (.nil) (.nil)) (.nil)) (.node f120 (.nil) (.nil))))) (.node f12 (.node f20 (.node f36 (.node f68 (.node f132 (.nil) (.nil)) (.nil)) (.node f100 (.node f164 (.nil) (.nil)) (.nil))) (.node f52 (.node f84 (.node f148 (.nil) (.nil)) (.nil)) (.node f116 (.node f180 (.nil) (.nil)) (.nil)))) (.node f28 (.node f44 (.node f76 (.node f140 (.nil) (.nil)) (.nil)) (.node f108 (.node f172 (.nil) (.nil)) (.nil))) (.node f60 (.node f92 (.node f156 (.nil) (.nil)) (.nil)) (.node f124 (.nil) (.nil)))))) (.node f6 (.node f10 (.node f18 (.node f34 (.node f66 (.node f130 (.nil) (.nil)) (.nil)) (.node f98 (.node f162 (.nil) (.nil)) (.nil))) (.node f50 (.node f82 (.node f146 (.nil) (.nil)) (.nil)) (.node f114 (.node f178 (.nil) (.nil)) (.nil)))) (.node f26 (.node f42 (.node f74 (.node f138 (.nil) (.nil)) (.nil)) (.node f106 (.node f170 (.nil) (.nil)) (.nil))) (.node f58 (.node f90 (.node f154 (.nil) (.nil)) (.nil)) (.node f122 (.nil) (.nil))))) (.node f14 (.node f22 (.node f38 (.node f70 (.node f134 (.nil) (.nil)) (.nil)) (.node f102 (.node f166 (.nil) (.nil)) (.nil))) (.node f54 (.node f86 (.node f150 (.nil) (.nil)) (.nil)) (.node f118 (.nil) (.nil)))) (.node f30 (.node f46 (.node f78 (.node f142 (.nil) (.nil)) (.nil)) (.node f110 (.node f174 (.nil) (.nil)) (.nil))) (.node f62 (.node f94 (.node f158 (.nil) (.nil)) (.nil)) (.node f126 (.nil) (.nil)))))))
noncomputable def seatT:Tr TypeInfo :=.node t0 (.node t1 (.node t3 (.node t7 (.node t15 (.node t31 (.node t63 (.node t127 (.nil) (.nil)) (.node t191 (.nil) (.nil))) (.node t95 (.node t159 (.nil) (.nil)) (.node t223 (.nil) (.nil)))) (.node t47 (.node t79 (.node t143 (.nil) (.nil)) (.node t207 (.nil) (.nil))) (.node t111 (.node t175 (.nil) (.nil)) (.nil)))) (.node t23 (.node t39 (.node t71 (.node t135 (.nil) (.nil)) (.node t199 (.nil) (.nil))) (.node t103 (.node t167 (.nil) (.nil)) (.nil))) (.node t55 (.node t87 (.node t151 (.nil) (.nil)) (.node t215 (.nil) (.nil))) (.node t119 (.node t183 (.nil) (.nil)) (.nil))))) (.node t11 (.node t19 (.node t35 (.node t67 (.node t131 (.nil) (.nil)) (.node t195 (.nil) (.nil))) (.node t99 (.node t163 (.nil) (.nil)) (.node t227 (.nil) (.nil)))) (.node t51 (.node t83 (.node t147 (.nil) (.nil)) (.node t211 (.nil) (.nil))) (.node t115 (.node t179 (.nil) (.nil)) (.nil)))) (.node t27 (.node t43 (.node t75 (.node t139 (.nil) (.nil)) (.node t203 (.nil) (.nil))) (.node t107 (.node t171 (.nil) (.nil)) (.nil))) (.node t59 (.node t91 (.node t155 (.nil) (.nil)) (.node t219 (.nil) (.nil))) (.node t123 (.node t187 (.nil) (.nil)) (.nil)))))) (.node t5 (.node t9 (.node t17 (.node t33 (.node t65 (.node t129 (.nil) (.nil)) (.node t193 (.nil) (.nil))) (.node t97 (.node t161 (.nil) (.nil)) (.node t225 (.nil) (.nil)))) (.node t49 (.node t81 (.node t145 (.nil) (.nil)) (.node t209 (.nil) (.nil))) (.node t113 (.node t177 (.nil) (.nil)) (.nil)))) (.node t25 (.node t41 (.node t73 (.node t137 (.nil) (.nil)) (.node t201 (.nil) (.nil))) (.node t105 (.node t169 (.nil) (.nil)) (.nil))) (.node t57 (.node t89 (.node t153 (.nil) (.nil)) (.node t217 (.nil) (.nil))) (.node t121 (.node t185 (.nil) (.nil)) (.nil))))) (.node t13 (.node t21 (.node t37 (.node t69 (.node t133 (.nil) (.nil)) (.node t197 (.nil) (.nil))) (.node t101 (.node t165 (.nil) (.nil)) (.nil))) (.node t53 (.node t85 (.node t149 (.nil) (.nil)) (.node t213 (.nil) (.nil))) (.node t117 (.node t181 (.nil) (.nil)) (.nil)))) (.node t29 (.node t45 (.node t77 (.node t141 (.nil) (.nil)) (.node t205 (.nil) (.nil))) (.node t109 (.node t173 (.nil) (.nil)) (.nil))) (.node t61 (.node t93 (.node t157 (.nil) (.nil)) (.node t221 (.nil) (.nil))) (.node t125 (.node t189 (.nil) (.nil)) (.nil))))))) (.node t2 (.node t4 (.node t8 (.node t16 (.node t32 (.node t64 (.node t128 (.nil) (.nil)) (.node t192 (.nil) (.nil))) (.node t96 (.node t160 (.nil) (.nil)) (.node t224 (.nil) (.nil)))) (.node t48 (.node t80 (.node t144 (.nil) (.nil)) (.node t208 (.nil) (.nil))) (.node t112 (.node t176 (.nil) (.nil)) (.nil)))) (.node t24 (.node t40 (.node t72 (.node t136 (.nil) (.nil)) (.node t200 (.nil) (.nil))) (.node t104 (.node t168 (.nil) (.nil)) (.nil))) (.node t56 (.node t88 (.node t152 (.nil) (.nil)) (.node t216 (.nil) (.nil))) (.node t120 (.node t184 (.nil) (.nil)) (.nil))))) (.node t12 (.node t20 (.node t36 (.node t68 (.node t132 (.nil) (.nil)) (.node t196 (.nil) (.nil))) (.node t100 (.node t164 (.nil) (.nil)) (.node t228 (.nil) (.nil)))) (.node t52 (.node t84 (.node t148 (.nil) (.nil)) (.node t212 (.nil) (.nil))) (.node t116 (.node t180 (.nil) (.nil)) (.nil)))) (.node t28 (.node t44 (.node t76 (.node t140 (.nil) (.nil)) (.node t204 (.nil) (.nil))) (.node t108 (.node t172 (.nil) (.nil)) (.nil))) (.node t60 (.node t92 (.node t156 (.nil) (.nil)) (.node t220 (.nil) (.nil))) (.node t124 (.node t188 (.nil) (.nil)) (.nil)))))) (.node t6 (.node t10 (.node t18 (.node t34 (.node t66 (.node t130 (.nil) (.nil)) (.node t194 (.nil) (.nil))) (.node t98 (.node t162 (.nil) (.nil)) (.node t226 (.nil) (.nil)))) (.node t50 (.node t82 (.node t146 (.nil) (.nil)) (.node t210 (.nil) (.nil))) (.node t114 (.node t178 (.nil) (.nil)) (.nil)))) (.node t26 (.node t42 (.node t74 (.node t138 (.nil) (.nil)) (.node t202 (.nil) (.nil))) (.node t106 (.node t170 (.nil) (.nil)) (.nil))) (.node t58 (.node t90 (.node t154 (.nil) (.nil)) (.node t218 (.nil) (.nil))) (.node t122 (.node t186 (.nil) (.nil)) (.nil))))) (.node t14 (.node t22 (.node t38 (.node t70 (.node t134 (.nil) (.nil)) (.node t198 (.nil) (.nil))) (.node t102 (.node t166 (.nil) (.nil)) (.nil))) (.node t54 (.node t86 (.node t150 (.nil) (.nil)) (.node t214 (.nil) (.nil))) (.node t118 (.node t182 (.nil) (.nil)) (.nil)))) (.node t30 (.node t46 (.node t78 (.node t142 (.nil) (.nil)) (.node t206 (.nil) (.nil))) (.node t110 (.node t174 (.nil) (.nil)) (.nil))) (.node t62 (.node t94 (.node t158 (.nil) (.nil)) (.node t222 (.nil) (.nil))) (.node t126 (.node t190 (.nil) (.nil)) (.nil)))))))
theorem seatF_run:putL prog.funcs.toList 0 .nil (fun F => F = seatF) :=Eq.mpr (by kernel_rfl:putL prog.funcs.toList 0 .nil (fun F => F = seatF) = (seatF = seatF)) rfl
theorem seatT_run:putL prog.types.toList 0 .nil (fun T => T = seatT) :=Eq.mpr (by kernel_rfl:putL prog.types.toList 0 .nil (fun T => T = seatT) = (seatT = seatT)) rfl
noncomputable def E (q:EqT) (pc:PcT):Env :=⟨prog,seatT,seatF,⟨X,q,fun _ _ => false⟩,true,fun _ => false,[],pc⟩
noncomputable def EM (mu:Option Tmp → TypeId → Bool) (q:EqT) (pc:PcT):Env :=⟨prog,seatT,seatF,⟨X,q,mu⟩,true,fun _ => false,[],pc⟩
theorem seatT_ok:TOK prog seatT :=by
 obtain ⟨T,h1,h2⟩ :=putL_ok _ _ _ _ seatT_run
 subst h1
 intro t i hi
 have hi:seatT.get t = some i :=hi
 rw [h2] at hi
 split at hi
 ·rename_i hlt
  have hlt':t < prog.types.size :=by simpa using hlt.2
  have hi':prog.types[t]? = some i :=by simpa using hi
  show prog.toTables.info? t = some i
  unfold Tables.info?
  rw [if_pos hlt']
  exact hi'
 ·simp at hi
noncomputable abbrev q0:EqT :=eqvOf prog seatT
theorem hEM (mu:Option Tmp → TypeId → Bool):(EM mu q0 (symPc prog)).Ok :=by
 obtain ⟨F,h3,h4⟩ :=putL_ok _ _ _ _ seatF_run
 subst h3
 refine ⟨seatT_ok,?_,⟨xok,eqvOf_ok seatT_ok⟩,mixed_ok,(fun _ h => by cases h),fun _ _ _ _ _ _ h => h⟩
 intro f fn hf
 have hf:seatF.get f = some fn :=hf
 rw [h4] at hf
 split at hf
 ·have hf':prog.funcs.toList[f]? = some fn :=by simpa using hf
  refine ⟨(by simpa using hf':prog.funcs[f]? = some fn),?_⟩
  have :=List.all_eq_true.1 names_ok fn (List.mem_of_getElem? hf')
  simpa using this
 ·simp at hf
theorem hE:(E q0 (symPc prog)).Ok :=hEM _
end
end Go.Abs.Seat
namespace Go.Abs.Seat
open Go Go.Abs Go.Proofs.Tryz
set_option maxRecDepth 100000
set_option maxHeartbeats 4000000
attribute [local irreducible] IntKind.wrap pEq
abbrev iv (n:Int):AV :=.int .i64 n
abbrev nv (n:Nat):AV :=.int .i64 (Int.ofNat n)
abbrev fv (a b:Int):AV :=.agg [iv a,iv b]
theorem ltN (a b:Nat):decide (Int.ofNat a < Int.ofNat b) = true ↔ a < b :=by
 rw [decide_eq_true_eq]
 show (a:Int) < (b:Int) ↔ _
 omega
theorem qep (x a b:Int):Pure prog 46 [iv x,iv a,iv b] (.bool (decide (a ≤ x ∧ x ≤ b))) :=by
 refine qbg hE rfl ⟨trivial,trivial,trivial,trivial⟩ trivial fun S q pc hS hq hC hE => ?_
 conv => whnf
 by_cases h:a ≤ x
 ·rw [show decide (x ≥ a) = true from decide_eq_true h]
  conv => whnf
  refine ⟨_,rfl,?_⟩
  rw [show decide (a ≤ x ∧ x ≤ b) = decide (x ≤ b) by simp [h]]
  exact Wk.refl _
 ·rw [show decide (x ≥ a) = false from decide_eq_false h]
  conv => whnf
  refine ⟨_,rfl,?_⟩
  rw [show decide (a ≤ x ∧ x ≤ b) = false by simp [h]]
  exact Wk.refl _
theorem qf5 (x a b:Int):Pure prog 36 [iv x,iv a,iv b] (.bool (decide (a ≤ x ∧ x ≤ b))) :=by
 refine qbg hE rfl ⟨trivial,trivial,trivial,trivial⟩ trivial fun S q pc hS hq hC hE => ?_
 conv => whnf
 by_cases h:a ≤ x
 ·rw [show decide (x ≥ a) = true from decide_eq_true h]
  conv => whnf
  refine ⟨_,rfl,?_⟩
  rw [show decide (a ≤ x ∧ x ≤ b) = decide (x ≤ b) by simp [h]]
  exact Wk.refl _
 ·rw [show decide (x ≥ a) = false from decide_eq_false h]
  conv => whnf
  refine ⟨_,rfl,?_⟩
  rw [show decide (a ≤ x ∧ x ≤ b) = false by simp [h]]
  exact Wk.refl _



theorem qbk {a b:Nat} (h:a < b):decide (Int.ofNat a < Int.ofNat b) = true :=(ltN _ _).2 h
theorem qb9 {a b:Nat} (h:¬ a < b):decide (Int.ofNat a < Int.ofNat b) = false :=Bool.eq_false_iff.2 fun e => h ((ltN _ _).1 e)


theorem wkb {b b':Bool} (h:b = b'):Wk (.bool b) (.bool b') :=by subst h;exact Wk.refl _


abbrev tth (a:Int):Prop :=4 ≤ a ∧ a ≤ 60
theorem qdl (a:Int):Pure prog 77 [iv a] (.bool (decide (tth a))) :=by
 refine qbg hE rfl ⟨trivial,trivial⟩ trivial fun S q pc hS hq hC hE => ?_
 conv => whnf
 refine qav hC (qep a 4 60) ?_
 conv => whnf
 exact ⟨_,rfl,Wk.refl _⟩
theorem qc2 (a:Int):Pure prog 35 [iv a] (.bool (decide (tth a))) :=by
 refine qbg hE rfl ⟨trivial,trivial⟩ trivial fun S q pc hS hq hC hE => ?_
 conv => whnf
 refine qav hC (qf5 a 4 60) ?_
 conv => whnf
 exact ⟨_,rfl,Wk.refl _⟩
theorem qgc (a b:Int):Pure prog 105 [fv a b] (.bool (!(decide (tth a ∧ tth b)))) :=by
 refine qbg hE rfl ⟨⟨trivial,trivial,trivial⟩,trivial⟩ trivial fun S q pc hS hq hC hE => ?_
 conv => whnf
 refine qav hC (qdl a) ?_
 by_cases h:tth a
 ·rw [decide_eq_true h]
  conv => whnf
  refine qav hC (qdl b) ?_
  by_cases h2:tth b
  ·rw [decide_eq_true h2]
   conv => whnf
   exact ⟨_,rfl,wkb (by rw [decide_eq_true (show tth a ∧ tth b from ⟨h,h2⟩)])⟩
  ·rw [decide_eq_false h2]
   conv => whnf
   exact ⟨_,rfl,wkb (by rw [decide_eq_false (fun k:tth a ∧ tth b => h2 k.2)])⟩
 ·rw [decide_eq_false h]
  conv => whnf
  exact ⟨_,rfl,wkb (by rw [decide_eq_false (fun k:tth a ∧ tth b => h k.1)];rfl)⟩
end Go.Abs.Seat
