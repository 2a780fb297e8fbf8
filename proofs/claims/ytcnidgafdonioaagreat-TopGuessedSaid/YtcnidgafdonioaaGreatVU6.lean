/-
  The seat's program: what its closed runs need.
-/
import Derived.Test.YtcnidgafdonioaaGreatVU4
import Derived.KernelRfl
import Derived.Test.YtcnidgafdonioaaGreatProg
/-! The seat's program: what its closed runs need. -/
namespace Go.Abs.Seat
open Go Go.Abs Go.Proofs.Tryz
set_option maxRecDepth 100000
noncomputable section
def X (_:FuncId):Option ExtK :=Option.none
theorem xok:EOK prog X :=fun _ _ h => by cases h
theorem names_ok:(prog.funcs.toList.all fun fn => !(fn.name == "runtime.NumGoroutine")) = true :=by kernel_rfl
theorem mixed_ok:prog.follows .mixedOrders = true :=by kernel_rfl
def pu (f:FuncId):Bool :=([17,18,50,73,74,75,76,77,78,79,80,83,84,87,90,128,131,132,133,134,147,148,149,150,172,178,185,196]:List Nat).any (Nat.beq f)
def Goal (M:Memo) (f:FuncId) (args:List AV) (v:AV):Prop :=mkEnv prog X false pu M fun E => runV E 1000000 200 f args v
attribute [irreducible] Goal
theorem Goal.pure {M:Memo} {f:FuncId} {args:List AV} {v:AV} (h:Goal M f args v) (hM:MOK prog M) (ha:norefs args = true) (hv:noref v = true):Pure prog f args v :=by
 unfold Goal at h
 exact pure_run h names_ok xok mixed_ok hM ha hv
theorem MOK.nil:MOK prog [] :=fun _ h => by cases h
theorem MOK.cons {f:FuncId} {args:List AV} {v:AV} {M:Memo} (h:Pure prog f args v) (hM:MOK prog M):MOK prog ((f,args,v) :: M) :=fun e he => by
 rcases List.mem_cons.1 he with e1 | e1
 ·subst e1;exact h
 ·exact hM e e1
def i64 (n:Int):AV :=.int .i64 n
def fr (a b:Int):AV :=.agg [i64 a,i64 b]
def ints (own:Own) (l:List Int):AV :=.lst (l.map i64) l.length own
def rows (own:Own) (l:List Int) (n:Nat):AV :=.lst (l.map i64) n own
def aR:AV :=.agg [i64 6,i64 12,i64 2,i64 1,ints .full [7]]
def aP:AV :=.agg [rows .full [0,10,20,1,12,18,1,15,10] 3,ints .full [2,3]]
def aS:AV :=.agg [.lst [i64 360,i64 1,i64 0,ints .full [0],i64 27,i64 1,i64 0,ints .full [0,300,0,-300]] 2 .full,i64 6000,i64 1,i64 1000]
end
end Go.Abs.Seat

namespace Go.Abs.Seat
open Go Go.Abs Go.Proofs.Tryz
set_option maxRecDepth 100000
noncomputable section
noncomputable def seatF:Tr Func :=.node f0 (.node f1 (.node f3 (.node f7 (.node f15 (.node f31 (.node f63 (.node f127 (.nil) (.nil)) (.node f191 (.nil) (.nil))) (.node f95 (.node f159 (.nil) (.nil)) (.nil))) (.node f47 (.node f79 (.node f143 (.nil) (.nil)) (.node f207 (.nil) (.nil))) (.node f111 (.node f175 (.nil) (.nil)) (.nil)))) (.node f23 (.node f39 (.node f71 (.node f135 (.nil) (.nil)) (.node f199 (.nil) (.nil))) (.node f103 (.node f167 (.nil) (.nil)) (.nil))) (.node f55 (.node f87 (.node f151 (.nil) (.nil)) (.node f215 (.nil) (.nil))) (.node f119 (.node f183 (.nil) (.nil)) (.nil))))) (.node f11 (.node f19 (.node f35 (.node f67 (.node f131 (.nil) (.nil)) (.node f195 (.nil) (.nil))) (.node f99 (.node f163 (.nil) (.nil)) (.nil))) (.node f51 (.node f83 (.node f147 (.nil) (.nil)) (.node f211 (.nil) (.nil))) (.node f115 (.node f179 (.nil) (.nil)) (.nil)))) (.node f27 (.node f43 (.node f75 (.node f139 (.nil) (.nil)) (.node f203 (.nil) (.nil))) (.node f107 (.node f171 (.nil) (.nil)) (.nil))) (.node f59 (.node f91 (.node f155 (.nil) (.nil)) (.node f219 (.nil) (.nil))) (.node f123 (.node f187 (.nil) (.nil)) (.nil)))))) (.node f5 (.node f9 (.node f17 (.node f33 (.node f65 (.node f129 (.nil) (.nil)) (.node f193 (.nil) (.nil))) (.node f97 (.node f161 (.nil) (.nil)) (.nil))) (.node f49 (.node f81 (.node f145 (.nil) (.nil)) (.node f209 (.nil) (.nil))) (.node f113 (.node f177 (.nil) (.nil)) (.nil)))) (.node f25 (.node f41 (.node f73 (.node f137 (.nil) (.nil)) (.node f201 (.nil) (.nil))) (.node f105 (.node f169 (.nil) (.nil)) (.nil))) (.node f57 (.node f89 (.node f153 (.nil) (.nil)) (.node f217 (.nil) (.nil))) (.node f121 (.node f185 (.nil) (.nil)) (.nil))))) (.node f13 (.node f21 (.node f37 (.node f69 (.node f133 (.nil) (.nil)) (.node f197 (.nil) (.nil))) (.node f101 (.node f165 (.nil) (.nil)) (.nil))) (.node f53 (.node f85 (.node f149 (.nil) (.nil)) (.node f213 (.nil) (.nil))) (.node f117 (.node f181 (.nil) (.nil)) (.nil)))) (.node f29 (.node f45 (.node f77 (.node f141 (.nil) (.nil)) (.node f205 (.nil) (.nil))) (.node f109 (.node f173 (.nil) (.nil)) (.nil))) (.node f61 (.node f93 (.node f157 (.nil) (.nil)) (.nil)) (.node f125 (.node f189 (.nil) (.nil)) (.nil))))))) (.node f2 (.node f4 (.node f8 (.node f16 (.node f32 (.node f64 (.node f128 (.nil) (.nil)) (.node f192 (.nil) (.nil))) (.node f96 (.node f160 (.nil) (.nil)) (.nil))) (.node f48 (.node f80 (.node f144 (.nil) (.nil)) (.node f208 (.nil) (.nil))) (.node f112 (.node f176 (.nil) (.nil)) (.nil)))) (.node f24 (.node f40 (.node f72 (.node f136 (.nil) (.nil)) (.node f200 (.nil) (.nil))) (.node f104 (.node f168 (.nil) (.nil)) (.nil))) (.node f56 (.node f88 (.node f152 (.nil) (.nil)) (.node f216 (.nil) (.nil))) (.node f120 (.node f184 (.nil) (.nil)) (.nil))))) (.node f12 (.node f20 (.node f36 (.node f68 (.node f132 (.nil) (.nil)) (.node f196 (.nil) (.nil))) (.node f100 (.node f164 (.nil) (.nil)) (.nil))) (.node f52 (.node f84 (.node f148 (.nil) (.nil)) (.node f212 (.nil) (.nil))) (.node f116 (.node f180 (.nil) (.nil)) (.nil)))) (.node f28 (.node f44 (.node f76 (.node f140 (.nil) (.nil)) (.node f204 (.nil) (.nil))) (.node f108 (.node f172 (.nil) (.nil)) (.nil))) (.node f60 (.node f92 (.node f156 (.nil) (.nil)) (.node f220 (.nil) (.nil))) (.node f124 (.node f188 (.nil) (.nil)) (.nil)))))) (.node f6 (.node f10 (.node f18 (.node f34 (.node f66 (.node f130 (.nil) (.nil)) (.node f194 (.nil) (.nil))) (.node f98 (.node f162 (.nil) (.nil)) (.nil))) (.node f50 (.node f82 (.node f146 (.nil) (.nil)) (.node f210 (.nil) (.nil))) (.node f114 (.node f178 (.nil) (.nil)) (.nil)))) (.node f26 (.node f42 (.node f74 (.node f138 (.nil) (.nil)) (.node f202 (.nil) (.nil))) (.node f106 (.node f170 (.nil) (.nil)) (.nil))) (.node f58 (.node f90 (.node f154 (.nil) (.nil)) (.node f218 (.nil) (.nil))) (.node f122 (.node f186 (.nil) (.nil)) (.nil))))) (.node f14 (.node f22 (.node f38 (.node f70 (.node f134 (.nil) (.nil)) (.node f198 (.nil) (.nil))) (.node f102 (.node f166 (.nil) (.nil)) (.nil))) (.node f54 (.node f86 (.node f150 (.nil) (.nil)) (.node f214 (.nil) (.nil))) (.node f118 (.node f182 (.nil) (.nil)) (.nil)))) (.node f30 (.node f46 (.node f78 (.node f142 (.nil) (.nil)) (.node f206 (.nil) (.nil))) (.node f110 (.node f174 (.nil) (.nil)) (.nil))) (.node f62 (.node f94 (.node f158 (.nil) (.nil)) (.nil)) (.node f126 (.node f190 (.nil) (.nil)) (.nil)))))))
noncomputable def seatT:Tr TypeInfo :=.node t0 (.node t1 (.node t3 (.node t7 (.node t15 (.node t31 (.node t63 (.node t127 (.node t255 (.nil) (.nil)) (.nil)) (.node t191 (.nil) (.nil))) (.node t95 (.node t159 (.nil) (.nil)) (.node t223 (.nil) (.nil)))) (.node t47 (.node t79 (.node t143 (.nil) (.nil)) (.node t207 (.nil) (.nil))) (.node t111 (.node t175 (.nil) (.nil)) (.node t239 (.nil) (.nil))))) (.node t23 (.node t39 (.node t71 (.node t135 (.nil) (.nil)) (.node t199 (.nil) (.nil))) (.node t103 (.node t167 (.nil) (.nil)) (.node t231 (.nil) (.nil)))) (.node t55 (.node t87 (.node t151 (.nil) (.nil)) (.node t215 (.nil) (.nil))) (.node t119 (.node t183 (.nil) (.nil)) (.node t247 (.nil) (.nil)))))) (.node t11 (.node t19 (.node t35 (.node t67 (.node t131 (.node t259 (.nil) (.nil)) (.nil)) (.node t195 (.nil) (.nil))) (.node t99 (.node t163 (.nil) (.nil)) (.node t227 (.nil) (.nil)))) (.node t51 (.node t83 (.node t147 (.nil) (.nil)) (.node t211 (.nil) (.nil))) (.node t115 (.node t179 (.nil) (.nil)) (.node t243 (.nil) (.nil))))) (.node t27 (.node t43 (.node t75 (.node t139 (.nil) (.nil)) (.node t203 (.nil) (.nil))) (.node t107 (.node t171 (.nil) (.nil)) (.node t235 (.nil) (.nil)))) (.node t59 (.node t91 (.node t155 (.nil) (.nil)) (.node t219 (.nil) (.nil))) (.node t123 (.node t187 (.nil) (.nil)) (.node t251 (.nil) (.nil))))))) (.node t5 (.node t9 (.node t17 (.node t33 (.node t65 (.node t129 (.node t257 (.nil) (.nil)) (.nil)) (.node t193 (.nil) (.nil))) (.node t97 (.node t161 (.nil) (.nil)) (.node t225 (.nil) (.nil)))) (.node t49 (.node t81 (.node t145 (.nil) (.nil)) (.node t209 (.nil) (.nil))) (.node t113 (.node t177 (.nil) (.nil)) (.node t241 (.nil) (.nil))))) (.node t25 (.node t41 (.node t73 (.node t137 (.nil) (.nil)) (.node t201 (.nil) (.nil))) (.node t105 (.node t169 (.nil) (.nil)) (.node t233 (.nil) (.nil)))) (.node t57 (.node t89 (.node t153 (.nil) (.nil)) (.node t217 (.nil) (.nil))) (.node t121 (.node t185 (.nil) (.nil)) (.node t249 (.nil) (.nil)))))) (.node t13 (.node t21 (.node t37 (.node t69 (.node t133 (.nil) (.nil)) (.node t197 (.nil) (.nil))) (.node t101 (.node t165 (.nil) (.nil)) (.node t229 (.nil) (.nil)))) (.node t53 (.node t85 (.node t149 (.nil) (.nil)) (.node t213 (.nil) (.nil))) (.node t117 (.node t181 (.nil) (.nil)) (.node t245 (.nil) (.nil))))) (.node t29 (.node t45 (.node t77 (.node t141 (.nil) (.nil)) (.node t205 (.nil) (.nil))) (.node t109 (.node t173 (.nil) (.nil)) (.node t237 (.nil) (.nil)))) (.node t61 (.node t93 (.node t157 (.nil) (.nil)) (.node t221 (.nil) (.nil))) (.node t125 (.node t189 (.nil) (.nil)) (.node t253 (.nil) (.nil)))))))) (.node t2 (.node t4 (.node t8 (.node t16 (.node t32 (.node t64 (.node t128 (.node t256 (.nil) (.nil)) (.nil)) (.node t192 (.nil) (.nil))) (.node t96 (.node t160 (.nil) (.nil)) (.node t224 (.nil) (.nil)))) (.node t48 (.node t80 (.node t144 (.nil) (.nil)) (.node t208 (.nil) (.nil))) (.node t112 (.node t176 (.nil) (.nil)) (.node t240 (.nil) (.nil))))) (.node t24 (.node t40 (.node t72 (.node t136 (.nil) (.nil)) (.node t200 (.nil) (.nil))) (.node t104 (.node t168 (.nil) (.nil)) (.node t232 (.nil) (.nil)))) (.node t56 (.node t88 (.node t152 (.nil) (.nil)) (.node t216 (.nil) (.nil))) (.node t120 (.node t184 (.nil) (.nil)) (.node t248 (.nil) (.nil)))))) (.node t12 (.node t20 (.node t36 (.node t68 (.node t132 (.node t260 (.nil) (.nil)) (.nil)) (.node t196 (.nil) (.nil))) (.node t100 (.node t164 (.nil) (.nil)) (.node t228 (.nil) (.nil)))) (.node t52 (.node t84 (.node t148 (.nil) (.nil)) (.node t212 (.nil) (.nil))) (.node t116 (.node t180 (.nil) (.nil)) (.node t244 (.nil) (.nil))))) (.node t28 (.node t44 (.node t76 (.node t140 (.nil) (.nil)) (.node t204 (.nil) (.nil))) (.node t108 (.node t172 (.nil) (.nil)) (.node t236 (.nil) (.nil)))) (.node t60 (.node t92 (.node t156 (.nil) (.nil)) (.node t220 (.nil) (.nil))) (.node t124 (.node t188 (.nil) (.nil)) (.node t252 (.nil) (.nil))))))) (.node t6 (.node t10 (.node t18 (.node t34 (.node t66 (.node t130 (.node t258 (.nil) (.nil)) (.nil)) (.node t194 (.nil) (.nil))) (.node t98 (.node t162 (.nil) (.nil)) (.node t226 (.nil) (.nil)))) (.node t50 (.node t82 (.node t146 (.nil) (.nil)) (.node t210 (.nil) (.nil))) (.node t114 (.node t178 (.nil) (.nil)) (.node t242 (.nil) (.nil))))) (.node t26 (.node t42 (.node t74 (.node t138 (.nil) (.nil)) (.node t202 (.nil) (.nil))) (.node t106 (.node t170 (.nil) (.nil)) (.node t234 (.nil) (.nil)))) (.node t58 (.node t90 (.node t154 (.nil) (.nil)) (.node t218 (.nil) (.nil))) (.node t122 (.node t186 (.nil) (.nil)) (.node t250 (.nil) (.nil)))))) (.node t14 (.node t22 (.node t38 (.node t70 (.node t134 (.nil) (.nil)) (.node t198 (.nil) (.nil))) (.node t102 (.node t166 (.nil) (.nil)) (.node t230 (.nil) (.nil)))) (.node t54 (.node t86 (.node t150 (.nil) (.nil)) (.node t214 (.nil) (.nil))) (.node t118 (.node t182 (.nil) (.nil)) (.node t246 (.nil) (.nil))))) (.node t30 (.node t46 (.node t78 (.node t142 (.nil) (.nil)) (.node t206 (.nil) (.nil))) (.node t110 (.node t174 (.nil) (.nil)) (.node t238 (.nil) (.nil)))) (.node t62 (.node t94 (.node t158 (.nil) (.nil)) (.node t222 (.nil) (.nil))) (.node t126 (.node t190 (.nil) (.nil)) (.node t254 (.nil) (.nil))))))))
theorem seatF_run:putL prog.funcs.toList 0 .nil (fun F => F = seatF) :=Eq.mpr (by kernel_rfl:putL prog.funcs.toList 0 .nil (fun F => F = seatF) = (seatF = seatF)) rfl
theorem seatT_run:putL prog.types.toList 0 .nil (fun T => T = seatT) :=Eq.mpr (by kernel_rfl:putL prog.types.toList 0 .nil (fun T => T = seatT) = (seatT = seatT)) rfl
noncomputable def E (q:EqT) (pc:PcT):Env :=⟨prog,seatT,seatF,⟨X,q,fun _ _ => false⟩,true,fun _ => false,[],pc⟩
noncomputable def EM (mu:Option Tmp → TypeId → Bool) (q:EqT) (pc:PcT):Env :=⟨prog,seatT,seatF,⟨X,q,mu⟩,true,fun _ => false,[],pc⟩
theorem seatT_ok:TOK prog seatT :=by
 obtain ⟨T,h1,h2⟩ :=putL_ok _ _ _ _ seatT_run
 subst h1
 intro t i hi
 have hi:seatT.get t = some i :=hi
 rw [h2] at hi
 split at hi
 ·rename_i hlt
  have hlt':t < prog.types.size :=by simpa using hlt.2
  have hi':prog.types[t]? = some i :=by simpa using hi
  show prog.toTables.info? t = some i
  unfold Tables.info?
  rw [if_pos hlt']
  exact hi'
 ·simp at hi
noncomputable abbrev q0:EqT :=eqvOf prog seatT
theorem hEM (mu:Option Tmp → TypeId → Bool):(EM mu q0 (symPc prog)).Ok :=by
 obtain ⟨F,h3,h4⟩ :=putL_ok _ _ _ _ seatF_run
 subst h3
 refine ⟨seatT_ok,?_,⟨xok,eqvOf_ok seatT_ok⟩,mixed_ok,(fun _ h => by cases h),fun _ _ _ _ _ _ h => h⟩
 intro f fn hf
 have hf:seatF.get f = some fn :=hf
 rw [h4] at hf
 split at hf
 ·have hf':prog.funcs.toList[f]? = some fn :=by simpa using hf
  refine ⟨(by simpa using hf':prog.funcs[f]? = some fn),?_⟩
  have :=List.all_eq_true.1 names_ok fn (List.mem_of_getElem? hf')
  simpa using this
 ·simp at hf
theorem hE:(E q0 (symPc prog)).Ok :=hEM _
end
end Go.Abs.Seat
namespace Go.Abs.Seat
open Go Go.Abs Go.Proofs.Tryz
set_option maxRecDepth 100000
set_option maxHeartbeats 4000000
attribute [local irreducible] IntKind.wrap pEq
abbrev iv (n:Int):AV :=.int .i64 n
abbrev nv (n:Nat):AV :=.int .i64 (Int.ofNat n)
abbrev fv (a b:Int):AV :=.agg [iv a,iv b]
theorem ltN (a b:Nat):decide (Int.ofNat a < Int.ofNat b) = true ↔ a < b :=by
 rw [decide_eq_true_eq]
 show (a:Int) < (b:Int) ↔ _
 omega
theorem ne0 {d:Nat} (h:1 ≤ d):(!(Int.ofNat d == 0)) = true :=by
 have:(Int.ofNat d == 0) = false :=beq_eq_false_iff_ne.2 (by show (d:Int) ≠ 0;omega)
 rw [this];rfl
theorem in_pure (x a b:Int):Pure prog 128 [iv x,iv a,iv b] (.bool (decide (a ≤ x ∧ x ≤ b))) :=by
 refine pure_sym hE rfl ⟨trivial,trivial,trivial,trivial⟩ trivial fun S q pc hS hq hC hE => ?_
 conv => whnf
 by_cases h:a ≤ x
 ·rw [show decide (x ≥ a) = true from decide_eq_true h]
  conv => whnf
  refine ⟨_,rfl,?_⟩
  rw [show decide (a ≤ x ∧ x ≤ b) = decide (x ≤ b) by simp [h]]
  exact Wk.refl _
 ·rw [show decide (x ≥ a) = false from decide_eq_false h]
  conv => whnf
  refine ⟨_,rfl,?_⟩
  rw [show decide (a ≤ x ∧ x ≤ b) = false by simp [h]]
  exact Wk.refl _
theorem rin_pure (x a b:Int):Pure prog 50 [iv x,iv a,iv b] (.bool (decide (a ≤ x ∧ x ≤ b))) :=by
 refine pure_sym hE rfl ⟨trivial,trivial,trivial,trivial⟩ trivial fun S q pc hS hq hC hE => ?_
 conv => whnf
 by_cases h:a ≤ x
 ·rw [show decide (x ≥ a) = true from decide_eq_true h]
  conv => whnf
  refine ⟨_,rfl,?_⟩
  rw [show decide (a ≤ x ∧ x ≤ b) = decide (x ≤ b) by simp [h]]
  exact Wk.refl _
 ·rw [show decide (x ≥ a) = false from decide_eq_false h]
  conv => whnf
  refine ⟨_,rfl,?_⟩
  rw [show decide (a ≤ x ∧ x ≤ b) = false by simp [h]]
  exact Wk.refl _
def isF (a b:Int):Prop :=(0 ≤ a ∧ a ≤ 50000) ∧ 1 ≤ b ∧ b ≤ 50000
instance (a b:Int):Decidable (isF a b) :=by unfold isF;exact inferInstance
theorem rFraction_pure (a b:Int):Pure prog 18 [fv a b] (.bool (decide (isF a b))) :=by
 refine pure_sym hE rfl ⟨⟨trivial,trivial,trivial⟩,trivial⟩ trivial fun S q pc hS hq hC hE => ?_
 conv => whnf
 refine sym_pure hC (rin_pure a 0 50000) ?_
 by_cases h:0 ≤ a ∧ a ≤ 50000
 ·rw [decide_eq_true h]
  conv => whnf
  refine sym_pure hC (rin_pure b 1 50000) ?_
  conv => whnf
  refine ⟨_,rfl,?_⟩
  rw [show decide (isF a b) = decide (1 ≤ b ∧ b ≤ 50000) by simp [isF,h]]
  exact Wk.refl _
 ·rw [decide_eq_false h]
  conv => whnf
  refine ⟨_,rfl,?_⟩
  rw [show decide (isF a b) = false from decide_eq_false (fun e:isF a b => h e.1)]
  exact Wk.refl _


theorem mulN {a b:Nat} (h:a * b < 9223372036854775808):IntKind.i64.wrap (Int.ofNat a * Int.ofNat b) = Int.ofNat (a * b) :=wrapN (m :=a * b) h
theorem quoN {a b:Nat} (h:a < 9223372036854775808):IntKind.i64.wrap ((Int.ofNat a).tdiv (Int.ofNat b)) = Int.ofNat (a / b) :=wrapN (m :=a / b) (Nat.lt_of_le_of_lt (Nat.div_le_self _ _) h)
theorem rBelow_pure (a b c d:Nat) (h1:a * d < 4611686018427387904) (h2:c * b < 4611686018427387904) :
  Pure prog 17 [fv (Int.ofNat a) (Int.ofNat b),fv (Int.ofNat c) (Int.ofNat d)] (.bool (decide (a * d < c * b))) :=by
 refine pure_sym hE rfl ⟨⟨trivial,trivial,trivial⟩,⟨trivial,trivial,trivial⟩,trivial⟩ trivial fun S q pc hS hq hC hE => ?_
 conv => whnf
 refine ⟨_,rfl,?_⟩
 rw [mulN (a :=a) (b :=d) (by omega),mulN (a :=c) (b :=b) (by omega),show decide (a * d < c * b) = decide (Int.ofNat (a * d) < Int.ofNat (c * b)) from by rw [Bool.eq_iff_iff,ltN,decide_eq_true_eq]]
 exact Wk.refl _
theorem ltN_t {a b:Nat} (h:a < b):decide (Int.ofNat a < Int.ofNat b) = true :=(ltN _ _).2 h
theorem ltN_f {a b:Nat} (h:¬ a < b):decide (Int.ofNat a < Int.ofNat b) = false :=Bool.eq_false_iff.2 fun e => h ((ltN _ _).1 e)

theorem pos0 (a:Nat):decide (Int.ofNat a > 0) = true ↔ 0 < a :=by
 rw [decide_eq_true_eq]
 show (0:Int) < (a:Int) ↔ _
 omega
theorem gcd_pure (a b:Nat) (ha:a < 9223372036854775808) (hb:b < 9223372036854775808) :
  Pure prog 172 [nv a,nv b] (nv (Nat.gcd a b)) :=by
 refine pure_sym hE rfl ⟨trivial,trivial,trivial⟩ trivial fun S q pc hS hq hC hE => ?_
 conv => whnf
 refine sym_loop hE hS (A :=Nat × Nat) [4] (fun (x,y) => [(0,nv x),(1,nv y)]) (fun _ => []) (fun p => Nat.gcd p.1 p.2 = Nat.gcd a b ∧ p.1 < 9223372036854775808 ∧ p.2 < 9223372036854775808) (fun p => p.2) (a,b) rfl rfl
  ⟨rfl,rfl,rfl,rfl,by repeat' (first | exact trivial | exact rfl | exact Nat.zero_le _ | exact Nat.le_of_ble_eq_true rfl | apply And.intro),
   by repeat' (first | exact trivial | exact rfl | exact Nat.zero_le _ | exact Nat.le_of_ble_eq_true rfl | apply And.intro)⟩ ⟨rfl,ha,hb⟩ ?_
 rintro ⟨x,y⟩ ⟨hg,hx,hy⟩
 simp only at hg hx hy
 conv => whnf
 refine bool_if (p :=0 < y) (pos0 _) (fun hp => ?_) (fun hp => ?_)
 ·conv => whnf
  refine bool_true (ne0 hp) ?_
  conv => whnf
  refine sym_drawn hS (by kernel_rfl) ?_
  conv => whnf
  refine ⟨(y,x % y),⟨by rw [← hg];show Nat.gcd y (x % y) = Nat.gcd x y;rw [Nat.gcd_comm x y,Nat.gcd_rec y x,Nat.gcd_comm],hy,Nat.lt_trans (Nat.mod_lt _ hp) hy⟩,Nat.mod_lt _ hp,⟨rfl,rfl,rfl,rfl,by repeat' (first | exact trivial | exact rfl | exact Nat.zero_le _ | exact Nat.le_of_ble_eq_true rfl | apply And.intro),?_⟩⟩
  repeat' (first | exact trivial | exact rfl | exact Nat.zero_le _ | exact Nat.le_of_ble_eq_true rfl | apply And.intro)
 ·conv => whnf
  have hy0:y = 0 :=by omega
  subst hy0
  rw [Nat.gcd_zero_right] at hg
  subst hg
  exact ⟨_,rfl,Wk.refl _⟩
theorem wkb {b b':Bool} (h:b = b'):Wk (.bool b) (.bool b') :=by subst h;exact Wk.refl _
theorem gcd_pos_r {a b:Nat} (h:1 ≤ b):1 ≤ Nat.gcd a b :=Nat.gcd_pos_of_pos_right a h

theorem red_gcd {n d:Nat} (hd:1 ≤ d):Nat.gcd (n / Nat.gcd n d) (d / Nat.gcd n d) = 1 ∧ 1 ≤ d / Nat.gcd n d :=by
 have hg:1 ≤ Nat.gcd n d :=gcd_pos_r hd
 refine ⟨by rw [Nat.gcd_div (Nat.gcd_dvd_left n d) (Nat.gcd_dvd_right n d)];exact Nat.div_self (by omega),?_⟩
 exact Nat.div_pos (Nat.le_of_dvd (by omega) (Nat.gcd_dvd_right n d)) (by omega)
theorem eqBool (cst b c:Bool):q0 4 cst (.bool b) (.bool c) = some (b == c) :=by kernel_rfl
theorem eqBool_same (cst b:Bool):q0 4 cst (.bool b) (.bool b) = some true :=by rw [eqBool,beq_self_eq_true]
abbrev tth (a:Int):Prop :=4 ≤ a ∧ a ≤ 60
theorem isTeeth_pure (a:Int):Pure prog 131 [iv a] (.bool (decide (tth a))) :=by
 refine pure_sym hE rfl ⟨trivial,trivial⟩ trivial fun S q pc hS hq hC hE => ?_
 conv => whnf
 refine sym_pure hC (in_pure a 4 60) ?_
 conv => whnf
 exact ⟨_,rfl,Wk.refl _⟩
theorem rTeeth_pure (a:Int):Pure prog 49 [iv a] (.bool (decide (tth a))) :=by
 refine pure_sym hE rfl ⟨trivial,trivial⟩ trivial fun S q pc hS hq hC hE => ?_
 conv => whnf
 refine sym_pure hC (rin_pure a 4 60) ?_
 conv => whnf
 exact ⟨_,rfl,Wk.refl _⟩
theorem bad_pure (a b:Int):Pure prog 130 [fv a b] (.bool (!(decide (tth a ∧ tth b)))) :=by
 refine pure_sym hE rfl ⟨⟨trivial,trivial,trivial⟩,trivial⟩ trivial fun S q pc hS hq hC hE => ?_
 conv => whnf
 refine sym_pure hC (isTeeth_pure a) ?_
 by_cases h:tth a
 ·rw [decide_eq_true h]
  conv => whnf
  refine sym_pure hC (isTeeth_pure b) ?_
  by_cases h2:tth b
  ·rw [decide_eq_true h2]
   conv => whnf
   exact ⟨_,rfl,wkb (by rw [decide_eq_true (show tth a ∧ tth b from ⟨h,h2⟩)])⟩
  ·rw [decide_eq_false h2]
   conv => whnf
   exact ⟨_,rfl,wkb (by rw [decide_eq_false (fun k:tth a ∧ tth b => h2 k.2)])⟩
 ·rw [decide_eq_false h]
  conv => whnf
  exact ⟨_,rfl,wkb (by rw [decide_eq_false (fun k:tth a ∧ tth b => h k.1)];rfl)⟩
theorem reduced_pure (a b:Nat) (ha:a < 9223372036854775808) (hb:b < 9223372036854775808) (h1:1 ≤ b) :
  Pure prog 134 [nv a,nv b] (fv (Int.ofNat (a / Nat.gcd a b)) (Int.ofNat (b / Nat.gcd a b))) :=by
 refine pure_sym hE rfl ⟨trivial,trivial,trivial⟩ ⟨trivial,trivial,trivial⟩ fun S q pc hS hq hC hE => ?_
 conv => whnf
 refine sym_pure hC (gcd_pure a b ha hb) ?_
 have hg:1 ≤ Nat.gcd a b :=gcd_pos_r h1
 generalize Nat.gcd a b = g at *
 conv => whnf
 refine bool_true (ne0 hg) ?_
 conv => whnf
 refine bool_true (ne0 hg) ?_
 conv => whnf
 refine sym_drawn hS (by kernel_rfl) ?_
 conv => whnf
 rw [quoN ha,quoN hb]
 exact ⟨_,rfl,Wk.refl _⟩
end Go.Abs.Seat
