/- The abstract machine, part 68: the closed facts of a row, one by one. -/
import Derived.Test.YtlflfbnnjlkkcaaGreatJV120
set_option linter.unusedSimpArgs false
set_option linter.unusedVariables false
set_option linter.defProp false
namespace Go.Am
open Go Go.Proofs Go.ChangeShapes Go.WideShapes Go.RowKit Go.Proofs.YtlflfbnnjlkkcaaGreat
theorem MN {P:Program} {f:FuncId} {fn:Func} {s:ChangeSpec} {c:OpenClaim} (h1:(c.wf (OpenSpec.ofChange s))=true)
  (h2:(laidOutB P)=true)
  (h3:(mapsRowed P)=true)
  (h4:(fn.params.all (P.readableRec ·))=true)
  (h5:(namedTie P c.named s.vars)=true)
  (h6:((c.stops==[]))=true)
  (h7:((P.stops==[]))=true)
  (h8:((c.knobs==[]))=true)
  (h9:((P.stopKnobs==[]))=true)
  (h10:((c.inPlace==P.inPlace f))=true)
  (h11:((c.unfollowed==P.unfollowed f))=true)
  (h12:((c.recurses==P.recurses f))=true)
  (h13:((c.named==P.varsNamed f))=true)
  (h14:((c.maps==(fn.params.toList++s.plain.varTypes P).any (P.mapsRec ·)))=true)
  (h15:((c.ifaces==(fn.params.toList++s.plain.varTypes P).any (P.ifacesRec ·)))=true)
  (h16:((c.mapsOut==P.mapsAmong fn.resultTypes.toList))=true)
  (h17:((c.loops==(fn.params.toList++s.plain.varTypes P).any (P.loopsFrom ·)))=true)
  (h18:((c.wideKeys==(fn.params.toList++s.plain.varTypes P++fn.resultTypes.toList).any (P.wideKeysFrom ·)))=true)
  (h19:(s.vars.all (P.varReadable ·))=true)
  (h20:(fn.resultTypes.all (fun t=>P.readableRec t&&decide (t<P.types.size)))=true)
  (h21:((c.ifacesOut==fn.resultTypes.toList.any (P.ifacesRec ·)))=true)
  (h22:((c.loopsOut==fn.resultTypes.toList.any (P.loopsFrom ·)))=true)
  (h23:((c.plainKeys==P.plainKeys))=true)
  (h24:(c.shortTexts.isNone)=true)
  (h25:(P.stopsHeard)=true)
  (h26:(P.mayEnter)=true)
  (h27:((c.lifted==P.liftsFinal))=true)
  (h28:((P.make==some c.make))=true)
  (h29:((c.kinds==(if c.domain.isEmpty then[]else fn.params.toList.map fun t=>match P.underlying t with|some (.int k)=>some k|_=>none)))=true)
  (h30:((c.pinned==c.pinnedBy))=true)
  (h31:((c.veiled==(fn.params.toList++s.plain.varTypes P++fn.resultTypes.toList).any (P.veiledRec ·)))=true)
  (h32:(c.veiledFits P fn.params.toList (fn.params.toList++s.plain.varTypes P++fn.resultTypes.toList))=true):joinedFacts P f fn s c=true:=by
 simp only[joinedFacts,Bool.and_eq_true]
 exact⟨⟨⟨⟨⟨⟨⟨⟨⟨⟨⟨⟨⟨⟨⟨⟨⟨⟨⟨⟨⟨⟨⟨⟨⟨⟨⟨⟨⟨⟨⟨h1,h2⟩,h3⟩,h4⟩,h5⟩,h6⟩,h7⟩,h8⟩,h9⟩,h10⟩,h11⟩,h12⟩,h13⟩,h14⟩,h15⟩,h16⟩,h17⟩,h18⟩,h19⟩,h20⟩,h21⟩,h22⟩,h23⟩,h24⟩,h25⟩,h26⟩,h27⟩,h28⟩,h29⟩,h30⟩,h31⟩,h32⟩
theorem IG (P:Program) (h:(behindMainWord (wordsSigns P.initOrder.toList)).take 1=["cut".toList]): ∃rest,behindMainWord (wordsSigns P.initOrder.toList)= "cut".toList::rest:=by
 generalize behindMainWord (wordsSigns P.initOrder.toList)=L at h
 match L,h with
 |a::rest,h=>
  simp only[List.take_succ_cons,List.take_zero,List.cons.injEq,and_true]at h
  exact⟨rest,by rw[h]⟩
theorem L9 (rest:List (List Char)):stripLifts liftWords ("cut".toList::rest)=([], "cut".toList::rest):=by kernel_rfl
theorem G9 (P:Program) (h:(behindMainWord (wordsSigns P.initOrder.toList)).take 1=["cut".toList]) (h1:P.laysLater=false) (h2:P.bearsReflect=false) (h3:P.doorFits []=true):P.mayEnter=true:=by
 obtain⟨rest,hr⟩:=IG P h
 unfold Program.mayEnter
 rw[hr]
 simp only[L9,h1,h2,h3]
 simp
theorem m_cut:(behindMainWord (wordsSigns Tryz.prog.initOrder.toList)).take 1=["cut".toList]:=by kernel_rfl
theorem VG:Tryz.prog.laysLater=false:=by kernel_rfl
theorem MH:Tryz.prog.bearsReflect=false:=by kernel_rfl
theorem Yu:Tryz.prog.doorFits []=true:=by kernel_rfl
theorem VK:Tryz.prog.mayEnter=true:=G9 _ m_cut VG MH Yu
theorem Hb:mapsRowed Tryz.prog=true:=by kernel_rfl
theorem VI:Tryz.prog.stopsHeard=true:=by kernel_rfl
theorem VF:(Tryz.prog.stops==[])=true:=by kernel_rfl
theorem VH:(Tryz.prog.stopKnobs==[])=true:=by kernel_rfl
theorem Yt:Tryz.prog.plainKeys=false:=by kernel_rfl
theorem VJ:Tryz.prog.liftsFinal=false:=by kernel_rfl
theorem Yr:(Tryz.prog.make==some .cut)=true:=by kernel_rfl
end Go.Am
