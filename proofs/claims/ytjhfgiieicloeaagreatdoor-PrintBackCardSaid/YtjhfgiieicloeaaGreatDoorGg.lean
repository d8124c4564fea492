/- Joined texts: KOk1. -/
import Derived.Test.YtjhfgiieicloeaaGreatDoorRows
import Derived.Test.YtjhfgiieicloeaaGreatDoorGx
import Derived.Test.YtjhfgiieicloeaaGreatDoorGf
/- That the Go functions come to the printed Lean functions, whatever they are handed. Printed by sxgen.py of this session. -/
namespace Go.Proofs.YtjhfgiieicloeaaGreatDoor
open Go Go.Am Go.Sx
set_option maxRecDepth 100000
def tt:TT:={ kd:=[(0,.other),(1,.func),(2,(.int .i64)),(3,(.int .i64)),(4,.bool),(5,(.int .u8)),(6,(.int .u8)),(7,.struct),(8,.struct),(9,.string),(10,.string),(11,.string),(12,(.int .u64)),(13,.struct),(14,.struct),(15,(.pointer 188)),(16,(.pointer 191)),(17,(.pointer 198)),(18,.struct),(19,.struct),(20,.other),(21,(.int .i32)),(22,(.slice 51)),(23,.struct),(24,.struct),(25,(.pointer 60)),(26,.other),(27,.func),(28,.func),(29,(.int .i64)),(30,.other),(31,.func),(32,.other),(33,.func),(34,.func),(35,.func),(36,.func),(37,.other),(38,.func),(39,.other),(40,.func),(41,.func),(42,.func),(43,.other),(44,.func),(45,(.slice 73)),(46,.other),(47,.func),(48,.func),(49,(.slice 3)),(50,.struct),(51,.struct),(52,.func),(53,.func),(54,(.pointer 57)),(55,(.slice 5)),(56,.struct),(57,.struct),(58,(.slice 25)),(59,.struct),(60,.struct),(61,.other),(62,.other),(63,.other),(64,.func),(65,.func),(66,.func),(67,.func),(68,.func),(69,.func),(70,.other),(71,.func),(72,.struct),(73,.struct),(74,.func),(75,.func),(76,.func),(77,(.slice 4)),(78,.func),(79,.other),(80,.func),(81,.func),(82,.func),(83,.func),(84,.func),(85,.func),(86,.other),(87,.func),(88,(.pointer 104)),(89,.func),(90,.func),(91,.func),(92,.func),(93,.func),(94,.func),(95,.func),(96,(.pointer 5)),(97,.other),(98,.func),(99,.func),(100,.func),(101,.func),(102,.func),(103,.struct),(104,.struct),(105,.func),(106,.func),(107,(.slice 9)),(108,.func),(109,.func),(110,.other),(111,.func),(112,.func),(113,.func),(114,.other),(115,.func),(116,.func),(117,.func),(118,(.slice 121)),(119,.func),(120,.struct),(121,.struct),(122,.func),(123,.func),(124,.func),(125,.func),(126,.func),(127,.func),(128,.other),(129,.func),(130,.func),(131,.func),(132,.func),(133,.func),(134,.func),(135,.func),(136,.func),(137,.func),(138,(.slice 93)),(139,(.map 9 4)),(140,.func),(141,.func),(142,.func),(143,(.int .u64)),(144,.func),(145,.func),(146,(.pointer 149)),(147,.func),(148,.struct),(149,.struct),(150,.func),(151,.func),(152,.func),(153,.func),(154,.func),(155,.func),(156,.func),(157,.func),(158,.func),(159,.array),(160,.struct),(161,.struct),(162,.array),(163,(.int .u64)),(164,.func),(165,.func),(166,.func),(167,(.slice 21)),(168,.other),(169,.func),(170,.func),(171,.func),(172,(.pointer 174)),(173,.struct),(174,.struct),(175,.other),(176,.func),(177,.func),(178,.func),(179,.func),(180,.func),(181,.func),(182,(.int .u32)),(183,.other),(184,.func),(185,.func),(186,.func),(187,.struct),(188,.struct),(189,.array),(190,.struct),(191,.struct),(192,(.int .u8)),(193,(.int .u8)),(194,.func),(195,(.int .i32)),(196,(.int .i32)),(197,.struct),(198,.struct)],sz:=[(1,1),(2,1),(3,1),(4,1),(5,1),(6,1),(7,4),(8,4),(9,1),(10,1),(11,1),(12,1),(13,2),(14,2),(15,1),(16,1),(17,1),(18,1),(19,1),(21,1),(22,1),(23,1),(24,1),(25,1),(27,1),(28,1),(29,1),(31,1),(33,1),(34,1),(35,1),(36,1),(38,1),(40,1),(41,1),(42,1),(44,1),(45,1),(47,1),(48,1),(49,1),(50,5),(51,5),(52,1),(53,1),(54,1),(55,1),(56,2),(57,2),(58,1),(59,5),(60,5),(64,1),(65,1),(66,1),(67,1),(68,1),(69,1),(71,1),(72,4),(73,4),(74,1),(75,1),(76,1),(77,1),(78,1),(80,1),(81,1),(82,1),(83,1),(84,1),(85,1),(87,1),(88,1),(89,1),(90,1),(91,1),(92,1),(93,1),(94,1),(95,1),(96,1),(98,1),(99,1),(100,1),(101,1),(102,1),(103,3),(104,3),(105,1),(106,1),(107,1),(108,1),(109,1),(111,1),(112,1),(113,1),(114,1),(115,1),(116,1),(117,1),(118,1),(119,1),(120,7),(121,7),(122,1),(123,1),(124,1),(125,1),(126,1),(127,1),(129,1),(130,1),(131,1),(132,1),(133,1),(134,1),(135,1),(136,1),(137,1),(138,1),(139,1),(140,1),(141,1),(142,1),(143,1),(144,1),(145,1),(146,1),(147,1),(148,3),(149,3),(150,1),(151,1),(152,1),(153,1),(154,1),(155,1),(156,1),(157,1),(158,1),(159,256),(160,2),(161,2),(162,32),(163,1),(164,1),(165,1),(166,1),(167,1),(169,1),(170,1),(171,1),(172,1),(173,3),(174,3),(176,1),(177,1),(178,1),(179,1),(180,1),(181,1),(182,1),(184,1),(185,1),(186,1),(187,4),(188,4),(189,0),(190,0),(191,0),(192,1),(193,1),(194,1),(195,1),(196,1),(197,11),(198,11)],by':=[(1,8),(2,8),(3,8),(4,1),(5,1),(6,1),(7,24),(8,24),(9,16),(10,16),(11,16),(12,8),(13,24),(14,24),(15,8),(16,8),(17,8),(18,8),(19,8),(21,4),(22,24),(23,24),(24,24),(25,8),(27,8),(28,8),(29,8),(31,8),(33,8),(34,8),(35,8),(36,8),(38,8),(40,8),(41,8),(42,8),(44,8),(45,24),(47,8),(48,8),(49,24),(50,72),(51,72),(52,8),(53,8),(54,8),(55,24),(56,32),(57,32),(58,24),(59,72),(60,72),(64,8),(65,8),(66,8),(67,8),(68,8),(69,8),(71,8),(72,40),(73,40),(74,8),(75,8),(76,8),(77,24),(78,8),(80,8),(81,8),(82,8),(83,8),(84,8),(85,8),(87,8),(88,8),(89,8),(90,8),(91,8),(92,8),(93,8),(94,8),(95,8),(96,8),(98,8),(99,8),(100,8),(101,8),(102,8),(103,40),(104,40),(105,8),(106,8),(107,24),(108,8),(109,8),(111,8),(112,8),(113,8),(114,8),(115,8),(116,8),(117,8),(118,24),(119,8),(120,80),(121,80),(122,8),(123,8),(124,8),(125,8),(126,8),(127,8),(129,8),(130,8),(131,8),(132,8),(133,8),(134,8),(135,8),(136,8),(137,8),(138,24),(139,8),(140,8),(141,8),(142,8),(143,8),(144,8),(145,8),(146,8),(147,8),(148,40),(149,40),(150,8),(151,8),(152,8),(153,8),(154,8),(155,8),(156,8),(157,8),(158,8),(159,256),(160,2),(161,2),(162,32),(163,8),(164,8),(165,8),(166,8),(167,24),(169,8),(170,8),(171,8),(172,8),(173,40),(174,40),(176,8),(177,8),(178,8),(179,8),(180,8),(181,8),(182,4),(184,8),(185,8),(186,8),(187,40),(188,40),(189,0),(190,0),(191,0),(192,1),(193,1),(194,8),(195,4),(196,4),(197,48),(198,48)],zero:=[(1,[.nilFunc]),(2,[(.int .i64 0)]),(3,[(.int .i64 0)]),(4,[(.bool false)]),(5,[(.int .u8 0)]),(6,[(.int .u8 0)]),(7,[(.int .i64 0),(.int .i64 0),(.bool false),(.int .u8 0)]),(8,[(.int .i64 0),(.int .i64 0),(.bool false),(.int .u8 0)]),(9,[(.string ⟨#[]⟩)]),(10,[(.string ⟨#[]⟩)]),(11,[(.string ⟨#[]⟩)]),(12,[(.int .u64 0)]),(13,[(.string ⟨#[]⟩),(.int .u64 0)]),(14,[(.string ⟨#[]⟩),(.int .u64 0)]),(15,[(.pointer none)]),(16,[(.pointer none)]),(17,[(.pointer none)]),(18,[(.pointer none)]),(19,[(.pointer none)]),(21,[(.int .i32 0)]),(22,[(.slice none 0 0)]),(23,[(.slice none 0 0)]),(24,[(.slice none 0 0)]),(25,[(.pointer none)]),(27,[.nilFunc]),(28,[.nilFunc]),(29,[(.int .i64 0)]),(31,[.nilFunc]),(33,[.nilFunc]),(34,[.nilFunc]),(35,[.nilFunc]),(36,[.nilFunc]),(38,[.nilFunc]),(40,[.nilFunc]),(41,[.nilFunc]),(42,[.nilFunc]),(44,[.nilFunc]),(45,[(.slice none 0 0)]),(47,[.nilFunc]),(48,[.nilFunc]),(49,[(.slice none 0 0)]),(50,[(.int .i64 0),(.int .i64 0),(.string ⟨#[]⟩),(.string ⟨#[]⟩),(.slice none 0 0)]),(51,[(.int .i64 0),(.int .i64 0),(.string ⟨#[]⟩),(.string ⟨#[]⟩),(.slice none 0 0)]),(52,[.nilFunc]),(53,[.nilFunc]),(54,[(.pointer none)]),(55,[(.slice none 0 0)]),(56,[(.pointer none),(.slice none 0 0)]),(57,[(.pointer none),(.slice none 0 0)]),(58,[(.slice none 0 0)]),(59,[(.int .i64 0),(.int .i64 0),(.string ⟨#[]⟩),(.string ⟨#[]⟩),(.slice none 0 0)]),(60,[(.int .i64 0),(.int .i64 0),(.string ⟨#[]⟩),(.string ⟨#[]⟩),(.slice none 0 0)]),(64,[.nilFunc]),(65,[.nilFunc]),(66,[.nilFunc]),(67,[.nilFunc]),(68,[.nilFunc]),(69,[.nilFunc]),(71,[.nilFunc]),(72,[(.int .i64 0),(.string ⟨#[]⟩),(.int .i64 0),(.int .i64 0)]),(73,[(.int .i64 0),(.string ⟨#[]⟩),(.int .i64 0),(.int .i64 0)]),(74,[.nilFunc]),(75,[.nilFunc]),(76,[.nilFunc]),(77,[(.slice none 0 0)]),(78,[.nilFunc]),(80,[.nilFunc]),(81,[.nilFunc]),(82,[.nilFunc]),(83,[.nilFunc]),(84,[.nilFunc]),(85,[.nilFunc]),(87,[.nilFunc]),(88,[(.pointer none)]),(89,[.nilFunc]),(90,[.nilFunc]),(91,[.nilFunc]),(92,[.nilFunc]),(93,[.nilFunc]),(94,[.nilFunc]),(95,[.nilFunc]),(96,[(.pointer none)]),(98,[.nilFunc]),(99,[.nilFunc]),(100,[.nilFunc]),(101,[.nilFunc]),(102,[.nilFunc]),(103,[(.slice none 0 0),(.int .i64 0),(.int .i64 0)]),(104,[(.slice none 0 0),(.int .i64 0),(.int .i64 0)]),(105,[.nilFunc]),(106,[.nilFunc]),(107,[(.slice none 0 0)]),(108,[.nilFunc]),(109,[.nilFunc]),(111,[.nilFunc]),(112,[.nilFunc]),(113,[.nilFunc]),(114,[(.pointer none)]),(115,[.nilFunc]),(116,[.nilFunc]),(117,[.nilFunc]),(118,[(.slice none 0 0)]),(119,[.nilFunc]),(120,[(.int .i64 0),(.int .i64 0),(.string ⟨#[]⟩),(.string ⟨#[]⟩),(.int .i64 0),(.int .i64 0),(.string ⟨#[]⟩)]),(121,[(.int .i64 0),(.int .i64 0),(.string ⟨#[]⟩),(.string ⟨#[]⟩),(.int .i64 0),(.int .i64 0),(.string ⟨#[]⟩)]),(122,[.nilFunc]),(123,[.nilFunc]),(124,[.nilFunc]),(125,[.nilFunc]),(126,[.nilFunc]),(127,[.nilFunc]),(129,[.nilFunc]),(130,[.nilFunc]),(131,[.nilFunc]),(132,[.nilFunc]),(133,[.nilFunc]),(134,[.nilFunc]),(135,[.nilFunc]),(136,[.nilFunc]),(137,[.nilFunc]),(138,[(.slice none 0 0)]),(139,[(.map none)]),(140,[.nilFunc]),(141,[.nilFunc]),(142,[.nilFunc]),(143,[(.int .u64 0)]),(144,[.nilFunc]),(145,[.nilFunc]),(146,[(.pointer none)]),(147,[.nilFunc]),(148,[(.slice none 0 0),(.int .i64 0),(.int .i64 0)]),(149,[(.slice none 0 0),(.int .i64 0),(.int .i64 0)]),(150,[.nilFunc]),(151,[.nilFunc]),(152,[.nilFunc]),(153,[.nilFunc]),(154,[.nilFunc]),(155,[.nilFunc]),(156,[.nilFunc]),(157,[.nilFunc]),(158,[.nilFunc]),(159,[(.int .u8 0),(.int .u8 0),(.int .u8 0),(.int .u8 0),(.int .u8 0),(.int .u8 0),(.int .u8 0),(.int .u8 0),(.int .u8 0),(.int .u8 0),(.int .u8 0),(.int .u8 0),(.int .u8 0),(.int .u8 0),(.int .u8 0),(.int .u8 0),(.int .u8 0),(.int .u8 0),(.int .u8 0),(.int .u8 0),(.int .u8 0),(.int .u8 0),(.int .u8 0),(.int .u8 0),(.int .u8 0),(.int .u8 0),(.int .u8 0),(.int .u8 0),(.int .u8 0),(.int .u8 0),(.int .u8 0),(.int .u8 0),(.int .u8 0),(.int .u8 0),(.int .u8 0),(.int .u8 0),(.int .u8 0),(.int .u8 0),(.int .u8 0),(.int .u8 0),(.int .u8 0),(.int .u8 0),(.int .u8 0),(.int .u8 0),(.int .u8 0),(.int .u8 0),(.int .u8 0),(.int .u8 0),(.int .u8 0),(.int .u8 0),(.int .u8 0),(.int .u8 0),(.int .u8 0),(.int .u8 0),(.int .u8 0),(.int .u8 0),(.int .u8 0),(.int .u8 0),(.int .u8 0),(.int .u8 0),(.int .u8 0),(.int .u8 0),(.int .u8 0),(.int .u8 0),(.int .u8 0),(.int .u8 0),(.int .u8 0),(.int .u8 0),(.int .u8 0),(.int .u8 0),(.int .u8 0),(.int .u8 0),(.int .u8 0),(.int .u8 0),(.int .u8 0),(.int .u8 0),(.int .u8 0),(.int .u8 0),(.int .u8 0),(.int .u8 0),(.int .u8 0),(.int .u8 0),(.int .u8 0),(.int .u8 0),(.int .u8 0),(.int .u8 0),(.int .u8 0),(.int .u8 0),(.int .u8 0),(.int .u8 0),(.int .u8 0),(.int .u8 0),(.int .u8 0),(.int .u8 0),(.int .u8 0),(.int .u8 0),(.int .u8 0),(.int .u8 0),(.int .u8 0),(.int .u8 0),(.int .u8 0),(.int .u8 0),(.int .u8 0),(.int .u8 0),(.int .u8 0),(.int .u8 0),(.int .u8 0),(.int .u8 0),(.int .u8 0),(.int .u8 0),(.int .u8 0),(.int .u8 0),(.int .u8 0),(.int .u8 0),(.int .u8 0),(.int .u8 0),(.int .u8 0),(.int .u8 0),(.int .u8 0),(.int .u8 0),(.int .u8 0),(.int .u8 0),(.int .u8 0),(.int .u8 0),(.int .u8 0),(.int .u8 0),(.int .u8 0),(.int .u8 0),(.int .u8 0),(.int .u8 0),(.int .u8 0),(.int .u8 0),(.int .u8 0),(.int .u8 0),(.int .u8 0),(.int .u8 0),(.int .u8 0),(.int .u8 0),(.int .u8 0),(.int .u8 0),(.int .u8 0),(.int .u8 0),(.int .u8 0),(.int .u8 0),(.int .u8 0),(.int .u8 0),(.int .u8 0),(.int .u8 0),(.int .u8 0),(.int .u8 0),(.int .u8 0),(.int .u8 0),(.int .u8 0),(.int .u8 0),(.int .u8 0),(.int .u8 0),(.int .u8 0),(.int .u8 0),(.int .u8 0),(.int .u8 0),(.int .u8 0),(.int .u8 0),(.int .u8 0),(.int .u8 0),(.int .u8 0),(.int .u8 0),(.int .u8 0),(.int .u8 0),(.int .u8 0),(.int .u8 0),(.int .u8 0),(.int .u8 0),(.int .u8 0),(.int .u8 0),(.int .u8 0),(.int .u8 0),(.int .u8 0),(.int .u8 0),(.int .u8 0),(.int .u8 0),(.int .u8 0),(.int .u8 0),(.int .u8 0),(.int .u8 0),(.int .u8 0),(.int .u8 0),(.int .u8 0),(.int .u8 0),(.int .u8 0),(.int .u8 0),(.int .u8 0),(.int .u8 0),(.int .u8 0),(.int .u8 0),(.int .u8 0),(.int .u8 0),(.int .u8 0),(.int .u8 0),(.int .u8 0),(.int .u8 0),(.int .u8 0),(.int .u8 0),(.int .u8 0),(.int .u8 0),(.int .u8 0),(.int .u8 0),(.int .u8 0),(.int .u8 0),(.int .u8 0),(.int .u8 0),(.int .u8 0),(.int .u8 0),(.int .u8 0),(.int .u8 0),(.int .u8 0),(.int .u8 0),(.int .u8 0),(.int .u8 0),(.int .u8 0),(.int .u8 0),(.int .u8 0),(.int .u8 0),(.int .u8 0),(.int .u8 0),(.int .u8 0),(.int .u8 0),(.int .u8 0),(.int .u8 0),(.int .u8 0),(.int .u8 0),(.int .u8 0),(.int .u8 0),(.int .u8 0),(.int .u8 0),(.int .u8 0),(.int .u8 0),(.int .u8 0),(.int .u8 0),(.int .u8 0),(.int .u8 0),(.int .u8 0),(.int .u8 0),(.int .u8 0),(.int .u8 0),(.int .u8 0),(.int .u8 0),(.int .u8 0),(.int .u8 0),(.int .u8 0),(.int .u8 0),(.int .u8 0),(.int .u8 0),(.int .u8 0),(.int .u8 0),(.int .u8 0),(.int .u8 0)]),(160,[(.int .u8 0),(.int .u8 0)]),(161,[(.int .u8 0),(.int .u8 0)]),(162,[(.int .u8 0),(.int .u8 0),(.int .u8 0),(.int .u8 0),(.int .u8 0),(.int .u8 0),(.int .u8 0),(.int .u8 0),(.int .u8 0),(.int .u8 0),(.int .u8 0),(.int .u8 0),(.int .u8 0),(.int .u8 0),(.int .u8 0),(.int .u8 0),(.int .u8 0),(.int .u8 0),(.int .u8 0),(.int .u8 0),(.int .u8 0),(.int .u8 0),(.int .u8 0),(.int .u8 0),(.int .u8 0),(.int .u8 0),(.int .u8 0),(.int .u8 0),(.int .u8 0),(.int .u8 0),(.int .u8 0),(.int .u8 0)]),(163,[(.int .u64 0)]),(164,[.nilFunc]),(165,[.nilFunc]),(166,[.nilFunc]),(167,[(.slice none 0 0)]),(169,[.nilFunc]),(170,[.nilFunc]),(171,[.nilFunc]),(172,[(.pointer none)]),(173,[(.slice none 0 0),(.int .i64 0),(.int .i64 0)]),(174,[(.slice none 0 0),(.int .i64 0),(.int .i64 0)]),(176,[.nilFunc]),(177,[.nilFunc]),(178,[.nilFunc]),(179,[.nilFunc]),(180,[.nilFunc]),(181,[.nilFunc]),(182,[(.int .u32 0)]),(184,[.nilFunc]),(185,[.nilFunc]),(186,[.nilFunc]),(187,[(.pointer none),(.pointer none),(.pointer none),(.string ⟨#[]⟩)]),(188,[(.pointer none),(.pointer none),(.pointer none),(.string ⟨#[]⟩)]),(189,[]),(190,[]),(191,[]),(192,[(.int .u8 0)]),(193,[(.int .u8 0)]),(194,[.nilFunc]),(195,[(.int .i32 0)]),(196,[(.int .i32 0)]),(197,[(.int .u64 0),(.int .u64 0),(.int .u32 0),(.int .u8 0),(.int .u8 0),(.int .u8 0),(.int .u8 0),.nilFunc,(.pointer none),(.int .i32 0),(.int .i32 0)]),(198,[(.int .u64 0),(.int .u64 0),(.int .u32 0),(.int .u8 0),(.int .u8 0),(.int .u8 0),(.int .u8 0),.nilFunc,(.pointer none),(.int .i32 0),(.int .i32 0)])],fld:=[(7,[(2,0,1),(3,1,1),(4,2,1),(6,3,1)]),(8,[(2,0,1),(3,1,1),(4,2,1),(6,3,1)]),(13,[(9,0,1),(12,1,1)]),(14,[(9,0,1),(12,1,1)]),(18,[(17,0,1)]),(19,[(17,0,1)]),(23,[(22,0,1)]),(24,[(22,0,1)]),(50,[(3,0,1),(3,1,1),(9,2,1),(9,3,1),(49,4,1)]),(51,[(3,0,1),(3,1,1),(9,2,1),(9,3,1),(49,4,1)]),(56,[(54,0,1),(55,1,1)]),(57,[(54,0,1),(55,1,1)]),(59,[(3,0,1),(3,1,1),(9,2,1),(9,3,1),(58,4,1)]),(60,[(3,0,1),(3,1,1),(9,2,1),(9,3,1),(58,4,1)]),(72,[(3,0,1),(9,1,1),(3,2,1),(3,3,1)]),(73,[(3,0,1),(9,1,1),(3,2,1),(3,3,1)]),(103,[(45,0,1),(3,1,1),(29,2,1)]),(104,[(45,0,1),(3,1,1),(29,2,1)]),(120,[(3,0,1),(3,1,1),(9,2,1),(9,3,1),(3,4,1),(3,5,1),(9,6,1)]),(121,[(3,0,1),(3,1,1),(9,2,1),(9,3,1),(3,4,1),(3,5,1),(9,6,1)]),(148,[(45,0,1),(3,1,1),(29,2,1)]),(149,[(45,0,1),(3,1,1),(29,2,1)]),(160,[(5,0,1),(5,1,1)]),(161,[(5,0,1),(5,1,1)]),(173,[(45,0,1),(3,1,1),(29,2,1)]),(174,[(45,0,1),(3,1,1),(29,2,1)]),(187,[(17,0,1),(17,1,1),(17,2,1),(9,3,1)]),(188,[(17,0,1),(17,1,1),(17,2,1),(9,3,1)]),(190,[(189,0,0)]),(191,[(189,0,0)]),(197,[(12,0,1),(12,1,1),(182,2,1),(192,3,1),(5,4,1),(5,5,1),(193,6,1),(194,7,1),(96,8,1),(195,9,1),(196,10,1)]),(198,[(12,0,1),(12,1,1),(182,2,1),(192,3,1),(5,4,1),(5,5,1),(193,6,1),(194,7,1),(96,8,1),(195,9,1),(196,10,1)])],arr:=[(159,(256,5)),(162,(16,161)),(189,(0,16))],mp:=[(139,(9,4))],zv:=[(4,(.bool false))] }
theorem jM:eJ Tryz.prog tt:=⟨by kernel_rfl,by kernel_rfl,by kernel_rfl,by kernel_rfl,by kernel_rfl,by kernel_rfl,by kernel_rfl,by kernel_rfl⟩
theorem mixed:Tryz.prog.follows .mixedOrders=true:=by kernel_rfl
def xt:XT:={ T:=tt,ty:=[(2,(.int .i64)),(3,(.int .i64)),(4,.bool),(5,(.int .u8)),(6,(.int .u8)),(7,(.pair (.int .i64) (.pair (.int .i64) (.pair .bool (.int .u8))))),(8,(.pair (.int .i64) (.pair (.int .i64) (.pair .bool (.int .u8))))),(9,.str),(10,.str),(11,.str),(12,(.int .u64)),(13,(.pair .str (.int .u64))),(14,(.pair .str (.int .u64))),(21,(.int .i32)),(22,(.list false (.pair (.int .i64) (.pair (.int .i64) (.pair .str (.pair .str (.list false (.int .i64)))))))),(23,(.one (.list false (.pair (.int .i64) (.pair (.int .i64) (.pair .str (.pair .str (.list false (.int .i64))))))))),(24,(.one (.list false (.pair (.int .i64) (.pair (.int .i64) (.pair .str (.pair .str (.list false (.int .i64))))))))),(25,.tree),(29,(.int .i64)),(45,iZ),(49,(.list false (.int .i64))),(50,(.pair (.int .i64) (.pair (.int .i64) (.pair .str (.pair .str (.list false (.int .i64))))))),(51,(.pair (.int .i64) (.pair (.int .i64) (.pair .str (.pair .str (.list false (.int .i64))))))),(55,(.list false (.int .u8))),(58,(.list false .tree)),(59,(.pair (.int .i64) (.pair (.int .i64) (.pair .str (.pair .str (.list false .tree)))))),(60,(.pair (.int .i64) (.pair (.int .i64) (.pair .str (.pair .str (.list false .tree)))))),(72,(.pair (.int .i64) (.pair .str (.pair (.int .i64) (.int .i64))))),(73,(.pair (.int .i64) (.pair .str (.pair (.int .i64) (.int .i64))))),(77,(.list false .bool)),(103,(.pair iZ (.pair (.int .i64) (.int .i64)))),(104,(.pair iZ (.pair (.int .i64) (.int .i64)))),(107,(.list false .str)),(118,(.list false (.pair (.int .i64) (.pair (.int .i64) (.pair .str (.pair .str (.pair (.int .i64) (.pair (.int .i64) .str)))))))),(120,(.pair (.int .i64) (.pair (.int .i64) (.pair .str (.pair .str (.pair (.int .i64) (.pair (.int .i64) .str))))))),(121,(.pair (.int .i64) (.pair (.int .i64) (.pair .str (.pair .str (.pair (.int .i64) (.pair (.int .i64) .str))))))),(143,(.int .u64)),(148,(.pair iZ (.pair (.int .i64) (.int .i64)))),(149,(.pair iZ (.pair (.int .i64) (.int .i64)))),(160,(.pair (.int .u8) (.int .u8))),(161,(.pair (.int .u8) (.int .u8))),(163,(.int .u64)),(167,(.list false (.int .i32))),(173,(.pair iZ (.pair (.int .i64) (.int .i64)))),(174,(.pair iZ (.pair (.int .i64) (.int .i64)))),(182,(.int .u32)),(192,(.int .u8)),(193,(.int .u8)),(195,(.int .i32)),(196,(.int .i32))],objs:=[104,149,174],tab:=[(0,⟨.list false (.int .u8),aZP⟩),(1,⟨.list false (.pair (.int .u8) (.int .u8)),aZo⟩)] }
theorem aJ:XOk Tryz.prog xt:=⟨jM,by kernel_rfl⟩
def wX:aS:={ fid:=79,Γ:=[(.int .i32)],args:=[(.var 0)],Δ:=[.bool],res:=(.var 0),f:=fun k x=>utf8_ValidRune k x }
def aHS:aG (Bool):={}
def aHX:List aS:=[]
theorem aOq (k:Nat) (x:Int):utf8_ValidRune k x=fx xt aHX wX Tryz.f79 aHS (aA Tryz.f79) k x:=by kernel_rfl
theorem aOC (K:Nat):aE Tryz.prog wX K:=aI (X:=xt) (g:=wX) (H:=aHS) (env:=aHX) (c:=aA Tryz.f79) aJ mixed (fun k=>aB.nil) Tryz.func79 (by kernel_rfl) (by kernel_rfl) (by kernel_rfl) (aD.all aD.zero (by kernel_rfl) (by kernel_rfl)) aOq K
def mC:aS:={ fid:=50,Γ:=[(.int .i32)],args:=[(.var 0)],Δ:=[(.int .i64)],res:=(.var 0),f:=fun k x=>pC k x }
def aMp:aG (Int):={}
def aMn:List aS:=[wX]
theorem aTU (k:Nat) (x:Int):pC k x=fx xt aMn mC Tryz.f50 aMp (aA Tryz.f50) k x:=by kernel_rfl
theorem rY (K:Nat):aE Tryz.prog mC K:=aI (X:=xt) (g:=mC) (H:=aMp) (env:=aMn) (c:=aA Tryz.f50) aJ mixed (fun k=>(aB.cons (aOC k) aB.nil)) Tryz.func50 (by kernel_rfl) (by kernel_rfl) (by kernel_rfl) (aD.all aD.zero (by kernel_rfl) (by kernel_rfl)) aTU K
def yV:aS:={ fid:=47,Γ:=[.str],args:=[(.var 0)],Δ:=[(.int .i64),(.int .i64)],res:=(.tup [(.var 0),(.var 1)]),f:=fun k x=>qV k x }
def aDw:LH (Int×Int):={ Γ:=[.str,(.int .i64)],live:=[(10,(.it 0))],sto:=[(0,(.iter 0 1))],nk:=1,F:=fun k x=>cN k x.1 x.2 }
def aGO:aG (Int×Int):={ loops:=[(4,aDw)] }
def aHh:List aS:=[mC]
theorem aTT (k:Nat) (x:(List UInt8)):qV k x=fx xt aHh yV Tryz.f47 aGO (aA Tryz.f47) k x:=by kernel_rfl
theorem aN9 (k:Nat) (x:(List UInt8)×Int):cN (k+1) x.1 x.2=iC xt aHh 31 0 aGO (aA Tryz.f47) (fY xt.T Tryz.f47.results yV) 0 aDw k x:=(cN.eq_def ..).trans (by kernel_rfl)
theorem aS3 (K:Nat):aE Tryz.prog yV K:=aI (X:=xt) (g:=yV) (H:=aGO) (env:=aHh) (c:=aA Tryz.f47) aJ mixed (fun k=>(aB.cons (rY k) aB.nil)) Tryz.func47 (by kernel_rfl) (by kernel_rfl) (by kernel_rfl) (aD.all (aD.zero.succ aDw (by kernel_rfl) (fun _=>rfl) aN9) (by kernel_rfl) (by kernel_rfl)) aTT K
def aC1:aS:={ fid:=49,Γ:=[(.int .i32)],args:=[(.var 0)],Δ:=[.bool],res:=(.var 0),f:=fun k x=>aAM k x }
def aMj:aG (Bool):={}
def aMH:List aS:=[mC]
theorem aTq (k:Nat) (x:Int):aAM k x=fx xt aMH aC1 Tryz.f49 aMj (aA Tryz.f49) k x:=by kernel_rfl
theorem aTY (K:Nat):aE Tryz.prog aC1 K:=aI (X:=xt) (g:=aC1) (H:=aMj) (env:=aMH) (c:=aA Tryz.f49) aJ mixed (fun k=>(aB.cons (rY k) aB.nil)) Tryz.func49 (by kernel_rfl) (by kernel_rfl) (by kernel_rfl) (aD.all aD.zero (by kernel_rfl) (by kernel_rfl)) aTq K
def aBE:aS:={ fid:=48,Γ:=[.str],args:=[(.var 0),(.fn 49 [] [])],Δ:=[(.int .i64)],res:=(.var 0),f:=fun k x=>uD k x }
def aEy:LH (Int):={ Γ:=[.str,.str,(.int .i64)],live:=[(0,(.var 0)),(1,(.fn 49 [] [])),(8,(.it 0))],sto:=[(0,(.iter 1 2))],nk:=1,F:=fun k x=>kL k x.1 x.2.1 x.2.2 }
def aIw:aG (Int):={ loops:=[(2,aEy)] }
def aIh:List aS:=[aC1]
theorem aUv (k:Nat) (x:(List UInt8)):uD k x=fx xt aIh aBE Tryz.f48 aIw (aA Tryz.f48) k x:=by kernel_rfl
theorem aQd (k:Nat) (x:(List UInt8)×(List UInt8)×Int):kL (k+1) x.1 x.2.1 x.2.2=iC xt aIh 20 0 aIw (aA Tryz.f48) (fY xt.T Tryz.f48.results aBE) 0 aEy k x:=(kL.eq_def ..).trans (by kernel_rfl)
theorem aVc (K:Nat):aE Tryz.prog aBE K:=aI (X:=xt) (g:=aBE) (H:=aIw) (env:=aIh) (c:=aA Tryz.f48) aJ mixed (fun k=>(aB.cons (aTY k) aB.nil)) Tryz.func48 (by kernel_rfl) (by kernel_rfl) (by kernel_rfl) (aD.all (aD.zero.succ aEy (by kernel_rfl) (fun _=>rfl) aQd) (by kernel_rfl) (by kernel_rfl)) aUv K
def nB:aS:={ fid:=80,Γ:=[.str,.str],args:=[(.var 0),(.var 1)],Δ:=[.bool],res:=(.var 0),f:=fun k x=>stringslite_HasPrefix k x.1 x.2 }
def aA0:aG (Bool):={}
def aAG:List aS:=[]
theorem aG3 (k:Nat) (x:(List UInt8)×(List UInt8)):stringslite_HasPrefix k x.1 x.2=fx xt aAG nB Tryz.f80 aA0 (aA Tryz.f80) k x:=by kernel_rfl
theorem aGQ (K:Nat):aE Tryz.prog nB K:=aI (X:=xt) (g:=nB) (H:=aA0) (env:=aAG) (c:=aA Tryz.f80) aJ mixed (fun k=>aB.nil) Tryz.func80 (by kernel_rfl) (by kernel_rfl) (by kernel_rfl) (aD.all aD.zero (by kernel_rfl) (by kernel_rfl)) aG3 K
def kZ:aS:={ fid:=51,Γ:=[.str,.str],args:=[(.var 0),(.var 1)],Δ:=[.bool],res:=(.var 0),f:=fun k x=>strings_HasPrefix k x.1 x.2 }
def aDT:aG (Bool):={}
def aDQ:List aS:=[nB]
theorem aKL (k:Nat) (x:(List UInt8)×(List UInt8)):strings_HasPrefix k x.1 x.2=fx xt aDQ kZ Tryz.f51 aDT (aA Tryz.f51) k x:=by kernel_rfl
theorem vS (K:Nat):aE Tryz.prog kZ K:=aI (X:=xt) (g:=kZ) (H:=aDT) (env:=aDQ) (c:=aA Tryz.f51) aJ mixed (fun k=>(aB.cons (aGQ k) aB.nil)) Tryz.func51 (by kernel_rfl) (by kernel_rfl) (by kernel_rfl) (aD.all aD.zero (by kernel_rfl) (by kernel_rfl)) aKL K
def uK:aS:={ fid:=52,Γ:=[.str],args:=[(.var 0)],Δ:=[(.int .i64)],res:=(.var 0),f:=fun k x=>zB k x }
def aBe:LH (Int):={ Γ:=[.str,(.int .i64),(.int .i64)],live:=[(0,(.var 0)),(3,(.var 1)),(4,(.var 2))],F:=fun k x=>iV k x.1 x.2.1 x.2.2 }
def aDr:aG (Int):={ loops:=[(3,aBe)] }
def aDy:List aS:=[kZ]
theorem aP1 (k:Nat) (x:(List UInt8)):zB k x=fx xt aDy uK Tryz.f52 aDr (aA Tryz.f52) k x:=by kernel_rfl
theorem aLP (k:Nat) (x:(List UInt8)×Int×Int):iV (k+1) x.1 x.2.1 x.2.2=iC xt aDy 32 0 aDr (aA Tryz.f52) (fY xt.T Tryz.f52.results uK) 0 aBe k x:=(iV.eq_def ..).trans (by kernel_rfl)
theorem aPC (K:Nat):aE Tryz.prog uK K:=aI (X:=xt) (g:=uK) (H:=aDr) (env:=aDy) (c:=aA Tryz.f52) aJ mixed (fun k=>(aB.cons (vS k) aB.nil)) Tryz.func52 (by kernel_rfl) (by kernel_rfl) (by kernel_rfl) (aD.all (aD.zero.succ aBe (by kernel_rfl) (fun _=>rfl) aLP) (by kernel_rfl) (by kernel_rfl)) aP1 K
def zJ:aS:={ fid:=81,Γ:=[.str],args:=[(.var 0)],Δ:=[(.int .i32)],res:=(.var 0),f:=fun k x=>aDn k x }
def aDt:LH (Int):={ Γ:=[.str,(.int .i64)],live:=[(6,(.it 0))],sto:=[(0,(.iter 0 1))],nk:=1,F:=fun k x=>vO k x.1 x.2 }
def aGM:aG (Int):={ loops:=[(2,aDt)] }
def aG6:List aS:=[]
theorem aTC (k:Nat) (x:(List UInt8)):aDn k x=fx xt aG6 zJ Tryz.f81 aGM (aA Tryz.f81) k x:=by kernel_rfl
theorem aN5 (k:Nat) (x:(List UInt8)×Int):vO (k+1) x.1 x.2=iC xt aG6 11 0 aGM (aA Tryz.f81) (fY xt.T Tryz.f81.results zJ) 0 aDt k x:=(vO.eq_def ..).trans (by kernel_rfl)
theorem aUb (K:Nat):aE Tryz.prog zJ K:=aI (X:=xt) (g:=zJ) (H:=aGM) (env:=aG6) (c:=aA Tryz.f81) aJ mixed (fun k=>aB.nil) Tryz.func81 (by kernel_rfl) (by kernel_rfl) (by kernel_rfl) (aD.all (aD.zero.succ aDt (by kernel_rfl) (fun _=>rfl) aN5) (by kernel_rfl) (by kernel_rfl)) aTC K
def aCL:aS:={ fid:=116,Γ:=[(.int .i32)],args:=[(.var 0)],Δ:=[.bool],res:=(.var 0),f:=fun k x=>aAZ k x }
def aMt:aG (Bool):={}
def aMl:List aS:=[mC]
theorem aUf (k:Nat) (x:Int):aAZ k x=fx xt aMl aCL Tryz.f116 aMt (aA Tryz.f116) k x:=by kernel_rfl
theorem aUn (K:Nat):aE Tryz.prog aCL K:=aI (X:=xt) (g:=aCL) (H:=aMt) (env:=aMl) (c:=aA Tryz.f116) aJ mixed (fun k=>(aB.cons (rY k) aB.nil)) Tryz.func116 (by kernel_rfl) (by kernel_rfl) (by kernel_rfl) (aD.all aD.zero (by kernel_rfl) (by kernel_rfl)) aUf K
def sJ:aS:={ fid:=48,Γ:=[.str],args:=[(.var 0),(.fn 116 [] [])],Δ:=[(.int .i64)],res:=(.var 0),f:=fun k x=>oH k x }
def aCe:LH (Int):={ Γ:=[.str,.str,(.int .i64)],live:=[(0,(.var 0)),(1,(.fn 116 [] [])),(8,(.it 0))],sto:=[(0,(.iter 1 2))],nk:=1,F:=fun k x=>fQ k x.1 x.2.1 x.2.2 }
def aFK:aG (Int):={ loops:=[(2,aCe)] }
def aFD:List aS:=[aCL]
theorem aRn (k:Nat) (x:(List UInt8)):oH k x=fx xt aFD sJ Tryz.f48 aFK (aA Tryz.f48) k x:=by kernel_rfl
theorem aNc (k:Nat) (x:(List UInt8)×(List UInt8)×Int):fQ (k+1) x.1 x.2.1 x.2.2=iC xt aFD 20 0 aFK (aA Tryz.f48) (fY xt.T Tryz.f48.results sJ) 0 aCe k x:=(fQ.eq_def ..).trans (by kernel_rfl)
theorem aJi (K:Nat):aE Tryz.prog sJ K:=aI (X:=xt) (g:=sJ) (H:=aFK) (env:=aFD) (c:=aA Tryz.f48) aJ mixed (fun k=>(aB.cons (aUn k) aB.nil)) Tryz.func48 (by kernel_rfl) (by kernel_rfl) (by kernel_rfl) (aD.all (aD.zero.succ aCe (by kernel_rfl) (fun _=>rfl) aNc) (by kernel_rfl) (by kernel_rfl)) aRn K
def aCP:aS:={ fid:=148,Γ:=[],args:=[],Δ:=[(.list false .str)],res:=(.var 0),f:=fun k _=>aDd k }
def aMJ:aG ((List (List UInt8))):={}
def aMS:List aS:=[]
theorem aSP (k:Nat) (x:Unit):aDd k=fx xt aMS aCP Tryz.f148 aMJ (aA Tryz.f148) k x:=by kernel_rfl
theorem aSO (K:Nat):aE Tryz.prog aCP K:=aI (X:=xt) (g:=aCP) (H:=aMJ) (env:=aMS) (c:=aA Tryz.f148) aJ mixed (fun k=>aB.nil) Tryz.func148 (by kernel_rfl) (by kernel_rfl) (by kernel_rfl) (aD.all aD.zero (by kernel_rfl) (by kernel_rfl)) aSP K
def wG:aS:={ fid:=172,Γ:=[(.list false .str),.str],args:=[(.var 0),(.var 1)],Δ:=[(.int .i64)],res:=(.var 0),f:=fun k x=>slices_Index k x.1 x.2 }
def aCv:LH (Int):={ Γ:=[(.list false .str),.str,(.int .i64)],live:=[(0,(.var 0)),(1,(.var 1)),(7,(.len 0)),(8,(.var 2))],F:=fun k x=>fU k x.1 x.2.1 x.2.2 }
def aER:aG (Int):={ loops:=[(2,aCv)] }
def aEE:List aS:=[]
theorem aRN (k:Nat) (x:(List (List UInt8))×(List UInt8)):slices_Index k x.1 x.2=fx xt aEE wG Tryz.f172 aER (aA Tryz.f172) k x:=by kernel_rfl
theorem aNf (k:Nat) (x:(List (List UInt8))×(List UInt8)×Int):fU (k+1) x.1 x.2.1 x.2.2=iC xt aEE 19 0 aER (aA Tryz.f172) (fY xt.T Tryz.f172.results wG) 0 aCv k x:=(fU.eq_def ..).trans (by kernel_rfl)
theorem aRV (K:Nat):aE Tryz.prog wG K:=aI (X:=xt) (g:=wG) (H:=aER) (env:=aEE) (c:=aA Tryz.f172) aJ mixed (fun k=>aB.nil) Tryz.func172 (by kernel_rfl) (by kernel_rfl) (by kernel_rfl) (aD.all (aD.zero.succ aCv (by kernel_rfl) (fun _=>rfl) aNf) (by kernel_rfl) (by kernel_rfl)) aRN K
def vC:aS:={ fid:=147,Γ:=[(.list false .str),.str],args:=[(.var 0),(.var 1)],Δ:=[.bool],res:=(.var 0),f:=fun k x=>slices_Contains k x.1 x.2 }
def aGk:aG (Bool):={}
def aGh:List aS:=[wG]
theorem aNo (k:Nat) (x:(List (List UInt8))×(List UInt8)):slices_Contains k x.1 x.2=fx xt aGh vC Tryz.f147 aGk (aA Tryz.f147) k x:=by kernel_rfl
theorem aNQ (K:Nat):aE Tryz.prog vC K:=aI (X:=xt) (g:=vC) (H:=aGk) (env:=aGh) (c:=aA Tryz.f147) aJ mixed (fun k=>(aB.cons (aRV k) aB.nil)) Tryz.func147 (by kernel_rfl) (by kernel_rfl) (by kernel_rfl) (aD.all aD.zero (by kernel_rfl) (by kernel_rfl)) aNo K
def aBi:aS:={ fid:=117,Γ:=[.str],args:=[(.var 0)],Δ:=[.bool],res:=(.var 0),f:=fun k x=>rC k x }
def aPx:aG (Bool):={}
def aPk:List aS:=[aCP,vC]
theorem aUJ (k:Nat) (x:(List UInt8)):rC k x=fx xt aPk aBi Tryz.f117 aPx (aA Tryz.f117) k x:=by kernel_rfl
theorem aMW (K:Nat):aE Tryz.prog aBi K:=aI (X:=xt) (g:=aBi) (H:=aPx) (env:=aPk) (c:=aA Tryz.f117) aJ mixed (fun k=>(aB.cons (aSO k) (aB.cons (aNQ k) aB.nil))) Tryz.func117 (by kernel_rfl) (by kernel_rfl) (by kernel_rfl) (aD.all aD.zero (by kernel_rfl) (by kernel_rfl)) aUJ K
def aGI:aS:={ fid:=173,Γ:=[.str],args:=[(.var 0)],Δ:=[(.int .u64)],res:=(.var 0),f:=fun k x=>utf8_word k x }
def aQX:aG (Int):={ ord:=[(2,[.l 0,.l 1,.l 2,.l 3,.l 4,.l 5,.l 6,.l 7,.l 8,.l 9,.l 10,.l 11,.l 12,.l 13,.l 14,.l 15,.l 16,.l 17,.l 18,.l 19,.l 20,.l 21,.l 22,.l 23,.l 24,.l 25,.l 26,.l 27,.l 28,.l 29,.l 30,.l 31,.l 32,.l 33,.l 34,.l 35,.l 36,.l 37,.l 38])] }
def aQH:List aS:=[]
theorem aW8 (k:Nat) (x:(List UInt8)):utf8_word k x=fx xt aQH aGI Tryz.f173 aQX (aA Tryz.f173) k x:=by kernel_rfl
theorem aWm (K:Nat):aE Tryz.prog aGI K:=aI (X:=xt) (g:=aGI) (H:=aQX) (env:=aQH) (c:=aA Tryz.f173) aJ mixed (fun k=>aB.nil) Tryz.func173 (by kernel_rfl) (by kernel_rfl) (by kernel_rfl) (aD.all aD.zero (by kernel_rfl) (by kernel_rfl)) aW8 K
def lQ:aS:={ fid:=149,Γ:=[.str],args:=[(.var 0)],Δ:=[.bool],res:=(.var 0),f:=fun k x=>utf8_ValidString k x }
def wR:LH (Bool):={ Γ:=[.str],live:=[(0,(.var 0))],F:=fun k x=>aR k x }
def vU:LH (Bool):={ Γ:=[.str],live:=[(0,(.var 0))],F:=fun k x=>dC k x }
def tN:aG (Bool):={ ord:=[(7,[.l 0,.l 1,.l 2,.l 3,.l 4,.l 6,.l 7,.h 5,.h 8,.l 9,.l 10,.l 11,.l 12]),(9,[.l 0,.l 1,.l 2,.l 3,.l 4,.l 6,.l 7,.l 10,.l 11,.l 13,.l 14,.h 5,.h 8,.l 9,.h 12,.h 15,.l 16,.l 17,.l 18,.l 19,.l 20]),(17,[.l 0,.l 1,.l 2,.l 3,.l 4,.l 5,.l 6,.l 7,.l 8,.l 9,.l 10,.l 11,.l 12,.l 13,.l 14,.l 15,.l 16]),(21,[.l 0,.l 1,.l 2,.l 3,.l 4,.l 5,.l 6,.l 7,.l 8,.l 9,.l 10,.l 11,.l 12,.l 13,.l 14,.l 15,.l 16,.l 17,.l 18,.l 19,.l 20,.l 21,.l 22,.l 23,.l 24,.l 25,.l 26]),(25,[.l 0,.l 1,.l 2,.l 3,.l 4,.l 5,.l 6,.l 7,.l 8,.l 9,.l 10,.l 11,.l 12,.l 13,.l 14,.l 15,.l 16,.l 17,.l 18,.l 19,.l 20,.l 21,.l 22,.l 23,.l 24,.l 25,.l 26,.l 27,.l 28,.l 29,.l 30,.l 31,.l 32,.l 33,.l 34,.l 35,.l 36])],loops:=[(1,wR),(9,vU)] }
def sX:List aS:=[aGI]
theorem aL1 (k:Nat) (x:(List UInt8)):utf8_ValidString k x=fx xt sX lQ Tryz.f149 tN (aA Tryz.f149) k x:=by kernel_rfl
theorem aIE (k:Nat) (x:(List UInt8)):aR (k+1) x=iC xt sX 169 0 tN (aA Tryz.f149) (fY xt.T Tryz.f149.results lQ) 0 wR k x:=(aR.eq_def ..).trans (by kernel_rfl)
theorem aIy (k:Nat) (x:(List UInt8)):dC (k+1) x=iC xt sX 169 0 tN (aA Tryz.f149) (fY xt.T Tryz.f149.results lQ) 1 vU k x:=(dC.eq_def ..).trans (by kernel_rfl)
theorem aLH (K:Nat):aE Tryz.prog lQ K:=aI (X:=xt) (g:=lQ) (H:=tN) (env:=sX) (c:=aA Tryz.f149) aJ mixed (fun k=>(aB.cons (aWm k) aB.nil)) Tryz.func149 (by kernel_rfl) (by kernel_rfl) (by kernel_rfl) (aD.all ((aD.zero.succ wR (by kernel_rfl) (fun _=>rfl) aIE).succ vU (by kernel_rfl) (fun _=>rfl) aIy) (by kernel_rfl) (by kernel_rfl)) aL1 K
def xF:aS:={ fid:=118,Γ:=[.str],args:=[(.var 0)],Δ:=[.bool],res:=(.var 0),f:=fun k x=>tJ k x }
def aFb:LH (Bool):={ Γ:=[.str,(.int .i64)],live:=[(18,(.it 0))],sto:=[(0,(.iter 0 1))],nk:=1,F:=fun k x=>kK k x.1 x.2 }
def aIl:aG (Bool):={ loops:=[(4,aFb)] }
def aIb:List aS:=[lQ,mC]
theorem aVg (k:Nat) (x:(List UInt8)):tJ k x=fx xt aIb xF Tryz.f118 aIl (aA Tryz.f118) k x:=by kernel_rfl
theorem aP3 (k:Nat) (x:(List UInt8)×Int):kK (k+1) x.1 x.2=iC xt aIb 37 0 aIl (aA Tryz.f118) (fY xt.T Tryz.f118.results xF) 0 aFb k x:=(kK.eq_def ..).trans (by kernel_rfl)
theorem aMK (K:Nat):aE Tryz.prog xF K:=aI (X:=xt) (g:=xF) (H:=aIl) (env:=aIb) (c:=aA Tryz.f118) aJ mixed (fun k=>(aB.cons (aLH k) (aB.cons (rY k) aB.nil))) Tryz.func118 (by kernel_rfl) (by kernel_rfl) (by kernel_rfl) (aD.all (aD.zero.succ aFb (by kernel_rfl) (fun _=>rfl) aP3) (by kernel_rfl) (by kernel_rfl)) aVg K
def aBQ:aS:={ fid:=82,Γ:=[.str],args:=[(.var 0)],Δ:=[(.int .i64),.str,(.int .i64),(.int .i64),(.int .i64),.bool],res:=(.tup [(.agg [(.var 0),(.var 1),(.var 2),(.var 3)]),(.var 4),(.var 5)]),f:=fun k x=>aAk k x }
def aFS:LH (Int×(List UInt8)×Int×Int×Int×Bool):={ Γ:=[.str,(.int .i64),.bool],live:=[(0,(.var 0)),(2,(.ref 0 0)),(5,(.var 1)),(6,(.var 2))],sto:=[(0,(.cells 73 4 [(.int .i64 0),(.str []),(.int .i64 0),(.int .i64 0)] false))],nk:=1,F:=fun k x=>dW k x.1 x.2.1 x.2.2 }
def aH6:aG (Int×(List UInt8)×Int×Int×Int×Bool):={ loops:=[(5,aFS)] }
def aIN:List aS:=[sJ,aBi,xF]
theorem aVe (k:Nat) (x:(List UInt8)):aAk k x=fx xt aIN aBQ Tryz.f82 aH6 (aA Tryz.f82) k x:=by kernel_rfl
theorem aQq (k:Nat) (x:(List UInt8)×Int×Bool):dW (k+1) x.1 x.2.1 x.2.2=iC xt aIN 88 0 aH6 (aA Tryz.f82) (fY xt.T Tryz.f82.results aBQ) 0 aFS k x:=(dW.eq_def ..).trans (by kernel_rfl)
theorem aU5 (K:Nat):aE Tryz.prog aBQ K:=aI (X:=xt) (g:=aBQ) (H:=aH6) (env:=aIN) (c:=aA Tryz.f82) aJ mixed (fun k=>(aB.cons (aJi k) (aB.cons (aMW k) (aB.cons (aMK k) aB.nil)))) Tryz.func82 (by kernel_rfl) (by kernel_rfl) (by kernel_rfl) (aD.all (aD.zero.succ aFS (by kernel_rfl) (fun _=>rfl) aQq) (by kernel_rfl) (by kernel_rfl)) aVe K
def xO:aS:={ fid:=119,Γ:=[(.int .i32)],args:=[(.var 0)],Δ:=[.bool],res:=(.var 0),f:=fun k x=>sB k x }
def aHV:aG (Bool):={}
def aHF:List aS:=[mC]
theorem aPa (k:Nat) (x:Int):sB k x=fx xt aHF xO Tryz.f119 aHV (aA Tryz.f119) k x:=by kernel_rfl
theorem aN7 (K:Nat):aE Tryz.prog xO K:=aI (X:=xt) (g:=xO) (H:=aHV) (env:=aHF) (c:=aA Tryz.f119) aJ mixed (fun k=>(aB.cons (rY k) aB.nil)) Tryz.func119 (by kernel_rfl) (by kernel_rfl) (by kernel_rfl) (aD.all aD.zero (by kernel_rfl) (by kernel_rfl)) aPa K
def vV:aS:={ fid:=48,Γ:=[.str],args:=[(.var 0),(.fn 119 [] [])],Δ:=[(.int .i64)],res:=(.var 0),f:=fun k x=>tQ k x }
def aCf:LH (Int):={ Γ:=[.str,.str,(.int .i64)],live:=[(0,(.var 0)),(1,(.fn 119 [] [])),(8,(.it 0))],sto:=[(0,(.iter 1 2))],nk:=1,F:=fun k x=>iQ k x.1 x.2.1 x.2.2 }
def aEP:aG (Int):={ loops:=[(2,aCf)] }
def aFz:List aS:=[xO]
theorem aRG (k:Nat) (x:(List UInt8)):tQ k x=fx xt aFz vV Tryz.f48 aEP (aA Tryz.f48) k x:=by kernel_rfl
theorem aNe (k:Nat) (x:(List UInt8)×(List UInt8)×Int):iQ (k+1) x.1 x.2.1 x.2.2=iC xt aFz 20 0 aEP (aA Tryz.f48) (fY xt.T Tryz.f48.results vV) 0 aCf k x:=(iQ.eq_def ..).trans (by kernel_rfl)
theorem aRR (K:Nat):aE Tryz.prog vV K:=aI (X:=xt) (g:=vV) (H:=aEP) (env:=aFz) (c:=aA Tryz.f48) aJ mixed (fun k=>(aB.cons (aN7 k) aB.nil)) Tryz.func48 (by kernel_rfl) (by kernel_rfl) (by kernel_rfl) (aD.all (aD.zero.succ aCf (by kernel_rfl) (fun _=>rfl) aNe) (by kernel_rfl) (by kernel_rfl)) aRG K
def rX:aS:={ fid:=150,Γ:=[(.list false (.int .u8))],args:=[(.row 0 0)],sto:=[(0,(.list 5 0 none))],nk:=1,Δ:=[(.list false (.int .u8))],res:=(.tup []),sto':=[(0,(.list 5 0 none))],nk':=1,f:=fun k x=>slices_Reverse k x }
def aAq:LH ((List Int)):={ Γ:=[(.list false (.int .u8)),(.int .i64),(.int .i64)],live:=[(0,(.row 0 0)),(2,(.var 1)),(3,(.var 2))],sto:=[(0,(.list 5 0 none))],nk:=1,F:=fun k x=>fD k x.1 x.2.1 x.2.2 }
def aCC:aG ((List Int)):={ ord:=[(3,[.l 0,.l 1,.l 2,.l 3,.l 4,.l 5,.l 6,.l 7,.l 8,.l 9,.l 10,.l 11,.l 12,.h 13,.l 14,.h 15])],loops:=[(1,aAq)] }
def aCi:List aS:=[]
theorem aO5 (k:Nat) (x:(List Int)):slices_Reverse k x=fx xt aCi rX Tryz.f150 aCC (aA Tryz.f150) k x:=by kernel_rfl
theorem aJW (k:Nat) (x:(List Int)×Int×Int):fD (k+1) x.1 x.2.1 x.2.2=iC xt aCi 28 1 aCC (aA Tryz.f150) (fY xt.T Tryz.f150.results rX) 0 aAq k x:=(fD.eq_def ..).trans (by kernel_rfl)
theorem aOJ (K:Nat):aE Tryz.prog rX K:=aI (X:=xt) (g:=rX) (H:=aCC) (env:=aCi) (c:=aA Tryz.f150) aJ mixed (fun k=>aB.nil) Tryz.func150 (by kernel_rfl) (by kernel_rfl) (by kernel_rfl) (aD.all (aD.zero.succ aAq (by kernel_rfl) (fun _=>rfl) aJW) (by kernel_rfl) (by kernel_rfl)) aO5 K
def pH:aS:={ fid:=120,Γ:=[(.int .i64)],args:=[(.var 0)],Δ:=[.str],res:=(.var 0),f:=fun k x=>tV k x }
def aCg:LH ((List UInt8)):={ Γ:=[(.int .u64),.str],live:=[(3,(.var 0)),(4,(.var 1))],F:=fun k x=>nO k x.1 x.2 }
def aCh:LH ((List UInt8)):={ Γ:=[(.int .u64),.str,(.list false (.int .u8)),.bool],live:=[(3,(.var 0)),(4,(.var 1)),(5,(.row 0 2)),(6,(.var 3))],sto:=[(0,(.list 5 2 none))],nk:=1,ad:=[.t 5 5 (.int .u8)],F:=fun k x=>lC k x.1 x.2.1 x.2.2.1 x.2.2.2 }
def aBX:aG ((List UInt8)):={ loops:=[(6,aCh)],cuts:=[(4,aCg)] }
def aBG:List aS:=[rX]
theorem aRW (k:Nat) (x:Int):tV k x=fx xt aBG pH Tryz.f120 aBX (aA Tryz.f120) k x:=by kernel_rfl
theorem aNv (k:Nat) (x:Int×(List UInt8)):nO (k+1) x.1 x.2=iC xt aBG 31 0 aBX (aA Tryz.f120) (fY xt.T Tryz.f120.results pH) 0 aCg k x:=(nO.eq_def ..).trans (by kernel_rfl)
theorem aNN (k:Nat) (x:Int×(List UInt8)×(List Int)×Bool):lC (k+1) x.1 x.2.1 x.2.2.1 x.2.2.2=iC xt aBG 31 0 aBX (aA Tryz.f120) (fY xt.T Tryz.f120.results pH) 1 aCh k x:=(lC.eq_def ..).trans (by kernel_rfl)
theorem aI8 (K:Nat):aE Tryz.prog pH K:=aI (X:=xt) (g:=pH) (H:=aBX) (env:=aBG) (c:=aA Tryz.f120) aJ mixed (fun k=>(aB.cons (aOJ k) aB.nil)) Tryz.func120 (by kernel_rfl) (by kernel_rfl) (by kernel_rfl) (aD.all ((aD.zero.succ aCg (by kernel_rfl) (fun _=>rfl) aNv).succ aCh (by kernel_rfl) (fun _=>rfl) aNN) (by kernel_rfl) (by kernel_rfl)) aRW K
def sC:aS:={ fid:=83,Γ:=[.str],args:=[(.var 0)],Δ:=[(.int .i64),.str,(.int .i64),(.int .i64),(.int .i64),.bool],res:=(.tup [(.agg [(.var 0),(.var 1),(.var 2),(.var 3)]),(.var 4),(.var 5)]),f:=fun k x=>oI k x }
def aCu:LH (Int×(List UInt8)×Int×Int×Int×Bool):={ Γ:=[.str,(.int .i64)],live:=[(0,(.var 0)),(2,(.ref 0 0)),(5,(.var 1))],sto:=[(0,(.cells 73 4 [(.int .i64 0),(.str []),(.int .i64 0),(.int .i64 0)] false))],nk:=1,F:=fun k x=>iR k x.1 x.2 }
def aCj:LH (Int×(List UInt8)×Int×Int×Int×Bool):={ Γ:=[(.int .i64),(.int .i64),(.int .i64),.str,(.int .i64)],live:=[(2,(.ref 0 0)),(5,(.var 0)),(6,(.var 1)),(7,(.var 2)),(34,(.it 1))],sto:=[(0,(.cells 73 4 [(.int .i64 0),(.str []),(.int .i64 0),(.int .i64 0)] false)),(1,(.iter 3 4))],nk:=2,F:=fun k x=>fS k x.1 x.2.1 x.2.2.1 x.2.2.2.1 x.2.2.2.2 }
def aBB:aG (Int×(List UInt8)×Int×Int×Int×Bool):={ loops:=[(9,aCj)],cuts:=[(4,aCu)] }
def aBP:List aS:=[vV,sJ,pH]
theorem aR0 (k:Nat) (x:(List UInt8)):oI k x=fx xt aBP sC Tryz.f83 aBB (aA Tryz.f83) k x:=by kernel_rfl
theorem aNu (k:Nat) (x:(List UInt8)×Int):iR (k+1) x.1 x.2=iC xt aBP 56 0 aBB (aA Tryz.f83) (fY xt.T Tryz.f83.results sC) 0 aCu k x:=(iR.eq_def ..).trans (by kernel_rfl)
theorem aNx (k:Nat) (x:Int×Int×Int×(List UInt8)×Int):fS (k+1) x.1 x.2.1 x.2.2.1 x.2.2.2.1 x.2.2.2.2=iC xt aBP 56 0 aBB (aA Tryz.f83) (fY xt.T Tryz.f83.results sC) 1 aCj k x:=(fS.eq_def ..).trans (by kernel_rfl)
theorem aRs (K:Nat):aE Tryz.prog sC K:=aI (X:=xt) (g:=sC) (H:=aBB) (env:=aBP) (c:=aA Tryz.f83) aJ mixed (fun k=>(aB.cons (aRR k) (aB.cons (aJi k) (aB.cons (aI8 k) aB.nil)))) Tryz.func83 (by kernel_rfl) (by kernel_rfl) (by kernel_rfl) (aD.all ((aD.zero.succ aCu (by kernel_rfl) (fun _=>rfl) aNu).succ aCj (by kernel_rfl) (fun _=>rfl) aNx) (by kernel_rfl) (by kernel_rfl)) aR0 K
def aCR:aS:={ fid:=84,Γ:=[],args:=[],Δ:=[(.list false .str)],res:=(.var 0),f:=fun k _=>aDg k }
def aMC:aG ((List (List UInt8))):={}
def aMD:List aS:=[]
theorem aSl (k:Nat) (x:Unit):aDg k=fx xt aMD aCR Tryz.f84 aMC (aA Tryz.f84) k x:=by kernel_rfl
theorem aTQ (K:Nat):aE Tryz.prog aCR K:=aI (X:=xt) (g:=aCR) (H:=aMC) (env:=aMD) (c:=aA Tryz.f84) aJ mixed (fun k=>aB.nil) Tryz.func84 (by kernel_rfl) (by kernel_rfl) (by kernel_rfl) (aD.all aD.zero (by kernel_rfl) (by kernel_rfl)) aSl K
def zK:aS:={ fid:=53,Γ:=[.str],args:=[(.var 0)],Δ:=[(.int .i64),.str,(.int .i64),(.int .i64),(.int .i64),.bool],res:=(.tup [(.agg [(.var 0),(.var 1),(.var 2),(.var 3)]),(.var 4),(.var 5)]),f:=fun k x=>mM k x }
def aDA:LH (Int×(List UInt8)×Int×Int×Int×Bool):={ Γ:=[.str,(.list false .str),(.int .i64)],live:=[(0,(.var 0)),(2,(.ref 0 0)),(32,(.var 1)),(33,(.len 1)),(34,(.var 2))],sto:=[(0,(.cells 73 4 [(.int .i64 0),(.str []),(.int .i64 0),(.int .i64 0)] false))],nk:=1,F:=fun k x=>mY k x.1 x.2.1 x.2.2 }
def aGR:aG (Int×(List UInt8)×Int×Int×Int×Bool):={ loops:=[(7,aDA)] }
def aG0:List aS:=[zJ,mC,aBQ,sC,aCR,kZ]
theorem aSz (k:Nat) (x:(List UInt8)):mM k x=fx xt aG0 zK Tryz.f53 aGR (aA Tryz.f53) k x:=by kernel_rfl
theorem aOG (k:Nat) (x:(List UInt8)×(List (List UInt8))×Int):mY (k+1) x.1 x.2.1 x.2.2=iC xt aG0 47 0 aGR (aA Tryz.f53) (fY xt.T Tryz.f53.results zK) 0 aDA k x:=(mY.eq_def ..).trans (by kernel_rfl)
theorem aTo (K:Nat):aE Tryz.prog zK K:=aI (X:=xt) (g:=zK) (H:=aGR) (env:=aG0) (c:=aA Tryz.f53) aJ mixed (fun k=>(aB.cons (aUb k) (aB.cons (rY k) (aB.cons (aU5 k) (aB.cons (aRs k) (aB.cons (aTQ k) (aB.cons (vS k) aB.nil))))))) Tryz.func53 (by kernel_rfl) (by kernel_rfl) (by kernel_rfl) (aD.all (aD.zero.succ aDA (by kernel_rfl) (fun _=>rfl) aOG) (by kernel_rfl) (by kernel_rfl)) aSz K
def aAT:aS:={ fid:=22,Γ:=[.str],args:=[(.var 0)],Δ:=[iZ,(.int .i64),(.int .i64)],res:=(.tup [(.var 0),(.var 1),(.var 2)]),f:=fun k x=>uQ k x }
def aGZ:LH (bG×Int×Int):={ Γ:=[.str,iZ,(.int .i64)],live:=[(0,(.var 0)),(2,(.row 0 1)),(3,(.var 2))],sto:=[(0,(.list 73 1 none))],nk:=1,ad:=[.t 2 73 (.pair (.int .i64) (.pair .str (.pair (.int .i64) (.int .i64))))],F:=fun k x=>eN k x.1 x.2.1 x.2.2 }
def aGS:LH (bG×Int×Int):={ Γ:=[.str,iZ,(.int .i64),(.int .i64),(.int .i64),.str,(.int .i64),(.int .i64)],live:=[(0,(.var 0)),(2,(.row 1 1)),(3,(.var 2)),(8,(.var 3)),(9,(.ref 0 0))],sto:=[(0,(.cells 73 4 [(.var 4),(.var 5),(.var 6),(.var 7)] false)),(1,(.list 73 1 none))],nk:=2,ad:=[.t 2 73 (.pair (.int .i64) (.pair .str (.pair (.int .i64) (.int .i64))))],F:=fun k x=>tZ k x.1 x.2.1 x.2.2.1 x.2.2.2.1 x.2.2.2.2.1 x.2.2.2.2.2.1 x.2.2.2.2.2.2.1 x.2.2.2.2.2.2.2 }
def aGC:aG (bG×Int×Int):={ loops:=[(4,aGZ)],cuts:=[(17,aGS)] }
def aGG:List aS:=[yV,aBE,kZ,uK,zK]
theorem aW4 (k:Nat) (x:(List UInt8)):uQ k x=fx xt aGG aAT Tryz.f22 aGC (aA Tryz.f22) k x:=by kernel_rfl
theorem aRt (k:Nat) (x:(List UInt8)×bG×Int):eN (k+1) x.1 x.2.1 x.2.2=iC xt aGG 65 0 aGC (aA Tryz.f22) (fY xt.T Tryz.f22.results aAT) 0 aGZ k x:=(eN.eq_def ..).trans (by kernel_rfl)
theorem aRq (k:Nat) (x:(List UInt8)×bG×Int×Int×Int×(List UInt8)×Int×Int):tZ (k+1) x.1 x.2.1 x.2.2.1 x.2.2.2.1 x.2.2.2.2.1 x.2.2.2.2.2.1 x.2.2.2.2.2.2.1 x.2.2.2.2.2.2.2=iC xt aGG 65 0 aGC (aA Tryz.f22) (fY xt.T Tryz.f22.results aAT) 1 aGS k x:=(tZ.eq_def ..).trans (by kernel_rfl)
theorem aWj (K:Nat):aE Tryz.prog aAT K:=aI (X:=xt) (g:=aAT) (H:=aGC) (env:=aGG) (c:=aA Tryz.f22) aJ mixed (fun k=>(aB.cons (aS3 k) (aB.cons (aVc k) (aB.cons (vS k) (aB.cons (aPC k) (aB.cons (aTo k) aB.nil)))))) Tryz.func22 (by kernel_rfl) (by kernel_rfl) (by kernel_rfl) (aD.all ((aD.zero.succ aGZ (by kernel_rfl) (fun _=>rfl) aRt).succ aGS (by kernel_rfl) (fun _=>rfl) aRq) (by kernel_rfl) (by kernel_rfl)) aW4 K
def aEd:aS:={ fid:=54,Γ:=[iZ,(.int .i64)],args:=[(.var 0),(.var 1)],Δ:=[iZ,(.int .i64),(.int .i64)],res:=(.ref 0 0),sto':=[(0,(.cells 104 3 [(.var 0),(.var 1),(.var 2)] false))],nk':=1,f:=fun k x=>aFm k x.1 x.2 }
def aOV:aG (bG×Int×Int):={}
def aOW:List aS:=[]
theorem aVh (k:Nat) (x:bG×Int):aFm k x.1 x.2=fx xt aOW aEd Tryz.f54 aOV (aA Tryz.f54) k x:=by kernel_rfl
theorem aUF (K:Nat):aE Tryz.prog aEd K:=aI (X:=xt) (g:=aEd) (H:=aOV) (env:=aOW) (c:=aA Tryz.f54) aJ mixed (fun k=>aB.nil) Tryz.func54 (by kernel_rfl) (by kernel_rfl) (by kernel_rfl) (aD.all aD.zero (by kernel_rfl) (by kernel_rfl)) aVh K
def aCn:aS:={ fid:=151,Γ:=[iZ,(.int .i64)],args:=[(.var 0),(.var 1)],Δ:=[.bool],res:=(.var 0),f:=fun k x=>aFq k x.1 x.2 }
def aSq:aG (Bool):={}
def aTt:List aS:=[]
theorem aXH (k:Nat) (x:bG×Int):aFq k x.1 x.2=fx xt aTt aCn Tryz.f151 aSq (aA Tryz.f151) k x:=by kernel_rfl
theorem aJO (K:Nat):aE Tryz.prog aCn K:=aI (X:=xt) (g:=aCn) (H:=aSq) (env:=aTt) (c:=aA Tryz.f151) aJ mixed (fun k=>aB.nil) Tryz.func151 (by kernel_rfl) (by kernel_rfl) (by kernel_rfl) (aD.all aD.zero (by kernel_rfl) (by kernel_rfl)) aXH K
def sP:aS:={ fid:=122,Γ:=[iZ,(.int .i64),.str],args:=[(.var 0),(.var 1),(.var 2)],Δ:=[.bool],res:=(.var 0),f:=fun k x=>kY k x.1 x.2.1 x.2.2 }
def aQ3:aG (Bool):={}
def aQ8:List aS:=[aCn]
theorem aW9 (k:Nat) (x:bG×Int×(List UInt8)):kY k x.1 x.2.1 x.2.2=fx xt aQ8 sP Tryz.f122 aQ3 (aA Tryz.f122) k x:=by kernel_rfl
theorem aBd (K:Nat):aE Tryz.prog sP K:=aI (X:=xt) (g:=sP) (H:=aQ3) (env:=aQ8) (c:=aA Tryz.f122) aJ mixed (fun k=>(aB.cons (aJO k) aB.nil)) Tryz.func122 (by kernel_rfl) (by kernel_rfl) (by kernel_rfl) (aD.all aD.zero (by kernel_rfl) (by kernel_rfl)) aW9 K
def fF:aS:={ fid:=86,Γ:=[iZ,(.int .i64),(.int .i64),.str],args:=[(.ref 0 0),(.var 3)],sto:=[(0,(.cells 104 3 [(.var 0),(.var 1),(.var 2)] false))],nk:=1,Δ:=[.bool,iZ,(.int .i64),(.int .i64)],res:=(.var 0),sto':=[(0,(.cells 104 3 [(.var 1),(.var 2),(.var 3)] false))],nk':=1,f:=fun k x=>aQ k x.1 x.2.1 x.2.2.1 x.2.2.2 }
def aGq:aG (Bool×bG×Int×Int):={ ord:=[(1,[.l 0,.l 1,.l 2,.l 3,.l 4,.l 5,.l 6,.l 7,.l 8,.l 9,.l 10,.l 11,.l 12,.l 13,.l 14,.h 15,.l 16,.l 17])] }
def aGn:List aS:=[sP]
theorem aNs (k:Nat) (x:bG×Int×Int×(List UInt8)):aQ k x.1 x.2.1 x.2.2.1 x.2.2.2=fx xt aGn fF Tryz.f86 aGq (aA Tryz.f86) k x:=by kernel_rfl
theorem kA (K:Nat):aE Tryz.prog fF K:=aI (X:=xt) (g:=fF) (H:=aGq) (env:=aGn) (c:=aA Tryz.f86) aJ mixed (fun k=>(aB.cons (aBd k) aB.nil)) Tryz.func86 (by kernel_rfl) (by kernel_rfl) (by kernel_rfl) (aD.all aD.zero (by kernel_rfl) (by kernel_rfl)) aNs K
def fA:aS:={ fid:=112,Γ:=[.str],args:=[(.var 0)],Δ:=[.bool],res:=(.var 0),f:=fun k x=>eF k x }
def aM4:aG (Bool):={}
def aMM:List aS:=[xF,aBi]
theorem aUm (k:Nat) (x:(List UInt8)):eF k x=fx xt aMM fA Tryz.f112 aM4 (aA Tryz.f112) k x:=by kernel_rfl
theorem iO (K:Nat):aE Tryz.prog fA K:=aI (X:=xt) (g:=fA) (H:=aM4) (env:=aMM) (c:=aA Tryz.f112) aJ mixed (fun k=>(aB.cons (aMK k) (aB.cons (aMW k) aB.nil))) Tryz.func112 (by kernel_rfl) (by kernel_rfl) (by kernel_rfl) (aD.all aD.zero (by kernel_rfl) (by kernel_rfl)) aUm K
def uI:aS:={ fid:=121,Γ:=[iZ,(.int .i64)],args:=[(.var 0),(.var 1)],Δ:=[.str,.bool],res:=(.tup [(.var 0),(.var 1)]),f:=fun k x=>vZ k x.1 x.2 }
def aOQ:aG ((List UInt8)×Bool):={}
def aO7:List aS:=[aCn,fA]
theorem aU4 (k:Nat) (x:bG×Int):vZ k x.1 x.2=fx xt aO7 uI Tryz.f121 aOQ (aA Tryz.f121) k x:=by kernel_rfl
theorem aCZ (K:Nat):aE Tryz.prog uI K:=aI (X:=xt) (g:=uI) (H:=aOQ) (env:=aO7) (c:=aA Tryz.f121) aJ mixed (fun k=>(aB.cons (aJO k) (aB.cons (iO k) aB.nil))) Tryz.func121 (by kernel_rfl) (by kernel_rfl) (by kernel_rfl) (aD.all aD.zero (by kernel_rfl) (by kernel_rfl)) aU4 K
def fM:aS:={ fid:=125,Γ:=[iZ,(.int .i64),(.int .i64),(.int .i64)],args:=[(.ref 0 0),(.var 3)],sto:=[(0,(.cells 104 3 [(.var 0),(.var 1),(.var 2)] false))],nk:=1,Δ:=[iZ,(.int .i64),(.int .i64)],res:=(.tup []),sto':=[(0,(.cells 104 3 [(.var 0),(.var 1),(.var 2)] false))],nk':=1,f:=fun k x=>dM k x.1 x.2.1 x.2.2.1 x.2.2.2 }
def aFZ:aG (bG×Int×Int):={}
def aFQ:List aS:=[]
theorem aLT (k:Nat) (x:bG×Int×Int×Int):dM k x.1 x.2.1 x.2.2.1 x.2.2.2=fx xt aFQ fM Tryz.f125 aFZ (aA Tryz.f125) k x:=by kernel_rfl
theorem kU (K:Nat):aE Tryz.prog fM K:=aI (X:=xt) (g:=fM) (H:=aFZ) (env:=aFQ) (c:=aA Tryz.f125) aJ mixed (fun k=>aB.nil) Tryz.func125 (by kernel_rfl) (by kernel_rfl) (by kernel_rfl) (aD.all aD.zero (by kernel_rfl) (by kernel_rfl)) aLT K
def nM:aS:={ fid:=126,Γ:=[iZ,(.int .i64),(.int .i64)],args:=[(.ref 0 0),(.fn 121 [] [])],sto:=[(0,(.cells 104 3 [(.var 0),(.var 1),(.var 2)] false))],nk:=1,Δ:=[.str,iZ,(.int .i64),(.int .i64)],res:=(.var 0),sto':=[(0,(.cells 104 3 [(.var 1),(.var 2),(.var 3)] false))],nk':=1,f:=fun k x=>gZ k x.1 x.2.1 x.2.2 }
def aAL:aG ((List UInt8)×bG×Int×Int):={ ord:=[(1,[.l 0,.l 1,.l 2,.l 3,.l 4,.l 5,.l 6,.l 7,.l 8,.h 9,.l 10,.l 11,.l 12,.l 13,.l 14])] }
def aAJ:List aS:=[uI,fM]
theorem aG9 (k:Nat) (x:bG×Int×Int):gZ k x.1 x.2.1 x.2.2=fx xt aAJ nM Tryz.f126 aAL (aA Tryz.f126) k x:=by kernel_rfl
theorem aGU (K:Nat):aE Tryz.prog nM K:=aI (X:=xt) (g:=nM) (H:=aAL) (env:=aAJ) (c:=aA Tryz.f126) aJ mixed (fun k=>(aB.cons (aCZ k) (aB.cons (kU k) aB.nil))) Tryz.func126 (by kernel_rfl) (by kernel_rfl) (by kernel_rfl) (aD.all aD.zero (by kernel_rfl) (by kernel_rfl)) aG9 K
def lT:aS:={ fid:=123,Γ:=[iZ,(.int .i64),(.int .i64)],args:=[(.ref 0 0)],sto:=[(0,(.cells 104 3 [(.var 0),(.var 1),(.var 2)] false))],nk:=1,Δ:=[.str,iZ,(.int .i64),(.int .i64)],res:=(.var 0),sto':=[(0,(.cells 104 3 [(.var 1),(.var 2),(.var 3)] false))],nk':=1,f:=fun k x=>bO k x.1 x.2.1 x.2.2 }
def aEK:aG ((List UInt8)×bG×Int×Int):={}
def aE8:List aS:=[nM]
theorem aL9 (k:Nat) (x:bG×Int×Int):bO k x.1 x.2.1 x.2.2=fx xt aE8 lT Tryz.f123 aEK (aA Tryz.f123) k x:=by kernel_rfl
theorem yG (K:Nat):aE Tryz.prog lT K:=aI (X:=xt) (g:=lT) (H:=aEK) (env:=aE8) (c:=aA Tryz.f123) aJ mixed (fun k=>(aB.cons (aGU k) aB.nil)) Tryz.func123 (by kernel_rfl) (by kernel_rfl) (by kernel_rfl) (aD.all aD.zero (by kernel_rfl) (by kernel_rfl)) aL9 K
def zE:aS:={ fid:=42,Γ:=[(.int .i64),.str],args:=[(.var 0),(.var 1),.nils],Δ:=[(.int .i64),(.int .i64),.str,.str],res:=(.ref 0 0),sto':=[(0,(.cells 60 5 [(.var 0),(.var 1),(.var 2),(.var 3),.nils] false))],nk':=1,f:=fun k x=>qW k x.1 x.2 }
def aMm:aG (Int×Int×(List UInt8)×(List UInt8)):={}
def aMo:List aS:=[]
def aG2:XT:={ xt with objs:=[60]++xt.objs }
theorem aSG (k:Nat) (x:Int×(List UInt8)):qW k x.1 x.2=fx aG2 aMo zE Tryz.f42 aMm (aA Tryz.f42) k x:=by kernel_rfl
theorem aJ8 (K:Nat):aE Tryz.prog zE K:=aI (X:=aG2) (g:=zE) (H:=aMm) (env:=aMo) (c:=aA Tryz.f42) (show XOk Tryz.prog aG2 from ⟨jM,aJ.tab⟩) mixed (fun k=>aB.nil) Tryz.func42 (by kernel_rfl) (by kernel_rfl) (by kernel_rfl) (aD.all aD.zero (by kernel_rfl) (by kernel_rfl)) aSG K
def zM:aS:={ fid:=152,Γ:=[iZ,(.int .i64)],args:=[(.var 0),(.var 1)],Δ:=[iZ,(.int .i64),(.int .i64)],res:=(.ref 0 0),sto':=[(0,(.cells 149 3 [(.var 0),(.var 1),(.var 2)] false))],nk':=1,f:=fun k x=>aAS k x.1 x.2 }
def aMV:aG (bG×Int×Int):={}
def aMe:List aS:=[]
theorem aTJ (k:Nat) (x:bG×Int):aAS k x.1 x.2=fx xt aMe zM Tryz.f152 aMV (aA Tryz.f152) k x:=by kernel_rfl
theorem aJ7 (K:Nat):aE Tryz.prog zM K:=aI (X:=xt) (g:=zM) (H:=aMV) (env:=aMe) (c:=aA Tryz.f152) aJ mixed (fun k=>aB.nil) Tryz.func152 (by kernel_rfl) (by kernel_rfl) (by kernel_rfl) (aD.all aD.zero (by kernel_rfl) (by kernel_rfl)) aTJ K
def jS:aS:={ fid:=191,Γ:=[.str],args:=[(.var 0)],Δ:=[(.int .i64)],res:=(.var 0),f:=fun k x=>utf8_RuneCountInString k x }
def pN:LH (Int):={ Γ:=[(.int .i64),.str,(.int .i64)],live:=[(2,(.var 0)),(4,(.it 0))],sto:=[(0,(.iter 1 2))],nk:=1,F:=fun k x=>jC k x.1 x.2.1 x.2.2 }
def rH:aG (Int):={ loops:=[(2,pN)] }
def rJ:List aS:=[]
theorem aF7 (k:Nat) (x:(List UInt8)):utf8_RuneCountInString k x=fx xt rJ jS Tryz.f191 rH (aA Tryz.f191) k x:=by kernel_rfl
theorem aDq (k:Nat) (x:Int×(List UInt8)×Int):jC (k+1) x.1 x.2.1 x.2.2=iC xt rJ 10 0 rH (aA Tryz.f191) (fY xt.T Tryz.f191.results jS) 0 pN k x:=(jC.eq_def ..).trans (by kernel_rfl)
theorem aF4 (K:Nat):aE Tryz.prog jS K:=aI (X:=xt) (g:=jS) (H:=rH) (env:=rJ) (c:=aA Tryz.f191) aJ mixed (fun k=>aB.nil) Tryz.func191 (by kernel_rfl) (by kernel_rfl) (by kernel_rfl) (aD.all (aD.zero.succ pN (by kernel_rfl) (fun _=>rfl) aDq) (by kernel_rfl) (by kernel_rfl)) aF7 K
def fH:aS:={ fid:=205,Γ:=[.str],args:=[(.var 0)],Δ:=[(.int .i32),(.int .i64)],res:=(.tup [(.var 0),(.var 1)]),f:=fun k x=>utf8_decodeRuneInStringSlow k x }
def lG:LH (Int×Int):={ Γ:=[.str,(.int .u8),(.int .i64),(.int .u8)],live:=[(0,(.var 0)),(5,(.var 1)),(8,(.var 2)),(10,(.var 3))],F:=fun k x=>iU k x.1 x.2.1 x.2.2.1 x.2.2.2 }
def mS:aG (Int×Int):={ cuts:=[(16,lG)] }
def mP:List aS:=[]
theorem aCI (k:Nat) (x:(List UInt8)):utf8_decodeRuneInStringSlow k x=fx xt mP fH Tryz.f205 mS (aA Tryz.f205) k x:=by kernel_rfl
theorem aA3 (k:Nat) (x:(List UInt8)×Int×Int×Int):iU (k+1) x.1 x.2.1 x.2.2.1 x.2.2.2=iC xt mP 117 0 mS (aA Tryz.f205) (fY xt.T Tryz.f205.results fH) 0 lG k x:=(iU.eq_def ..).trans (by kernel_rfl)
theorem aCq (K:Nat):aE Tryz.prog fH K:=aI (X:=xt) (g:=fH) (H:=mS) (env:=mP) (c:=aA Tryz.f205) aJ mixed (fun k=>aB.nil) Tryz.func205 (by kernel_rfl) (by kernel_rfl) (by kernel_rfl) (aD.all (aD.zero.succ lG (by kernel_rfl) (fun _=>rfl) aA3) (by kernel_rfl) (by kernel_rfl)) aCI K
def lJ:aS:={ fid:=192,Γ:=[.str],args:=[(.var 0)],Δ:=[(.int .i32),(.int .i64)],res:=(.tup [(.var 0),(.var 1)]),f:=fun k x=>utf8_DecodeRuneInString k x }
def xZ:aG (Int×Int):={}
def xY:List aS:=[fH]
theorem aFF (k:Nat) (x:(List UInt8)):utf8_DecodeRuneInString k x=fx xt xY lJ Tryz.f192 xZ (aA Tryz.f192) k x:=by kernel_rfl
theorem aFh (K:Nat):aE Tryz.prog lJ K:=aI (X:=xt) (g:=lJ) (H:=xZ) (env:=xY) (c:=aA Tryz.f192) aJ mixed (fun k=>(aB.cons (aCq k) aB.nil)) Tryz.func192 (by kernel_rfl) (by kernel_rfl) (by kernel_rfl) (aD.all aD.zero (by kernel_rfl) (by kernel_rfl)) aFF K
def nL:aS:={ fid:=182,Γ:=[.str,(.int .i64)],args:=[(.var 0),(.var 1)],Δ:=[(.list false .str)],res:=(.var 0),f:=fun k x=>aDp k x.1 x.2 }
def yJ:LH ((List (List UInt8))):={ Γ:=[.str,(.int .i64)],live:=[(0,(.var 0)),(1,(.var 1))],F:=fun k x=>lV k x.1 x.2 }
def yB:LH ((List (List UInt8))):={ Γ:=[.str,(.int .i64),(.list false .str),(.int .i64)],live:=[(0,(.var 0)),(1,(.var 1)),(6,(.row 0 2)),(7,(.var 3))],sto:=[(0,(.list 9 2 none))],nk:=1,F:=fun k x=>pF k x.1 x.2.1 x.2.2.1 x.2.2.2 }
def vF:aG ((List (List UInt8))):={ loops:=[(6,yB)],cuts:=[(4,yJ)] }
def vD:List aS:=[jS,lJ]
theorem aNE (k:Nat) (x:(List UInt8)×Int):aDp k x.1 x.2=fx xt vD nL Tryz.f182 vF (aA Tryz.f182) k x:=by kernel_rfl
theorem aJC (k:Nat) (x:(List UInt8)×Int):lV (k+1) x.1 x.2=iC xt vD 50 0 vF (aA Tryz.f182) (fY xt.T Tryz.f182.results nL) 0 yJ k x:=(lV.eq_def ..).trans (by kernel_rfl)
theorem aJD (k:Nat) (x:(List UInt8)×Int×(List (List UInt8))×Int):pF (k+1) x.1 x.2.1 x.2.2.1 x.2.2.2=iC xt vD 50 0 vF (aA Tryz.f182) (fY xt.T Tryz.f182.results nL) 1 yB k x:=(pF.eq_def ..).trans (by kernel_rfl)
theorem aNJ (K:Nat):aE Tryz.prog nL K:=aI (X:=xt) (g:=nL) (H:=vF) (env:=vD) (c:=aA Tryz.f182) aJ mixed (fun k=>(aB.cons (aF4 k) (aB.cons (aFh k) aB.nil))) Tryz.func182 (by kernel_rfl) (by kernel_rfl) (by kernel_rfl) (aD.all ((aD.zero.succ yJ (by kernel_rfl) (fun _=>rfl) aJC).succ yB (by kernel_rfl) (fun _=>rfl) aJD) (by kernel_rfl) (by kernel_rfl)) aNE K
def aJd:aS:={ fid:=183,Γ:=[.str,.str],args:=[(.var 0),(.var 1)],Δ:=[(.int .i64)],res:=(.var 0),f:=fun k x=>strings_Count k x.1 x.2 }
set_option maxHeartbeats 2000000 in
theorem aRQ (s:ByteArray) (c:UInt8) (w:World):Calls Tryz.prog 183 #[.string s,.string ⟨#[c]⟩] w fun e w'=>e=.returned (.int .i64 (Lib.countByte s.data.toList c))∧w'=w:=by
 go_enter Tryz.func183,Tryz.ntmps183
 go_wp2
 rw [run_callFunc_extern Tryz.func193 (by kernel_rfl) (by kernel_rfl) (by kernel_rfl) (e:=Extern.BytealgCount.count) (by kernel_rfl),Lib.run_countString]
 simp only [Result.andThen]
 rw [Oper.upon_value]
 go_wp2
 go_ret
 exact ⟨rfl,rfl⟩
theorem aQc (K:Nat):aE Tryz.prog aJd K:=aTv (f:=strings_Count) ⟨_,Tryz.func183,by kernel_rfl,by kernel_rfl⟩ fun a b y h w=>by
 unfold strings_Count at h
 split at h
 ·cases h; exact aRQ ⟨a.toArray⟩ _ w
 ·cases h
def aJt:aS:={ fid:=184,Γ:=[.str,.str],args:=[(.var 0),(.var 1)],Δ:=[(.int .i64)],res:=(.var 0),f:=fun k x=>strings_Index k x.1 x.2 }
set_option maxHeartbeats 2000000 in
theorem aXq (s:ByteArray) (c:Int) (w:World):Calls Tryz.prog 206 #[.string s,.int .u8 c] w fun e w'=>e=.returned (.int .i64 (Lib.indexByte s.data.toList c.toNat.toUInt8))∧w'=w:=by
 go_enter Tryz.func206,Tryz.ntmps206
 go_wp2
 rw [run_callFunc_extern Tryz.func213 (by kernel_rfl) (by kernel_rfl) (by kernel_rfl) (e:=Extern.BytealgIndexByte.indexByte) (by kernel_rfl),Lib.run_indexByteString]
 simp only [Result.andThen]
 rw [Oper.upon_value]
 go_wp2
 go_ret
 exact ⟨rfl,rfl⟩
set_option maxHeartbeats 2000000 in
theorem aYn (s:ByteArray) (c:UInt8) (w:World):Calls Tryz.prog 194 #[.string s,.string ⟨#[c]⟩] w fun e w'=>e=.returned (.int .i64 (Lib.indexByte s.data.toList c))∧w'=w:=by
 go_enter Tryz.func194,Tryz.ntmps194
 go_wp2_with (go_at_call 206; refine (aXq _ _ _).mono ?_; rintro e w' ⟨rfl,rfl⟩)
 ·have h:([c] == s.toList)=true:=by assumption
  go_ret
  refine ⟨?_,rfl⟩
  have e:s.data.toList=[c]:=by rw [← Lib.toList_data]; exact (beq_iff_eq.1 h).symm
  rw [e]
  simp [Lib.indexByte]
 ·go_ret
  exact ⟨rfl,rfl⟩
set_option maxHeartbeats 2000000 in
theorem aRY (s:ByteArray) (c:UInt8) (w:World):Calls Tryz.prog 184 #[.string s,.string ⟨#[c]⟩] w fun e w'=>e=.returned (.int .i64 (Lib.indexByte s.data.toList c))∧w'=w:=by
 go_enter Tryz.func184,Tryz.ntmps184
 go_wp2_with (go_at_call 194; refine (aYn _ _ _).mono ?_; rintro e w' ⟨rfl,rfl⟩)
 go_ret
 exact ⟨rfl,rfl⟩
theorem aQD (K:Nat):aE Tryz.prog aJt K:=aTv (f:=strings_Index) ⟨_,Tryz.func184,by kernel_rfl,by kernel_rfl⟩ fun a b y h w=>by
 unfold strings_Index at h
 split at h
 ·cases h; exact aRY ⟨a.toArray⟩ _ w
 ·cases h
def lW:aS:={ fid:=169,Γ:=[.str,.str,(.int .i64),(.int .i64)],args:=[(.var 0),(.var 1),(.var 2),(.var 3)],Δ:=[(.list false .str)],res:=(.var 0),f:=fun k x=>strings_genSplit k x.1 x.2.1 x.2.2.1 x.2.2.2 }
def wB:LH ((List (List UInt8))):={ Γ:=[.str,.str,(.int .i64),(.int .i64)],live:=[(0,(.var 0)),(1,(.var 1)),(2,(.var 2)),(3,(.var 3))],F:=fun k x=>kV k x.1 x.2.1 x.2.2.1 x.2.2.2 }
def vI:LH ((List (List UInt8))):={ Γ:=[.str,.str,(.int .i64),(.int .i64),(.list false .str),(.int .i64)],live:=[(0,(.var 0)),(1,(.var 1)),(2,(.var 2)),(3,(.var 3)),(9,(.row 0 4)),(10,(.var 5))],sto:=[(0,(.list 9 4 none))],nk:=1,F:=fun k x=>gK k x.1 x.2.1 x.2.2.1 x.2.2.2.1 x.2.2.2.2.1 x.2.2.2.2.2 }
def sR:aG ((List (List UInt8))):={ loops:=[(11,vI)],adr:=[(18,[.f 9])],cuts:=[(7,wB)] }
def tX:List aS:=[nL,aJd,aJt]
theorem aLV (k:Nat) (x:(List UInt8)×(List UInt8)×Int×Int):strings_genSplit k x.1 x.2.1 x.2.2.1 x.2.2.2=fx xt tX lW Tryz.f169 sR (aA Tryz.f169) k x:=by kernel_rfl
theorem aIG (k:Nat) (x:(List UInt8)×(List UInt8)×Int×Int):kV (k+1) x.1 x.2.1 x.2.2.1 x.2.2.2=iC xt tX 66 0 sR (aA Tryz.f169) (fY xt.T Tryz.f169.results lW) 0 wB k x:=(kV.eq_def ..).trans (by kernel_rfl)
theorem aIB (k:Nat) (x:(List UInt8)×(List UInt8)×Int×Int×(List (List UInt8))×Int):gK (k+1) x.1 x.2.1 x.2.2.1 x.2.2.2.1 x.2.2.2.2.1 x.2.2.2.2.2=iC xt tX 66 0 sR (aA Tryz.f169) (fY xt.T Tryz.f169.results lW) 1 vI k x:=(gK.eq_def ..).trans (by kernel_rfl)
theorem aLU (K:Nat):aE Tryz.prog lW K:=aI (X:=xt) (g:=lW) (H:=sR) (env:=tX) (c:=aA Tryz.f169) aJ mixed (fun k=>(aB.cons (aNJ k) (aB.cons (aQc k) (aB.cons (aQD k) aB.nil)))) Tryz.func169 (by kernel_rfl) (by kernel_rfl) (by kernel_rfl) (aD.all ((aD.zero.succ wB (by kernel_rfl) (fun _=>rfl) aIG).succ vI (by kernel_rfl) (fun _=>rfl) aIB) (by kernel_rfl) (by kernel_rfl)) aLV K
def aAa:aS:={ fid:=143,Γ:=[.str,.str],args:=[(.var 0),(.var 1)],Δ:=[(.list false .str)],res:=(.var 0),f:=fun k x=>strings_Split k x.1 x.2 }
def aI2:aG ((List (List UInt8))):={}
def aJj:List aS:=[lW]
theorem aPH (k:Nat) (x:(List UInt8)×(List UInt8)):strings_Split k x.1 x.2=fx xt aJj aAa Tryz.f143 aI2 (aA Tryz.f143) k x:=by kernel_rfl
theorem aQe (K:Nat):aE Tryz.prog aAa K:=aI (X:=xt) (g:=aAa) (H:=aI2) (env:=aJj) (c:=aA Tryz.f143) aJ mixed (fun k=>(aB.cons (aLU k) aB.nil)) Tryz.func143 (by kernel_rfl) (by kernel_rfl) (by kernel_rfl) (aD.all aD.zero (by kernel_rfl) (by kernel_rfl)) aPH K
def aBl:aS:={ fid:=141,Γ:=[.str],args:=[(.var 0)],Δ:=[.bool],res:=(.var 0),f:=fun k x=>aA7 k x }
def aKq:aG (Bool):={}
def aLe:List aS:=[fA]
theorem aRF (k:Nat) (x:(List UInt8)):aA7 k x=fx xt aLe aBl Tryz.f141 aKq (aA Tryz.f141) k x:=by kernel_rfl
theorem aRy (K:Nat):aE Tryz.prog aBl K:=aI (X:=xt) (g:=aBl) (H:=aKq) (env:=aLe) (c:=aA Tryz.f141) aJ mixed (fun k=>(aB.cons (iO k) aB.nil)) Tryz.func141 (by kernel_rfl) (by kernel_rfl) (by kernel_rfl) (aD.all aD.zero (by kernel_rfl) (by kernel_rfl)) aRF K
def nA:aS:={ fid:=168,Γ:=[(.list false .str)],args:=[(.var 0),(.fn 141 [] [])],Δ:=[(.int .i64)],res:=(.var 0),f:=fun k x=>tM k x }
def uC:LH (Int):={ Γ:=[(.list false .str),(.int .i64)],live:=[(0,(.var 0)),(1,(.fn 141 [] [])),(7,(.len 0)),(8,(.var 1))],F:=fun k x=>cK k x.1 x.2 }
def wH:aG (Int):={ loops:=[(2,uC)] }
def vX:List aS:=[aBl]
theorem aJB (k:Nat) (x:(List (List UInt8))):tM k x=fx xt vX nA Tryz.f168 wH (aA Tryz.f168) k x:=by kernel_rfl
theorem aHq (k:Nat) (x:(List (List UInt8))×Int):cK (k+1) x.1 x.2=iC xt vX 19 0 wH (aA Tryz.f168) (fY xt.T Tryz.f168.results nA) 0 uC k x:=(cK.eq_def ..).trans (by kernel_rfl)
theorem aJL (K:Nat):aE Tryz.prog nA K:=aI (X:=xt) (g:=nA) (H:=wH) (env:=vX) (c:=aA Tryz.f168) aJ mixed (fun k=>(aB.cons (aRy k) aB.nil)) Tryz.func168 (by kernel_rfl) (by kernel_rfl) (by kernel_rfl) (aD.all (aD.zero.succ uC (by kernel_rfl) (fun _=>rfl) aHq) (by kernel_rfl) (by kernel_rfl)) aJB K
def nJ:aS:={ fid:=142,Γ:=[(.list false .str)],args:=[(.var 0),(.fn 141 [] [])],Δ:=[.bool],res:=(.var 0),f:=fun k x=>pZ k x }
def aAK:aG (Bool):={}
def aAR:List aS:=[nA]
theorem aGY (k:Nat) (x:(List (List UInt8))):pZ k x=fx xt aAR nJ Tryz.f142 aAK (aA Tryz.f142) k x:=by kernel_rfl
theorem aG8 (K:Nat):aE Tryz.prog nJ K:=aI (X:=xt) (g:=nJ) (H:=aAK) (env:=aAR) (c:=aA Tryz.f142) aJ mixed (fun k=>(aB.cons (aJL k) aB.nil)) Tryz.func142 (by kernel_rfl) (by kernel_rfl) (by kernel_rfl) (aD.all aD.zero (by kernel_rfl) (by kernel_rfl)) aGY K
def mL:aS:={ fid:=110,Γ:=[.str],args:=[(.var 0)],Δ:=[.bool],res:=(.var 0),f:=fun k x=>lR k x }
def aOT:aG (Bool):={}
def aN1:List aS:=[aAa,nJ]
theorem aUL (k:Nat) (x:(List UInt8)):lR k x=fx xt aN1 mL Tryz.f110 aOT (aA Tryz.f110) k x:=by kernel_rfl
theorem rE (K:Nat):aE Tryz.prog mL K:=aI (X:=xt) (g:=mL) (H:=aOT) (env:=aN1) (c:=aA Tryz.f110) aJ mixed (fun k=>(aB.cons (aQe k) (aB.cons (aG8 k) aB.nil))) Tryz.func110 (by kernel_rfl) (by kernel_rfl) (by kernel_rfl) (aD.all aD.zero (by kernel_rfl) (by kernel_rfl)) aUL K
def xC:aS:={ fid:=127,Γ:=[iZ,(.int .i64)],args:=[(.var 0),(.var 1)],Δ:=[.str,.bool],res:=(.tup [(.var 0),(.var 1)]),f:=fun k x=>aAB k x.1 x.2 }
def aOp:aG ((List UInt8)×Bool):={}
def aPe:List aS:=[aCn,mL]
theorem aU3 (k:Nat) (x:bG×Int):aAB k x.1 x.2=fx xt aPe xC Tryz.f127 aOp (aA Tryz.f127) k x:=by kernel_rfl
theorem aHo (K:Nat):aE Tryz.prog xC K:=aI (X:=xt) (g:=xC) (H:=aOp) (env:=aPe) (c:=aA Tryz.f127) aJ mixed (fun k=>(aB.cons (aJO k) (aB.cons (rE k) aB.nil))) Tryz.func127 (by kernel_rfl) (by kernel_rfl) (by kernel_rfl) (aD.all aD.zero (by kernel_rfl) (by kernel_rfl)) aU3 K
def tB:aS:={ fid:=188,Γ:=[(.int .i64),.str,(.list false .tree)],args:=[(.var 0),(.var 1),(.var 2)],Δ:=[.tree],res:=(.var 0),f:=fun k x=>pI k x.1 x.2.1 x.2.2 }
def aOj:aG (Tr):={}
def aOk:List aS:=[]
theorem aUX (k:Nat) (x:Int×(List UInt8)×(List Tr)):pI k x.1 x.2.1 x.2.2=fx xt aOk tB Tryz.f188 aOj (aA Tryz.f188) k x:=by kernel_rfl
theorem aCS (K:Nat):aE Tryz.prog tB K:=aI (X:=xt) (g:=tB) (H:=aOj) (env:=aOk) (c:=aA Tryz.f188) aJ mixed (fun k=>aB.nil) Tryz.func188 (by kernel_rfl) (by kernel_rfl) (by kernel_rfl) (aD.all aD.zero (by kernel_rfl) (by kernel_rfl)) aUX K
def iH:aS:={ fid:=187,Γ:=[iZ,(.int .i64),(.int .i64),.str],args:=[(.ref 0 0),(.var 3)],sto:=[(0,(.cells 149 3 [(.var 0),(.var 1),(.var 2)] false))],nk:=1,Δ:=[.bool,iZ,(.int .i64),(.int .i64)],res:=(.var 0),sto':=[(0,(.cells 149 3 [(.var 1),(.var 2),(.var 3)] false))],nk':=1,f:=fun k x=>bK k x.1 x.2.1 x.2.2.1 x.2.2.2 }
def aED:aG (Bool×bG×Int×Int):={ ord:=[(1,[.l 0,.l 1,.l 2,.l 3,.l 4,.l 5,.l 6,.l 7,.l 8,.l 9,.l 10,.l 11,.l 12,.l 13,.l 14,.h 15,.l 16,.l 17])] }
def aE7:List aS:=[sP]
theorem aMb (k:Nat) (x:bG×Int×Int×(List UInt8)):bK k x.1 x.2.1 x.2.2.1 x.2.2.2=fx xt aE7 iH Tryz.f187 aED (aA Tryz.f187) k x:=by kernel_rfl
theorem nS (K:Nat):aE Tryz.prog iH K:=aI (X:=xt) (g:=iH) (H:=aED) (env:=aE7) (c:=aA Tryz.f187) aJ mixed (fun k=>(aB.cons (aBd k) aB.nil)) Tryz.func187 (by kernel_rfl) (by kernel_rfl) (by kernel_rfl) (aD.all aD.zero (by kernel_rfl) (by kernel_rfl)) aMb K
def jH:aS:={ fid:=203,Γ:=[iZ,(.int .i64),(.int .i64),(.int .i64)],args:=[(.ref 0 0),(.var 3)],sto:=[(0,(.cells 149 3 [(.var 0),(.var 1),(.var 2)] false))],nk:=1,Δ:=[iZ,(.int .i64),(.int .i64)],res:=(.tup []),sto':=[(0,(.cells 149 3 [(.var 0),(.var 1),(.var 2)] false))],nk':=1,f:=fun k x=>cQ k x.1 x.2.1 x.2.2.1 x.2.2.2 }
def aD1:aG (bG×Int×Int):={}
def aD4:List aS:=[]
theorem aKa (k:Nat) (x:bG×Int×Int×Int):cQ k x.1 x.2.1 x.2.2.1 x.2.2.2=fx xt aD4 jH Tryz.f203 aD1 (aA Tryz.f203) k x:=by kernel_rfl
theorem qQ (K:Nat):aE Tryz.prog jH K:=aI (X:=xt) (g:=jH) (H:=aD1) (env:=aD4) (c:=aA Tryz.f203) aJ mixed (fun k=>aB.nil) Tryz.func203 (by kernel_rfl) (by kernel_rfl) (by kernel_rfl) (aD.all aD.zero (by kernel_rfl) (by kernel_rfl)) aKa K
def nU:aS:={ fid:=204,Γ:=[iZ,(.int .i64),(.int .i64),.str],args:=[(.ref 0 0),(.var 3)],sto:=[(0,(.cells 149 3 [(.var 0),(.var 1),(.var 2)] false))],nk:=1,Δ:=[iZ,(.int .i64),(.int .i64)],res:=(.tup []),sto':=[(0,(.cells 149 3 [(.var 0),(.var 1),(.var 2)] false))],nk':=1,f:=fun k x=>dP k x.1 x.2.1 x.2.2.1 x.2.2.2 }
def aDY:aG (bG×Int×Int):={}
def aD2:List aS:=[iH,jH]
theorem aJQ (k:Nat) (x:bG×Int×Int×(List UInt8)):dP k x.1 x.2.1 x.2.2.1 x.2.2.2=fx xt aD2 nU Tryz.f204 aDY (aA Tryz.f204) k x:=by kernel_rfl
theorem aDc (K:Nat):aE Tryz.prog nU K:=aI (X:=xt) (g:=nU) (H:=aDY) (env:=aD2) (c:=aA Tryz.f204) aJ mixed (fun k=>(aB.cons (nS k) (aB.cons (qQ k) aB.nil))) Tryz.func204 (by kernel_rfl) (by kernel_rfl) (by kernel_rfl) (aD.all aD.zero (by kernel_rfl) (by kernel_rfl)) aJQ K
def oC:aS:={ fid:=202,Γ:=[iZ,(.int .i64),(.int .i64)],args:=[(.ref 0 0)],sto:=[(0,(.cells 149 3 [(.var 0),(.var 1),(.var 2)] false))],nk:=1,Δ:=[.str,iZ,(.int .i64),(.int .i64)],res:=(.var 0),sto':=[(0,(.cells 149 3 [(.var 1),(.var 2),(.var 3)] false))],nk':=1,f:=fun k x=>fB k x.1 x.2.1 x.2.2 }
def aD0:aG ((List UInt8)×bG×Int×Int):={ ord:=[(1,[.l 0,.l 1,.l 2,.l 3,.l 4,.l 5,.l 6,.l 7,.h 8,.l 9,.l 10,.l 11,.l 12,.l 13])] }
def aDP:List aS:=[uI,jH]
theorem aKM (k:Nat) (x:bG×Int×Int):fB k x.1 x.2.1 x.2.2=fx xt aDP oC Tryz.f202 aD0 (aA Tryz.f202) k x:=by kernel_rfl
theorem aC4 (K:Nat):aE Tryz.prog oC K:=aI (X:=xt) (g:=oC) (H:=aD0) (env:=aDP) (c:=aA Tryz.f202) aJ mixed (fun k=>(aB.cons (aCZ k) (aB.cons (qQ k) aB.nil))) Tryz.func202 (by kernel_rfl) (by kernel_rfl) (by kernel_rfl) (aD.all aD.zero (by kernel_rfl) (by kernel_rfl)) aKM K
def qN:aS:={ fid:=174,Γ:=[iZ,(.int .i64),(.int .i64),.tree,.str,(.int .i64)],args:=[(.ref 0 0),(.var 3),(.var 4),(.var 5),(.fn 153 [(.ref 0 0)] [])],sto:=[(0,(.cells 149 3 [(.var 0),(.var 1),(.var 2)] false))],nk:=1,Δ:=[.tree,iZ,(.int .i64),(.int .i64)],res:=(.var 0),sto':=[(0,(.cells 149 3 [(.var 1),(.var 2),(.var 3)] false))],nk':=1,f:=fun k x=>iM k x.1 x.2.1 x.2.2.1 x.2.2.2.1 x.2.2.2.2.1 x.2.2.2.2.2 }
def tK:aS:={ fid:=174,Γ:=[iZ,(.int .i64),(.int .i64),.tree,.str,(.int .i64)],args:=[(.ref 0 0),(.var 3),(.var 4),(.var 5),(.fn 175 [(.ref 0 0)] [])],sto:=[(0,(.cells 149 3 [(.var 0),(.var 1),(.var 2)] false))],nk:=1,Δ:=[.tree,iZ,(.int .i64),(.int .i64)],res:=(.var 0),sto':=[(0,(.cells 149 3 [(.var 1),(.var 2),(.var 3)] false))],nk':=1,f:=fun k x=>kF k x.1 x.2.1 x.2.2.1 x.2.2.2.1 x.2.2.2.2.1 x.2.2.2.2.2 }
def gP:aS:={ fid:=186,Γ:=[iZ,(.int .i64),(.int .i64)],args:=[(.ref 0 0)],sto:=[(0,(.cells 149 3 [(.var 0),(.var 1),(.var 2)] false))],nk:=1,Δ:=[(.list false .tree),iZ,(.int .i64),(.int .i64)],res:=(.var 0),sto':=[(0,(.cells 149 3 [(.var 1),(.var 2),(.var 3)] false))],nk':=1,f:=fun k x=>fC k x.1 x.2.1 x.2.2 }
def nV:aS:={ fid:=189,Γ:=[iZ,(.int .i64),(.int .i64)],args:=[(.ref 0 0)],sto:=[(0,(.cells 149 3 [(.var 0),(.var 1),(.var 2)] false))],nk:=1,Δ:=[.tree,iZ,(.int .i64),(.int .i64)],res:=(.var 0),sto':=[(0,(.cells 149 3 [(.var 1),(.var 2),(.var 3)] false))],nk':=1,f:=fun k x=>bS k x.1 x.2.1 x.2.2 }
def kS:aS:={ fid:=175,Γ:=[iZ,(.int .i64),(.int .i64)],args:=[(.ref 0 0)],sto:=[(0,(.cells 149 3 [(.var 0),(.var 1),(.var 2)] false))],nk:=1,Δ:=[.tree,iZ,(.int .i64),(.int .i64)],res:=(.var 0),sto':=[(0,(.cells 149 3 [(.var 1),(.var 2),(.var 3)] false))],nk':=1,f:=fun k x=>bN k x.1 x.2.1 x.2.2 }
def iN:aS:={ fid:=153,Γ:=[iZ,(.int .i64),(.int .i64)],args:=[(.ref 0 0)],sto:=[(0,(.cells 149 3 [(.var 0),(.var 1),(.var 2)] false))],nk:=1,Δ:=[.tree,iZ,(.int .i64),(.int .i64)],res:=(.var 0),sto':=[(0,(.cells 149 3 [(.var 1),(.var 2),(.var 3)] false))],nk':=1,f:=fun k x=>bP k x.1 x.2.1 x.2.2 }
def aDi:aG (Tr×bG×Int×Int):={}
def aDk:List aS:=[iH,iN,tB]
theorem aJI (k:Nat) (x:bG×Int×Int×Tr×(List UInt8)×Int):iM (k+1) x.1 x.2.1 x.2.2.1 x.2.2.2.1 x.2.2.2.2.1 x.2.2.2.2.2=fx xt aDk qN Tryz.f174 aDi (aA Tryz.f174) k x:=(iM.eq_def ..).trans (by kernel_rfl)
def aEF:aG (Tr×bG×Int×Int):={}
def aFv:List aS:=[iH,kS,tB]
theorem aLO (k:Nat) (x:bG×Int×Int×Tr×(List UInt8)×Int):kF (k+1) x.1 x.2.1 x.2.2.1 x.2.2.2.1 x.2.2.2.2.1 x.2.2.2.2.2=fx xt aFv tK Tryz.f174 aEF (aA Tryz.f174) k x:=(kF.eq_def ..).trans (by kernel_rfl)
def uZ:LH ((List Tr)×bG×Int×Int):={ Γ:=[(.list false .tree),iZ,(.int .i64),(.int .i64),(.list false (.pair .str .bool))],live:=[(0,(.ref 0 0)),(3,(.row 2 0)),(4,(.mp 1))],sto:=[(0,(.cells 149 3 [(.var 1),(.var 2),(.var 3)] false)),(1,(.map 4)),(2,(.list 25 0 none))],nk:=3,ad:=[.t 3 25 .tree],F:=fun k x=>dH k x.1 x.2.1 x.2.2.1 x.2.2.2.1 x.2.2.2.2 }
def uX:LH ((List Tr)×bG×Int×Int):={ Γ:=[(.list false .tree),.str,iZ,(.int .i64),(.int .i64),(.list false (.pair .str .bool))],live:=[(0,(.ref 0 0)),(3,(.row 2 0)),(4,(.mp 1)),(6,(.var 1))],sto:=[(0,(.cells 149 3 [(.var 2),(.var 3),(.var 4)] false)),(1,(.map 5)),(2,(.list 25 0 none))],nk:=3,ad:=[.t 3 25 .tree],F:=fun k x=>bV k x.1 x.2.1 x.2.2.1 x.2.2.2.1 x.2.2.2.2.1 x.2.2.2.2.2 }
def rV:aG ((List Tr)×bG×Int×Int):={ loops:=[(3,uZ)],cuts:=[(9,uX)] }
def rS:List aS:=[oC,jH,nU,iN,tB,iH]
theorem aKQ (k:Nat) (x:bG×Int×Int):fC (k+1) x.1 x.2.1 x.2.2=fx xt rS gP Tryz.f186 rV (aA Tryz.f186) k x:=(fC.eq_def ..).trans (by kernel_rfl)
theorem aHN (k:Nat) (x:(List Tr)×bG×Int×Int×(List ((List UInt8)×Bool))):dH (k+1) x.1 x.2.1 x.2.2.1 x.2.2.2.1 x.2.2.2.2=iC xt rS 51 1 rV (aA Tryz.f186) (fY xt.T Tryz.f186.results gP) 0 uZ k x:=(dH.eq_def ..).trans (by kernel_rfl)
theorem aHZ (k:Nat) (x:(List Tr)×(List UInt8)×bG×Int×Int×(List ((List UInt8)×Bool))):bV (k+1) x.1 x.2.1 x.2.2.1 x.2.2.2.1 x.2.2.2.2.1 x.2.2.2.2.2=iC xt rS 51 1 rV (aA Tryz.f186) (fY xt.T Tryz.f186.results gP) 1 uX k x:=(bV.eq_def ..).trans (by kernel_rfl)
def uV:LH (Tr×bG×Int×Int):={ Γ:=[.str,iZ,(.int .i64),(.int .i64)],live:=[(0,(.ref 0 0)),(6,(.var 0))],sto:=[(0,(.cells 149 3 [(.var 1),(.var 2),(.var 3)] false))],nk:=1,F:=fun k x=>cF k x.1 x.2.1 x.2.2.1 x.2.2.2 }
def yM:aG (Tr×bG×Int×Int):={ ord:=[(3,[.l 0,.l 1,.l 2,.l 3,.l 4,.l 5,.l 6,.l 7,.h 8,.l 9,.l 10,.l 11,.l 12,.l 13])],cuts:=[(19,uV)] }
def yK:List aS:=[xC,tB,iH,iN,nU,oC,gP,jH]
theorem aLh (k:Nat) (x:bG×Int×Int):bS (k+1) x.1 x.2.1 x.2.2=fx xt yK nV Tryz.f189 yM (aA Tryz.f189) k x:=(bS.eq_def ..).trans (by kernel_rfl)
theorem aHx (k:Nat) (x:(List UInt8)×bG×Int×Int):cF (k+1) x.1 x.2.1 x.2.2.1 x.2.2.2=iC xt yK 71 1 yM (aA Tryz.f189) (fY xt.T Tryz.f189.results nV) 0 uV k x:=(cF.eq_def ..).trans (by kernel_rfl)
def aBw:aG (Tr×bG×Int×Int):={}
def aBL:List aS:=[nV,tK]
theorem aHz (k:Nat) (x:bG×Int×Int):bN (k+1) x.1 x.2.1 x.2.2=fx xt aBL kS Tryz.f175 aBw (aA Tryz.f175) k x:=(bN.eq_def ..).trans (by kernel_rfl)
def aEV:aG (Tr×bG×Int×Int):={}
def aFT:List aS:=[kS,qN]
theorem aLL (k:Nat) (x:bG×Int×Int):bP (k+1) x.1 x.2.1 x.2.2=fx xt aFT iN Tryz.f153 aEV (aA Tryz.f153) k x:=(bP.eq_def ..).trans (by kernel_rfl)
theorem aBr (K:Nat):aE Tryz.prog qN K∧aE Tryz.prog tK K∧aE Tryz.prog gP K∧aE Tryz.prog nV K∧aE Tryz.prog kS K∧aE Tryz.prog iN K:=by
 induction K using Nat.strongRecOn with
 | ind K ih=>exact ⟨aZ (X:=xt) (g:=qN) (H:=aDi) (env:=aDk) (c:=aA Tryz.f174) aJ mixed (fun k hk=>(aB.cons (nS k) (aB.cons (ih k hk).2.2.2.2.2 (aB.cons (aCS k) aB.nil)))) Tryz.func174 (by kernel_rfl) (by kernel_rfl) (by kernel_rfl) (aD.all aD.zero (by kernel_rfl) (by kernel_rfl)) (fun _=>rfl) aJI,aZ (X:=xt) (g:=tK) (H:=aEF) (env:=aFv) (c:=aA Tryz.f174) aJ mixed (fun k hk=>(aB.cons (nS k) (aB.cons (ih k hk).2.2.2.2.1 (aB.cons (aCS k) aB.nil)))) Tryz.func174 (by kernel_rfl) (by kernel_rfl) (by kernel_rfl) (aD.all aD.zero (by kernel_rfl) (by kernel_rfl)) (fun _=>rfl) aLO,aZ (X:=xt) (g:=gP) (H:=rV) (env:=rS) (c:=aA Tryz.f186) aJ mixed (fun k hk=>(aB.cons (aC4 k) (aB.cons (qQ k) (aB.cons (aDc k) (aB.cons (ih k hk).2.2.2.2.2 (aB.cons (aCS k) (aB.cons (nS k) aB.nil))))))) Tryz.func186 (by kernel_rfl) (by kernel_rfl) (by kernel_rfl) (aD.all ((aD.zero.succ uZ (by kernel_rfl) (fun _=>rfl) aHN).succ uX (by kernel_rfl) (fun _=>rfl) aHZ) (by kernel_rfl) (by kernel_rfl)) (fun _=>rfl) aKQ,aZ (X:=xt) (g:=nV) (H:=yM) (env:=yK) (c:=aA Tryz.f189) aJ mixed (fun k hk=>(aB.cons (aHo k) (aB.cons (aCS k) (aB.cons (nS k) (aB.cons (ih k hk).2.2.2.2.2 (aB.cons (aDc k) (aB.cons (aC4 k) (aB.cons (ih k hk).2.2.1 (aB.cons (qQ k) aB.nil))))))))) Tryz.func189 (by kernel_rfl) (by kernel_rfl) (by kernel_rfl) (aD.all (aD.zero.succ uV (by kernel_rfl) (fun _=>rfl) aHx) (by kernel_rfl) (by kernel_rfl)) (fun _=>rfl) aLh,aZ (X:=xt) (g:=kS) (H:=aBw) (env:=aBL) (c:=aA Tryz.f175) aJ mixed (fun k hk=>(aB.cons (ih k hk).2.2.2.1 (aB.cons (ih k hk).2.1 aB.nil))) Tryz.func175 (by kernel_rfl) (by kernel_rfl) (by kernel_rfl) (aD.all aD.zero (by kernel_rfl) (by kernel_rfl)) (fun _=>rfl) aHz,aZ (X:=xt) (g:=iN) (H:=aEV) (env:=aFT) (c:=aA Tryz.f153) aJ mixed (fun k hk=>(aB.cons (ih k hk).2.2.2.2.1 (aB.cons (ih k hk).1 aB.nil))) Tryz.func153 (by kernel_rfl) (by kernel_rfl) (by kernel_rfl) (aD.all aD.zero (by kernel_rfl) (by kernel_rfl)) (fun _=>rfl) aLL⟩
theorem aKs (K:Nat):aE Tryz.prog gP K:=(aBr K).2.2.1
theorem aL3 (K:Nat):aE Tryz.prog iN K:=(aBr K).2.2.2.2.2
def aBv:aS:={ fid:=129,Γ:=[iZ,(.int .i64)],args:=[(.var 0),(.var 1)],Δ:=[.tree,(.int .i64),(.int .i64)],res:=(.tup [(.var 0),(.var 1),(.var 2)]),f:=fun k x=>aCo k x.1 x.2 }
def aOr:aG (Tr×Int×Int):={ ord:=[(4,[.l 0,.l 1,.l 2,.l 3,.l 4,.l 5,.l 6,.l 7,.l 8,.l 9,.l 10]),(5,[.l 0,.l 1,.l 2,.l 3,.l 4,.m 5,.l 6,.l 7])] }
def aOt:List aS:=[zM,iN]
theorem aVp (k:Nat) (x:bG×Int):aCo k x.1 x.2=fx xt aOt aBv Tryz.f129 aOr (aA Tryz.f129) k x:=by kernel_rfl
theorem aM7 (K:Nat):aE Tryz.prog aBv K:=aI (X:=xt) (g:=aBv) (H:=aOr) (env:=aOt) (c:=aA Tryz.f129) aJ mixed (fun k=>(aB.cons (aJ7 k) (aB.cons (aL3 k) aB.nil))) Tryz.func129 (by kernel_rfl) (by kernel_rfl) (by kernel_rfl) (aD.all aD.zero (by kernel_rfl) (by kernel_rfl)) aVp K
def nI:aS:={ fid:=128,Γ:=[iZ,(.int .i64),(.int .i64)],args:=[(.ref 0 0),(.fn 129 [] [])],sto:=[(0,(.cells 104 3 [(.var 0),(.var 1),(.var 2)] false))],nk:=1,Δ:=[.tree,iZ,(.int .i64),(.int .i64)],res:=(.var 0),sto':=[(0,(.cells 104 3 [(.var 1),(.var 2),(.var 3)] false))],nk':=1,f:=fun k x=>gY k x.1 x.2.1 x.2.2 }
def aAF:aG (Tr×bG×Int×Int):={ ord:=[(3,[.l 0,.l 1,.l 2,.l 3,.l 4,.l 5,.l 6,.l 7,.l 8,.h 9,.l 10,.l 11,.l 12,.l 13,.l 14,.l 15,.l 16])] }
def aAX:List aS:=[aBv,fM]
theorem aHb (k:Nat) (x:bG×Int×Int):gY k x.1 x.2.1 x.2.2=fx xt aAX nI Tryz.f128 aAF (aA Tryz.f128) k x:=by kernel_rfl
theorem aG5 (K:Nat):aE Tryz.prog nI K:=aI (X:=xt) (g:=nI) (H:=aAF) (env:=aAX) (c:=aA Tryz.f128) aJ mixed (fun k=>(aB.cons (aM7 k) (aB.cons (kU k) aB.nil))) Tryz.func128 (by kernel_rfl) (by kernel_rfl) (by kernel_rfl) (aD.all aD.zero (by kernel_rfl) (by kernel_rfl)) aHb K
def kO:aS:={ fid:=90,Γ:=[iZ,(.int .i64),(.int .i64)],args:=[(.ref 0 0)],sto:=[(0,(.cells 104 3 [(.var 0),(.var 1),(.var 2)] false))],nk:=1,Δ:=[.tree,iZ,(.int .i64),(.int .i64)],res:=(.var 0),sto':=[(0,(.cells 104 3 [(.var 1),(.var 2),(.var 3)] false))],nk':=1,f:=fun k x=>iP k x.1 x.2.1 x.2.2 }
def aGg:aG (Tr×bG×Int×Int):={}
def aGp:List aS:=[nI]
theorem aNj (k:Nat) (x:bG×Int×Int):iP k x.1 x.2.1 x.2.2=fx xt aGp kO Tryz.f90 aGg (aA Tryz.f90) k x:=by kernel_rfl
theorem sU (K:Nat):aE Tryz.prog kO K:=aI (X:=xt) (g:=kO) (H:=aGg) (env:=aGp) (c:=aA Tryz.f90) aJ mixed (fun k=>(aB.cons (aG5 k) aB.nil)) Tryz.func90 (by kernel_rfl) (by kernel_rfl) (by kernel_rfl) (aD.all aD.zero (by kernel_rfl) (by kernel_rfl)) aNj K
def cV:aS:={ fid:=88,Γ:=[iZ,(.int .i64),(.int .i64),(.list false .str)],args:=[(.ref 0 0),(.var 3)],sto:=[(0,(.cells 104 3 [(.var 0),(.var 1),(.var 2)] false))],nk:=1,Δ:=[iZ,(.int .i64),(.int .i64)],res:=(.tup []),sto':=[(0,(.cells 104 3 [(.var 0),(.var 1),(.var 2)] false))],nk':=1,f:=fun k x=>bC k x.1 x.2.1 x.2.2.1 x.2.2.2 }
def wQ:LH (bG×Int×Int):={ Γ:=[(.list false .str),(.int .i64),iZ,(.int .i64),(.int .i64)],live:=[(0,(.ref 0 0)),(6,(.var 0)),(7,(.len 0)),(8,(.var 1))],sto:=[(0,(.cells 104 3 [(.var 2),(.var 3),(.var 4)] false))],nk:=1,F:=fun k x=>dA k x.1 x.2.1 x.2.2.1 x.2.2.2.1 x.2.2.2.2 }
def aAc:aG (bG×Int×Int):={ loops:=[(1,wQ)] }
def aAx:List aS:=[fF,fM]
theorem aLN (k:Nat) (x:bG×Int×Int×(List (List UInt8))):bC k x.1 x.2.1 x.2.2.1 x.2.2.2=fx xt aAx cV Tryz.f88 aAc (aA Tryz.f88) k x:=by kernel_rfl
theorem aIW (k:Nat) (x:(List (List UInt8))×Int×bG×Int×Int):dA (k+1) x.1 x.2.1 x.2.2.1 x.2.2.2.1 x.2.2.2.2=iC xt aAx 19 1 aAc (aA Tryz.f88) (fY xt.T Tryz.f88.results cV) 0 wQ k x:=(dA.eq_def ..).trans (by kernel_rfl)
theorem eT (K:Nat):aE Tryz.prog cV K:=aI (X:=xt) (g:=cV) (H:=aAc) (env:=aAx) (c:=aA Tryz.f88) aJ mixed (fun k=>(aB.cons (kA k) (aB.cons (kU k) aB.nil))) Tryz.func88 (by kernel_rfl) (by kernel_rfl) (by kernel_rfl) (aD.all (aD.zero.succ wQ (by kernel_rfl) (fun _=>rfl) aIW) (by kernel_rfl) (by kernel_rfl)) aLN K
def eP:aS:={ fid:=195,Γ:=[iZ,(.int .i64),(.int .i64),.str],args:=[(.ref 0 0),(.var 3)],sto:=[(0,(.cells 174 3 [(.var 0),(.var 1),(.var 2)] false))],nk:=1,Δ:=[.bool,iZ,(.int .i64),(.int .i64)],res:=(.var 0),sto':=[(0,(.cells 174 3 [(.var 1),(.var 2),(.var 3)] false))],nk':=1,f:=fun k x=>bF k x.1 x.2.1 x.2.2.1 x.2.2.2 }
def aEW:aG (Bool×bG×Int×Int):={ ord:=[(1,[.l 0,.l 1,.l 2,.l 3,.l 4,.l 5,.l 6,.l 7,.l 8,.l 9,.l 10,.l 11,.l 12,.l 13,.l 14,.h 15,.l 16,.l 17])] }
def aFO:List aS:=[sP]
theorem aLJ (k:Nat) (x:bG×Int×Int×(List UInt8)):bF k x.1 x.2.1 x.2.2.1 x.2.2.2=fx xt aFO eP Tryz.f195 aEW (aA Tryz.f195) k x:=by kernel_rfl
theorem jI (K:Nat):aE Tryz.prog eP K:=aI (X:=xt) (g:=eP) (H:=aEW) (env:=aFO) (c:=aA Tryz.f195) aJ mixed (fun k=>(aB.cons (aBd k) aB.nil)) Tryz.func195 (by kernel_rfl) (by kernel_rfl) (by kernel_rfl) (aD.all aD.zero (by kernel_rfl) (by kernel_rfl)) aLJ K
def jF:aS:={ fid:=210,Γ:=[iZ,(.int .i64),(.int .i64),(.int .i64)],args:=[(.ref 0 0),(.var 3)],sto:=[(0,(.cells 174 3 [(.var 0),(.var 1),(.var 2)] false))],nk:=1,Δ:=[iZ,(.int .i64),(.int .i64)],res:=(.tup []),sto':=[(0,(.cells 174 3 [(.var 0),(.var 1),(.var 2)] false))],nk':=1,f:=fun k x=>eM k x.1 x.2.1 x.2.2.1 x.2.2.2 }
def aDL:aG (bG×Int×Int):={}
def aDV:List aS:=[]
theorem aKR (k:Nat) (x:bG×Int×Int×Int):eM k x.1 x.2.1 x.2.2.1 x.2.2.2=fx xt aDV jF Tryz.f210 aDL (aA Tryz.f210) k x:=by kernel_rfl
theorem qR (K:Nat):aE Tryz.prog jF K:=aI (X:=xt) (g:=jF) (H:=aDL) (env:=aDV) (c:=aA Tryz.f210) aJ mixed (fun k=>aB.nil) Tryz.func210 (by kernel_rfl) (by kernel_rfl) (by kernel_rfl) (aD.all aD.zero (by kernel_rfl) (by kernel_rfl)) aKR K
def jJ:aS:={ fid:=196,Γ:=[iZ,(.int .i64),(.int .i64),(.list false .str)],args:=[(.ref 0 0),(.var 3)],sto:=[(0,(.cells 174 3 [(.var 0),(.var 1),(.var 2)] false))],nk:=1,Δ:=[iZ,(.int .i64),(.int .i64)],res:=(.tup []),sto':=[(0,(.cells 174 3 [(.var 0),(.var 1),(.var 2)] false))],nk':=1,f:=fun k x=>aY k x.1 x.2.1 x.2.2.1 x.2.2.2 }
def uW:LH (bG×Int×Int):={ Γ:=[(.list false .str),(.int .i64),iZ,(.int .i64),(.int .i64)],live:=[(0,(.ref 0 0)),(6,(.var 0)),(7,(.len 0)),(8,(.var 1))],sto:=[(0,(.cells 174 3 [(.var 2),(.var 3),(.var 4)] false))],nk:=1,F:=fun k x=>cG k x.1 x.2.1 x.2.2.1 x.2.2.2.1 x.2.2.2.2 }
def yR:aG (bG×Int×Int):={ loops:=[(1,uW)] }
def yQ:List aS:=[eP,jF]
theorem aKC (k:Nat) (x:bG×Int×Int×(List (List UInt8))):aY k x.1 x.2.1 x.2.2.1 x.2.2.2=fx xt yQ jJ Tryz.f196 yR (aA Tryz.f196) k x:=by kernel_rfl
theorem aHI (k:Nat) (x:(List (List UInt8))×Int×bG×Int×Int):cG (k+1) x.1 x.2.1 x.2.2.1 x.2.2.2.1 x.2.2.2.2=iC xt yQ 19 1 yR (aA Tryz.f196) (fY xt.T Tryz.f196.results jJ) 0 uW k x:=(cG.eq_def ..).trans (by kernel_rfl)
theorem wU (K:Nat):aE Tryz.prog jJ K:=aI (X:=xt) (g:=jJ) (H:=yR) (env:=yQ) (c:=aA Tryz.f196) aJ mixed (fun k=>(aB.cons (jI k) (aB.cons (qR k) aB.nil))) Tryz.func196 (by kernel_rfl) (by kernel_rfl) (by kernel_rfl) (aD.all (aD.zero.succ uW (by kernel_rfl) (fun _=>rfl) aHI) (by kernel_rfl) (by kernel_rfl)) aKC K
def oD:aS:={ fid:=197,Γ:=[iZ,(.int .i64),(.int .i64)],args:=[(.ref 0 0)],sto:=[(0,(.cells 174 3 [(.var 0),(.var 1),(.var 2)] false))],nk:=1,Δ:=[.str,iZ,(.int .i64),(.int .i64)],res:=(.var 0),sto':=[(0,(.cells 174 3 [(.var 1),(.var 2),(.var 3)] false))],nk':=1,f:=fun k x=>fE k x.1 x.2.1 x.2.2 }
def aDS:aG ((List UInt8)×bG×Int×Int):={ ord:=[(1,[.l 0,.l 1,.l 2,.l 3,.l 4,.l 5,.l 6,.l 7,.h 8,.l 9,.l 10,.l 11,.l 12,.l 13])] }
def aD3:List aS:=[uI,jF]
theorem aKV (k:Nat) (x:bG×Int×Int):fE k x.1 x.2.1 x.2.2=fx xt aD3 oD Tryz.f197 aDS (aA Tryz.f197) k x:=by kernel_rfl
theorem aDa (K:Nat):aE Tryz.prog oD K:=aI (X:=xt) (g:=oD) (H:=aDS) (env:=aD3) (c:=aA Tryz.f197) aJ mixed (fun k=>(aB.cons (aCZ k) (aB.cons (qR k) aB.nil))) Tryz.func197 (by kernel_rfl) (by kernel_rfl) (by kernel_rfl) (aD.all aD.zero (by kernel_rfl) (by kernel_rfl)) aKV K
def uA:aS:={ fid:=198,Γ:=[iZ,(.int .i64),(.int .i64)],args:=[(.ref 0 0)],sto:=[(0,(.cells 174 3 [(.var 0),(.var 1),(.var 2)] false))],nk:=1,Δ:=[.tree,iZ,(.int .i64),(.int .i64)],res:=(.var 0),sto':=[(0,(.cells 174 3 [(.var 1),(.var 2),(.var 3)] false))],nk':=1,f:=fun k x=>iY k x.1 x.2.1 x.2.2 }
def aFf:aG (Tr×bG×Int×Int):={ ord:=[(3,[.l 0,.l 1,.l 2,.l 3,.l 4,.l 5,.l 6,.l 7,.h 8,.l 9,.l 10,.l 11,.l 12,.l 13,.l 14,.l 15])] }
def aEM:List aS:=[aBv,jF]
theorem aL4 (k:Nat) (x:bG×Int×Int):iY k x.1 x.2.1 x.2.2=fx xt aEM uA Tryz.f198 aFf (aA Tryz.f198) k x:=by kernel_rfl
theorem aLR (K:Nat):aE Tryz.prog uA K:=aI (X:=xt) (g:=uA) (H:=aFf) (env:=aEM) (c:=aA Tryz.f198) aJ mixed (fun k=>(aB.cons (aM7 k) (aB.cons (qR k) aB.nil))) Tryz.func198 (by kernel_rfl) (by kernel_rfl) (by kernel_rfl) (aD.all aD.zero (by kernel_rfl) (by kernel_rfl)) aL4 K
def xJ:aS:={ fid:=199,Γ:=[(.int .i64),.str,(.list false .tree)],args:=[(.var 0),(.var 1),(.var 2)],Δ:=[.tree],res:=(.var 0),f:=fun k x=>kD k x.1 x.2.1 x.2.2 }
def aO1:aG (Tr):={}
def aOI:List aS:=[]
theorem aUE (k:Nat) (x:Int×(List UInt8)×(List Tr)):kD k x.1 x.2.1 x.2.2=fx xt aOI xJ Tryz.f199 aO1 (aA Tryz.f199) k x:=by kernel_rfl
theorem aGK (K:Nat):aE Tryz.prog xJ K:=aI (X:=xt) (g:=xJ) (H:=aO1) (env:=aOI) (c:=aA Tryz.f199) aJ mixed (fun k=>aB.nil) Tryz.func199 (by kernel_rfl) (by kernel_rfl) (by kernel_rfl) (aD.all aD.zero (by kernel_rfl) (by kernel_rfl)) aUE K
def aBK:aS:={ fid:=220,Γ:=[(.int .i64),.str,(.int .i64),(.int .i64)],args:=[(.agg [(.var 0),(.var 1),(.var 2),(.var 3)])],Δ:=[.bool],res:=(.var 0),f:=fun k x=>wZ k x.1 x.2.1 x.2.2.1 x.2.2.2 }
def aKF:aG (Bool):={}
def aJ4:List aS:=[]
theorem aRU (k:Nat) (x:Int×(List UInt8)×Int×Int):wZ k x.1 x.2.1 x.2.2.1 x.2.2.2=fx xt aJ4 aBK Tryz.f220 aKF (aA Tryz.f220) k x:=by kernel_rfl
theorem aRj (K:Nat):aE Tryz.prog aBK K:=aI (X:=xt) (g:=aBK) (H:=aKF) (env:=aJ4) (c:=aA Tryz.f220) aJ mixed (fun k=>aB.nil) Tryz.func220 (by kernel_rfl) (by kernel_rfl) (by kernel_rfl) (aD.all aD.zero (by kernel_rfl) (by kernel_rfl)) aRU K
def lN:aS:={ fid:=219,Γ:=[iZ,(.int .i64),(.int .i64)],args:=[(.ref 0 0)],sto:=[(0,(.cells 174 3 [(.var 0),(.var 1),(.var 2)] false))],nk:=1,Δ:=[.bool,iZ,(.int .i64),(.int .i64)],res:=(.var 0),sto':=[(0,(.cells 174 3 [(.var 1),(.var 2),(.var 3)] false))],nk':=1,f:=fun k x=>gQ k x.1 x.2.1 x.2.2 }
def aCd:aG (Bool×bG×Int×Int):={ ord:=[(1,[.l 0,.l 1,.l 2,.l 3,.l 4,.l 5,.l 6,.l 7,.l 8,.l 9,.l 10,.l 11,.l 12,.l 13,.l 14,.l 15,.l 16]),(6,[.l 0,.l 1,.l 2,.l 3,.l 4,.l 5,.l 6,.l 7,.l 8,.h 9]),(9,[.l 0,.l 1,.l 2,.l 3,.l 4,.l 5,.l 6,.l 7,.h 8,.l 9,.l 10,.l 11,.l 12,.l 13]),(10,[.l 0,.l 1,.l 2,.l 3,.l 4,.l 5,.l 6,.l 7,.l 8,.l 9,.l 10,.l 11,.h 12,.l 13,.l 14])],unr:=[(4,13)] }
def aCa:List aS:=[sP,xC,aBK]
theorem aIC (k:Nat) (x:bG×Int×Int):gQ k x.1 x.2.1 x.2.2=fx xt aCa lN Tryz.f219 aCd (aA Tryz.f219) k x:=by kernel_rfl
theorem aBI (K:Nat):aE Tryz.prog lN K:=aI (X:=xt) (g:=lN) (H:=aCd) (env:=aCa) (c:=aA Tryz.f219) aJ mixed (fun k=>(aB.cons (aBd k) (aB.cons (aHo k) (aB.cons (aRj k) aB.nil)))) Tryz.func219 (by kernel_rfl) (by kernel_rfl) (by kernel_rfl) (aD.all aD.zero (by kernel_rfl) (by kernel_rfl)) aIC K
def aCK:aS:={ fid:=212,Γ:=[(.int .i64),.tree,.tree],args:=[(.var 0),(.var 1),(.var 2)],Δ:=[.tree],res:=(.var 0),f:=fun k x=>aBO k x.1 x.2.1 x.2.2 }
def aSA:aG (Tr):={}
def aS7:List aS:=[]
theorem aXj (k:Nat) (x:Int×Tr×Tr):aBO k x.1 x.2.1 x.2.2=fx xt aS7 aCK Tryz.f212 aSA (aA Tryz.f212) k x:=by kernel_rfl
theorem aJ3 (K:Nat):aE Tryz.prog aCK K:=aI (X:=xt) (g:=aCK) (H:=aSA) (env:=aS7) (c:=aA Tryz.f212) aJ mixed (fun k=>aB.nil) Tryz.func212 (by kernel_rfl) (by kernel_rfl) (by kernel_rfl) (aD.all aD.zero (by kernel_rfl) (by kernel_rfl)) aXj K
def kT:aS:={ fid:=218,Γ:=[iZ,(.int .i64),(.int .i64)],args:=[(.ref 0 0)],sto:=[(0,(.cells 174 3 [(.var 0),(.var 1),(.var 2)] false))],nk:=1,Δ:=[.tree,iZ,(.int .i64),(.int .i64)],res:=(.var 0),sto':=[(0,(.cells 174 3 [(.var 1),(.var 2),(.var 3)] false))],nk':=1,f:=fun k x=>cC k x.1 x.2.1 x.2.2 }
def pJ:aS:={ fid:=217,Γ:=[iZ,(.int .i64),(.int .i64)],args:=[(.ref 0 0)],sto:=[(0,(.cells 174 3 [(.var 0),(.var 1),(.var 2)] false))],nk:=1,Δ:=[.tree,iZ,(.int .i64),(.int .i64)],res:=(.var 0),sto':=[(0,(.cells 174 3 [(.var 1),(.var 2),(.var 3)] false))],nk':=1,f:=fun k x=>dZ k x.1 x.2.1 x.2.2 }
def iW:aS:={ fid:=215,Γ:=[iZ,(.int .i64),(.int .i64),.str,(.list false (.int .i64))],args:=[(.ref 0 0),(.fn 217 [(.ref 0 0)] []),(.var 3),(.var 4)],sto:=[(0,(.cells 174 3 [(.var 0),(.var 1),(.var 2)] false))],nk:=1,Δ:=[.tree,iZ,(.int .i64),(.int .i64)],res:=(.var 0),sto':=[(0,(.cells 174 3 [(.var 1),(.var 2),(.var 3)] false))],nk':=1,f:=fun k x=>iK k x.1 x.2.1 x.2.2.1 x.2.2.2.1 x.2.2.2.2 }
def rQ:aS:={ fid:=216,Γ:=[iZ,(.int .i64),(.int .i64)],args:=[(.ref 0 0)],sto:=[(0,(.cells 174 3 [(.var 0),(.var 1),(.var 2)] false))],nk:=1,Δ:=[.tree,iZ,(.int .i64),(.int .i64)],res:=(.var 0),sto':=[(0,(.cells 174 3 [(.var 1),(.var 2),(.var 3)] false))],nk':=1,f:=fun k x=>dO k x.1 x.2.1 x.2.2 }
def kH:aS:={ fid:=215,Γ:=[iZ,(.int .i64),(.int .i64),.str,(.list false (.int .i64))],args:=[(.ref 0 0),(.fn 216 [(.ref 0 0)] []),(.var 3),(.var 4)],sto:=[(0,(.cells 174 3 [(.var 0),(.var 1),(.var 2)] false))],nk:=1,Δ:=[.tree,iZ,(.int .i64),(.int .i64)],res:=(.var 0),sto':=[(0,(.cells 174 3 [(.var 1),(.var 2),(.var 3)] false))],nk':=1,f:=fun k x=>kE k x.1 x.2.1 x.2.2.1 x.2.2.2.1 x.2.2.2.2 }
def tW:aS:={ fid:=211,Γ:=[iZ,(.int .i64),(.int .i64)],args:=[(.ref 0 0)],sto:=[(0,(.cells 174 3 [(.var 0),(.var 1),(.var 2)] false))],nk:=1,Δ:=[.tree,iZ,(.int .i64),(.int .i64)],res:=(.var 0),sto':=[(0,(.cells 174 3 [(.var 1),(.var 2),(.var 3)] false))],nk':=1,f:=fun k x=>eK k x.1 x.2.1 x.2.2 }
def tP:aS:={ fid:=201,Γ:=[iZ,(.int .i64),(.int .i64)],args:=[(.ref 0 0)],sto:=[(0,(.cells 174 3 [(.var 0),(.var 1),(.var 2)] false))],nk:=1,Δ:=[.tree,iZ,(.int .i64),(.int .i64)],res:=(.var 0),sto':=[(0,(.cells 174 3 [(.var 1),(.var 2),(.var 3)] false))],nk':=1,f:=fun k x=>gI k x.1 x.2.1 x.2.2 }
def nZ:aS:={ fid:=200,Γ:=[iZ,(.int .i64),(.int .i64)],args:=[(.ref 0 0)],sto:=[(0,(.cells 174 3 [(.var 0),(.var 1),(.var 2)] false))],nk:=1,Δ:=[(.list false .tree),iZ,(.int .i64),(.int .i64)],res:=(.var 0),sto':=[(0,(.cells 174 3 [(.var 1),(.var 2),(.var 3)] false))],nk':=1,f:=fun k x=>hQ k x.1 x.2.1 x.2.2 }
def gU:aS:={ fid:=185,Γ:=[iZ,(.int .i64),(.int .i64)],args:=[(.ref 0 0)],sto:=[(0,(.cells 174 3 [(.var 0),(.var 1),(.var 2)] false))],nk:=1,Δ:=[.tree,iZ,(.int .i64),(.int .i64)],res:=(.var 0),sto':=[(0,(.cells 174 3 [(.var 1),(.var 2),(.var 3)] false))],nk':=1,f:=fun k x=>aW k x.1 x.2.1 x.2.2 }
def vA:LH (Tr×bG×Int×Int):={ Γ:=[iZ,(.int .i64),(.int .i64)],live:=[(0,(.ref 0 0))],sto:=[(0,(.cells 174 3 [(.var 0),(.var 1),(.var 2)] false))],nk:=1,F:=fun k x=>mO k x.1 x.2.1 x.2.2 }
def yN:aG (Tr×bG×Int×Int):={ ord:=[(4,[.l 0,.l 1,.l 2,.l 3,.l 4,.l 5,.l 6,.l 7,.l 8,.l 9,.h 10,.h 11])],cuts:=[(19,vA)] }
def yC:List aS:=[lN,jF,xJ,kT,eP,gU,jJ]
theorem aKE (k:Nat) (x:bG×Int×Int):cC (k+1) x.1 x.2.1 x.2.2=fx xt yC kT Tryz.f218 yN (aA Tryz.f218) k x:=(cC.eq_def ..).trans (by kernel_rfl)
theorem aHy (k:Nat) (x:bG×Int×Int):mO (k+1) x.1 x.2.1 x.2.2=iC xt yC 79 1 yN (aA Tryz.f218) (fY xt.T Tryz.f218.results kT) 0 vA k x:=(mO.eq_def ..).trans (by kernel_rfl)
def wA:LH (Tr×bG×Int×Int):={ Γ:=[.tree,iZ,(.int .i64),(.int .i64)],live:=[(0,(.ref 0 0)),(3,(.var 0))],sto:=[(0,(.cells 174 3 [(.var 1),(.var 2),(.var 3)] false))],nk:=1,F:=fun k x=>cZ k x.1 x.2.1 x.2.2.1 x.2.2.2 }
def aAp:aG (Tr×bG×Int×Int):={ loops:=[(2,wA)] }
def aAl:List aS:=[kT,lN,xJ]
theorem aL6 (k:Nat) (x:bG×Int×Int):dZ (k+1) x.1 x.2.1 x.2.2=fx xt aAl pJ Tryz.f217 aAp (aA Tryz.f217) k x:=(dZ.eq_def ..).trans (by kernel_rfl)
theorem aIf (k:Nat) (x:Tr×bG×Int×Int):cZ (k+1) x.1 x.2.1 x.2.2.1 x.2.2.2=iC xt aAl 14 1 aAp (aA Tryz.f217) (fY xt.T Tryz.f217.results pJ) 0 wA k x:=(cZ.eq_def ..).trans (by kernel_rfl)
def rF:LH (Tr×bG×Int×Int):={ Γ:=[.str,(.list false (.int .i64)),.tree,iZ,(.int .i64),(.int .i64)],live:=[(0,(.ref 0 0)),(1,(.fn 217 [(.ref 0 0)] [])),(2,(.var 0)),(3,(.var 1)),(9,(.var 2))],sto:=[(0,(.cells 174 3 [(.var 3),(.var 4),(.var 5)] false))],nk:=1,F:=fun k x=>bB k x.1 x.2.1 x.2.2.1 x.2.2.2.1 x.2.2.2.2.1 x.2.2.2.2.2 }
def rI:LH (Tr×bG×Int×Int):={ Γ:=[.str,(.list false (.int .i64)),.tree,(.int .i64),iZ,(.int .i64),(.int .i64)],live:=[(0,(.ref 0 0)),(1,(.fn 217 [(.ref 0 0)] [])),(2,(.var 0)),(3,(.var 1)),(9,(.var 2)),(10,(.var 3))],sto:=[(0,(.cells 174 3 [(.var 4),(.var 5),(.var 6)] false))],nk:=1,F:=fun k x=>dR k x.1 x.2.1 x.2.2.1 x.2.2.2.1 x.2.2.2.2.1 x.2.2.2.2.2.1 x.2.2.2.2.2.2 }
def oK:aG (Tr×bG×Int×Int):={ ord:=[(7,[.l 0,.l 1,.l 2,.l 3,.l 4,.l 5,.h 6,.h 7,.m 8])],loops:=[(2,rF),(3,rI)] }
def oL:List aS:=[pJ,eP,aCK]
theorem aHJ (k:Nat) (x:bG×Int×Int×(List UInt8)×(List Int)):iK (k+1) x.1 x.2.1 x.2.2.1 x.2.2.2.1 x.2.2.2.2=fx xt oL iW Tryz.f215 oK (aA Tryz.f215) k x:=(iK.eq_def ..).trans (by kernel_rfl)
theorem aET (k:Nat) (x:(List UInt8)×(List Int)×Tr×bG×Int×Int):bB (k+1) x.1 x.2.1 x.2.2.1 x.2.2.2.1 x.2.2.2.2.1 x.2.2.2.2.2=iC xt oL 42 1 oK (aA Tryz.f215) (fY xt.T Tryz.f215.results iW) 0 rF k x:=(bB.eq_def ..).trans (by kernel_rfl)
theorem aF3 (k:Nat) (x:(List UInt8)×(List Int)×Tr×Int×bG×Int×Int):dR (k+1) x.1 x.2.1 x.2.2.1 x.2.2.2.1 x.2.2.2.2.1 x.2.2.2.2.2.1 x.2.2.2.2.2.2=iC xt oL 42 1 oK (aA Tryz.f215) (fY xt.T Tryz.f215.results iW) 1 rI k x:=(dR.eq_def ..).trans (by kernel_rfl)
def aDM:aG (Tr×bG×Int×Int):={}
def aDO:List aS:=[iW]
theorem aKT (k:Nat) (x:bG×Int×Int):dO (k+1) x.1 x.2.1 x.2.2=fx xt aDO rQ Tryz.f216 aDM (aA Tryz.f216) k x:=(dO.eq_def ..).trans (by kernel_rfl)
def uF:LH (Tr×bG×Int×Int):={ Γ:=[.str,(.list false (.int .i64)),.tree,iZ,(.int .i64),(.int .i64)],live:=[(0,(.ref 0 0)),(1,(.fn 216 [(.ref 0 0)] [])),(2,(.var 0)),(3,(.var 1)),(9,(.var 2))],sto:=[(0,(.cells 174 3 [(.var 3),(.var 4),(.var 5)] false))],nk:=1,F:=fun k x=>bH k x.1 x.2.1 x.2.2.1 x.2.2.2.1 x.2.2.2.2.1 x.2.2.2.2.2 }
def tC:LH (Tr×bG×Int×Int):={ Γ:=[.str,(.list false (.int .i64)),.tree,(.int .i64),iZ,(.int .i64),(.int .i64)],live:=[(0,(.ref 0 0)),(1,(.fn 216 [(.ref 0 0)] [])),(2,(.var 0)),(3,(.var 1)),(9,(.var 2)),(10,(.var 3))],sto:=[(0,(.cells 174 3 [(.var 4),(.var 5),(.var 6)] false))],nk:=1,F:=fun k x=>cM k x.1 x.2.1 x.2.2.1 x.2.2.2.1 x.2.2.2.2.1 x.2.2.2.2.2.1 x.2.2.2.2.2.2 }
def qU:aG (Tr×bG×Int×Int):={ ord:=[(7,[.l 0,.l 1,.l 2,.l 3,.l 4,.l 5,.h 6,.h 7,.m 8])],loops:=[(2,uF),(3,tC)] }
def qZ:List aS:=[rQ,eP,aCK]
theorem aJz (k:Nat) (x:bG×Int×Int×(List UInt8)×(List Int)):kE (k+1) x.1 x.2.1 x.2.2.1 x.2.2.2.1 x.2.2.2.2=fx xt qZ kH Tryz.f215 qU (aA Tryz.f215) k x:=(kE.eq_def ..).trans (by kernel_rfl)
theorem aHm (k:Nat) (x:(List UInt8)×(List Int)×Tr×bG×Int×Int):bH (k+1) x.1 x.2.1 x.2.2.1 x.2.2.2.1 x.2.2.2.2.1 x.2.2.2.2.2=iC xt qZ 42 1 qU (aA Tryz.f215) (fY xt.T Tryz.f215.results kH) 0 uF k x:=(bH.eq_def ..).trans (by kernel_rfl)
theorem aHg (k:Nat) (x:(List UInt8)×(List Int)×Tr×Int×bG×Int×Int):cM (k+1) x.1 x.2.1 x.2.2.1 x.2.2.2.1 x.2.2.2.2.1 x.2.2.2.2.2.1 x.2.2.2.2.2.2=iC xt qZ 42 1 qU (aA Tryz.f215) (fY xt.T Tryz.f215.results kH) 1 tC k x:=(cM.eq_def ..).trans (by kernel_rfl)
def aFE:aG (Tr×bG×Int×Int):={}
def aFA:List aS:=[kH]
theorem aLY (k:Nat) (x:bG×Int×Int):eK (k+1) x.1 x.2.1 x.2.2=fx xt aFA tW Tryz.f211 aFE (aA Tryz.f211) k x:=(eK.eq_def ..).trans (by kernel_rfl)
def aFe:aG (Tr×bG×Int×Int):={}
def aFs:List aS:=[tW,eP,aCK]
theorem aLK (k:Nat) (x:bG×Int×Int):gI (k+1) x.1 x.2.1 x.2.2=fx xt aFs tP Tryz.f201 aFe (aA Tryz.f201) k x:=(gI.eq_def ..).trans (by kernel_rfl)
def uU:LH ((List Tr)×bG×Int×Int):={ Γ:=[(.list false .tree),iZ,(.int .i64),(.int .i64)],live:=[(0,(.ref 0 0)),(3,(.row 1 0))],sto:=[(0,(.cells 174 3 [(.var 1),(.var 2),(.var 3)] false)),(1,(.list 25 0 none))],nk:=2,ad:=[.t 3 25 .tree],F:=fun k x=>dX k x.1 x.2.1 x.2.2.1 x.2.2.2 }
def yH:aG ((List Tr)×bG×Int×Int):={ loops:=[(2,uU)] }
def yF:List aS:=[oD,jJ,gU,eP]
theorem aJT (k:Nat) (x:bG×Int×Int):hQ (k+1) x.1 x.2.1 x.2.2=fx xt yF nZ Tryz.f200 yH (aA Tryz.f200) k x:=(hQ.eq_def ..).trans (by kernel_rfl)
theorem aHM (k:Nat) (x:(List Tr)×bG×Int×Int):dX (k+1) x.1 x.2.1 x.2.2.1 x.2.2.2=iC xt yF 35 1 yH (aA Tryz.f200) (fY xt.T Tryz.f200.results nZ) 0 uU k x:=(dX.eq_def ..).trans (by kernel_rfl)
def aDK:aG (Tr×bG×Int×Int):={}
def aDU:List aS:=[eP,jJ,oD,uA,gU,xJ,nZ,tP]
theorem aK4 (k:Nat) (x:bG×Int×Int):aW (k+1) x.1 x.2.1 x.2.2=fx xt aDU gU Tryz.f185 aDK (aA Tryz.f185) k x:=(aW.eq_def ..).trans (by kernel_rfl)
theorem aJy (K:Nat):aE Tryz.prog kT K∧aE Tryz.prog pJ K∧aE Tryz.prog iW K∧aE Tryz.prog rQ K∧aE Tryz.prog kH K∧aE Tryz.prog tW K∧aE Tryz.prog tP K∧aE Tryz.prog nZ K∧aE Tryz.prog gU K:=by
 induction K using Nat.strongRecOn with
 | ind K ih=>exact ⟨aZ (X:=xt) (g:=kT) (H:=yN) (env:=yC) (c:=aA Tryz.f218) aJ mixed (fun k hk=>(aB.cons (aBI k) (aB.cons (qR k) (aB.cons (aGK k) (aB.cons (ih k hk).1 (aB.cons (jI k) (aB.cons (ih k hk).2.2.2.2.2.2.2.2 (aB.cons (wU k) aB.nil)))))))) Tryz.func218 (by kernel_rfl) (by kernel_rfl) (by kernel_rfl) (aD.all (aD.zero.succ vA (by kernel_rfl) (fun _=>rfl) aHy) (by kernel_rfl) (by kernel_rfl)) (fun _=>rfl) aKE,aZ (X:=xt) (g:=pJ) (H:=aAp) (env:=aAl) (c:=aA Tryz.f217) aJ mixed (fun k hk=>(aB.cons (ih k hk).1 (aB.cons (aBI k) (aB.cons (aGK k) aB.nil)))) Tryz.func217 (by kernel_rfl) (by kernel_rfl) (by kernel_rfl) (aD.all (aD.zero.succ wA (by kernel_rfl) (fun _=>rfl) aIf) (by kernel_rfl) (by kernel_rfl)) (fun _=>rfl) aL6,aZ (X:=xt) (g:=iW) (H:=oK) (env:=oL) (c:=aA Tryz.f215) aJ mixed (fun k hk=>(aB.cons (ih k hk).2.1 (aB.cons (jI k) (aB.cons (aJ3 k) aB.nil)))) Tryz.func215 (by kernel_rfl) (by kernel_rfl) (by kernel_rfl) (aD.all ((aD.zero.succ rF (by kernel_rfl) (fun _=>rfl) aET).succ rI (by kernel_rfl) (fun _=>rfl) aF3) (by kernel_rfl) (by kernel_rfl)) (fun _=>rfl) aHJ,aZ (X:=xt) (g:=rQ) (H:=aDM) (env:=aDO) (c:=aA Tryz.f216) aJ mixed (fun k hk=>(aB.cons (ih k hk).2.2.1 aB.nil)) Tryz.func216 (by kernel_rfl) (by kernel_rfl) (by kernel_rfl) (aD.all aD.zero (by kernel_rfl) (by kernel_rfl)) (fun _=>rfl) aKT,aZ (X:=xt) (g:=kH) (H:=qU) (env:=qZ) (c:=aA Tryz.f215) aJ mixed (fun k hk=>(aB.cons (ih k hk).2.2.2.1 (aB.cons (jI k) (aB.cons (aJ3 k) aB.nil)))) Tryz.func215 (by kernel_rfl) (by kernel_rfl) (by kernel_rfl) (aD.all ((aD.zero.succ uF (by kernel_rfl) (fun _=>rfl) aHm).succ tC (by kernel_rfl) (fun _=>rfl) aHg) (by kernel_rfl) (by kernel_rfl)) (fun _=>rfl) aJz,aZ (X:=xt) (g:=tW) (H:=aFE) (env:=aFA) (c:=aA Tryz.f211) aJ mixed (fun k hk=>(aB.cons (ih k hk).2.2.2.2.1 aB.nil)) Tryz.func211 (by kernel_rfl) (by kernel_rfl) (by kernel_rfl) (aD.all aD.zero (by kernel_rfl) (by kernel_rfl)) (fun _=>rfl) aLY,aZ (X:=xt) (g:=tP) (H:=aFe) (env:=aFs) (c:=aA Tryz.f201) aJ mixed (fun k hk=>(aB.cons (ih k hk).2.2.2.2.2.1 (aB.cons (jI k) (aB.cons (aJ3 k) aB.nil)))) Tryz.func201 (by kernel_rfl) (by kernel_rfl) (by kernel_rfl) (aD.all aD.zero (by kernel_rfl) (by kernel_rfl)) (fun _=>rfl) aLK,aZ (X:=xt) (g:=nZ) (H:=yH) (env:=yF) (c:=aA Tryz.f200) aJ mixed (fun k hk=>(aB.cons (aDa k) (aB.cons (wU k) (aB.cons (ih k hk).2.2.2.2.2.2.2.2 (aB.cons (jI k) aB.nil))))) Tryz.func200 (by kernel_rfl) (by kernel_rfl) (by kernel_rfl) (aD.all (aD.zero.succ uU (by kernel_rfl) (fun _=>rfl) aHM) (by kernel_rfl) (by kernel_rfl)) (fun _=>rfl) aJT,aZ (X:=xt) (g:=gU) (H:=aDK) (env:=aDU) (c:=aA Tryz.f185) aJ mixed (fun k hk=>(aB.cons (jI k) (aB.cons (wU k) (aB.cons (aDa k) (aB.cons (aLR k) (aB.cons (ih k hk).2.2.2.2.2.2.2.2 (aB.cons (aGK k) (aB.cons (ih k hk).2.2.2.2.2.2.2.1 (aB.cons (ih k hk).2.2.2.2.2.2.1 aB.nil))))))))) Tryz.func185 (by kernel_rfl) (by kernel_rfl) (by kernel_rfl) (aD.all aD.zero (by kernel_rfl) (by kernel_rfl)) (fun _=>rfl) aK4⟩
theorem aK8 (K:Nat):aE Tryz.prog gU K:=(aJy K).2.2.2.2.2.2.2.2
def aD7:aS:={ fid:=170,Γ:=[iZ,(.int .i64)],args:=[(.var 0),(.var 1)],Δ:=[.tree,(.int .i64),(.int .i64)],res:=(.tup [(.var 0),(.var 1),(.var 2)]),f:=fun k x=>aE6 k x.1 x.2 }
def aPi:aG (Tr×Int×Int):={ ord:=[(6,[.l 0,.l 1,.l 2,.l 3,.l 4,.l 5,.l 6,.l 7,.l 8,.l 9,.l 10]),(7,[.l 0,.l 1,.l 2,.l 3,.l 4,.m 5,.l 6,.l 7])] }
def aOs:List aS:=[gU]
theorem aVd (k:Nat) (x:bG×Int):aE6 k x.1 x.2=fx xt aOs aD7 Tryz.f170 aPi (aA Tryz.f170) k x:=by kernel_rfl
theorem aUA (K:Nat):aE Tryz.prog aD7 K:=aI (X:=xt) (g:=aD7) (H:=aPi) (env:=aOs) (c:=aA Tryz.f170) aJ mixed (fun k=>(aB.cons (aK8 k) aB.nil)) Tryz.func170 (by kernel_rfl) (by kernel_rfl) (by kernel_rfl) (aD.all aD.zero (by kernel_rfl) (by kernel_rfl)) aVd K
def nC:aS:={ fid:=128,Γ:=[iZ,(.int .i64),(.int .i64)],args:=[(.ref 0 0),(.fn 170 [] [])],sto:=[(0,(.cells 104 3 [(.var 0),(.var 1),(.var 2)] false))],nk:=1,Δ:=[.tree,iZ,(.int .i64),(.int .i64)],res:=(.var 0),sto':=[(0,(.cells 104 3 [(.var 1),(.var 2),(.var 3)] false))],nk':=1,f:=fun k x=>gV k x.1 x.2.1 x.2.2 }
def aAE:aG (Tr×bG×Int×Int):={ ord:=[(3,[.l 0,.l 1,.l 2,.l 3,.l 4,.l 5,.l 6,.l 7,.l 8,.h 9,.l 10,.l 11,.l 12,.l 13,.l 14,.l 15,.l 16])] }
def aAW:List aS:=[aD7,fM]
theorem aGN (k:Nat) (x:bG×Int×Int):gV k x.1 x.2.1 x.2.2=fx xt aAW nC Tryz.f128 aAE (aA Tryz.f128) k x:=by kernel_rfl
theorem aHe (K:Nat):aE Tryz.prog nC K:=aI (X:=xt) (g:=nC) (H:=aAE) (env:=aAW) (c:=aA Tryz.f128) aJ mixed (fun k=>(aB.cons (aUA k) (aB.cons (kU k) aB.nil))) Tryz.func128 (by kernel_rfl) (by kernel_rfl) (by kernel_rfl) (aD.all aD.zero (by kernel_rfl) (by kernel_rfl)) aGN K
def sY:aS:={ fid:=145,Γ:=[iZ,(.int .i64),(.int .i64)],args:=[(.ref 0 0)],sto:=[(0,(.cells 104 3 [(.var 0),(.var 1),(.var 2)] false))],nk:=1,Δ:=[.tree,iZ,(.int .i64),(.int .i64)],res:=(.var 0),sto':=[(0,(.cells 104 3 [(.var 1),(.var 2),(.var 3)] false))],nk':=1,f:=fun k x=>lZ k x.1 x.2.1 x.2.2 }
def aFj:aG (Tr×bG×Int×Int):={}
def aFM:List aS:=[nC]
theorem aL8 (k:Nat) (x:bG×Int×Int):lZ k x.1 x.2.1 x.2.2=fx xt aFM sY Tryz.f145 aFj (aA Tryz.f145) k x:=by kernel_rfl
theorem aLI (K:Nat):aE Tryz.prog sY K:=aI (X:=xt) (g:=sY) (H:=aFj) (env:=aFM) (c:=aA Tryz.f145) aJ mixed (fun k=>(aB.cons (aHe k) aB.nil)) Tryz.func145 (by kernel_rfl) (by kernel_rfl) (by kernel_rfl) (aD.all aD.zero (by kernel_rfl) (by kernel_rfl)) aL8 K
def lI:aS:={ fid:=144,Γ:=[iZ,(.int .i64),(.int .i64),.str],args:=[(.ref 0 0),(.var 3),(.fn 145 [(.ref 0 0)] [])],sto:=[(0,(.cells 104 3 [(.var 0),(.var 1),(.var 2)] false))],nk:=1,Δ:=[.tree,iZ,(.int .i64),(.int .i64)],res:=(.var 0),sto':=[(0,(.cells 104 3 [(.var 1),(.var 2),(.var 3)] false))],nk':=1,f:=fun k x=>eY k x.1 x.2.1 x.2.2.1 x.2.2.2 }
def xT:aG (Tr×bG×Int×Int):={}
def xX:List aS:=[cV,sY]
theorem aEZ (k:Nat) (x:bG×Int×Int×(List UInt8)):eY k x.1 x.2.1 x.2.2.1 x.2.2.2=fx xt xX lI Tryz.f144 xT (aA Tryz.f144) k x:=by kernel_rfl
theorem aFu (K:Nat):aE Tryz.prog lI K:=aI (X:=xt) (g:=lI) (H:=xT) (env:=xX) (c:=aA Tryz.f144) aJ mixed (fun k=>(aB.cons (eT k) (aB.cons (aLI k) aB.nil))) Tryz.func144 (by kernel_rfl) (by kernel_rfl) (by kernel_rfl) (aD.all aD.zero (by kernel_rfl) (by kernel_rfl)) aEZ K
def jU:aS:={ fid:=144,Γ:=[iZ,(.int .i64),(.int .i64),.str],args:=[(.ref 0 0),(.var 3),(.fn 90 [(.ref 0 0)] [])],sto:=[(0,(.cells 104 3 [(.var 0),(.var 1),(.var 2)] false))],nk:=1,Δ:=[.tree,iZ,(.int .i64),(.int .i64)],res:=(.var 0),sto':=[(0,(.cells 104 3 [(.var 1),(.var 2),(.var 3)] false))],nk':=1,f:=fun k x=>eO k x.1 x.2.1 x.2.2.1 x.2.2.2 }
def zA:aG (Tr×bG×Int×Int):={}
def zC:List aS:=[cV,kO]
theorem aF9 (k:Nat) (x:bG×Int×Int×(List UInt8)):eO k x.1 x.2.1 x.2.2.1 x.2.2.2=fx xt zC jU Tryz.f144 zA (aA Tryz.f144) k x:=by kernel_rfl
theorem xU (K:Nat):aE Tryz.prog jU K:=aI (X:=xt) (g:=jU) (H:=zA) (env:=zC) (c:=aA Tryz.f144) aJ mixed (fun k=>(aB.cons (eT k) (aB.cons (sU k) aB.nil))) Tryz.func144 (by kernel_rfl) (by kernel_rfl) (by kernel_rfl) (aD.all aD.zero (by kernel_rfl) (by kernel_rfl)) aF9 K
def sQ:aS:={ fid:=42,Γ:=[(.int .i64),.str,(.list false .tree)],args:=[(.var 0),(.var 1),(.var 2)],Δ:=[.tree],res:=(.var 0),f:=fun k x=>gG k x.1 x.2.1 x.2.2 }
def aRa:aG (Tr):={}
def aQ2:List aS:=[]
theorem aWS (k:Nat) (x:Int×(List UInt8)×(List Tr)):gG k x.1 x.2.1 x.2.2=fx xt aQ2 sQ Tryz.f42 aRa (aA Tryz.f42) k x:=by kernel_rfl
theorem aBW (K:Nat):aE Tryz.prog sQ K:=aI (X:=xt) (g:=sQ) (H:=aRa) (env:=aQ2) (c:=aA Tryz.f42) aJ mixed (fun k=>aB.nil) Tryz.func42 (by kernel_rfl) (by kernel_rfl) (by kernel_rfl) (aD.all aD.zero (by kernel_rfl) (by kernel_rfl)) aWS K
def aEm:aS:={ fid:=171,Γ:=[iZ,(.int .i64)],args:=[(.var 0),(.var 1)],Δ:=[(.list false .tree),(.int .i64),(.int .i64)],res:=(.tup [(.var 0),(.var 1),(.var 2)]),f:=fun k x=>aEU k x.1 x.2 }
def aPj:aG ((List Tr)×Int×Int):={ ord:=[(4,[.l 0,.l 1,.l 2,.l 3,.l 4,.l 5,.l 6,.l 7,.l 8,.l 9,.l 10]),(5,[.l 0,.l 1,.l 2,.l 3,.l 4,.m 5,.l 6,.l 7])] }
def aOZ:List aS:=[zM,gP]
theorem aUu (k:Nat) (x:bG×Int):aEU k x.1 x.2=fx xt aOZ aEm Tryz.f171 aPj (aA Tryz.f171) k x:=by kernel_rfl
theorem aUx (K:Nat):aE Tryz.prog aEm K:=aI (X:=xt) (g:=aEm) (H:=aPj) (env:=aOZ) (c:=aA Tryz.f171) aJ mixed (fun k=>(aB.cons (aJ7 k) (aB.cons (aKs k) aB.nil))) Tryz.func171 (by kernel_rfl) (by kernel_rfl) (by kernel_rfl) (aD.all aD.zero (by kernel_rfl) (by kernel_rfl)) aUu K
def pL:aS:={ fid:=146,Γ:=[iZ,(.int .i64),(.int .i64)],args:=[(.ref 0 0)],sto:=[(0,(.cells 104 3 [(.var 0),(.var 1),(.var 2)] false))],nk:=1,Δ:=[(.list false .tree),iZ,(.int .i64),(.int .i64)],res:=(.var 0),sto':=[(0,(.cells 104 3 [(.var 1),(.var 2),(.var 3)] false))],nk':=1,f:=fun k x=>kG k x.1 x.2.1 x.2.2 }
def aEQ:aG ((List Tr)×bG×Int×Int):={ ord:=[(3,[.l 0,.l 1,.l 2,.l 3,.l 4,.l 5,.l 6,.l 7,.h 8,.l 9,.l 10,.l 11,.l 12,.l 13,.l 14,.l 15])] }
def aEw:List aS:=[aEm,fM]
theorem aLG (k:Nat) (x:bG×Int×Int):kG k x.1 x.2.1 x.2.2=fx xt aEw pL Tryz.f146 aEQ (aA Tryz.f146) k x:=by kernel_rfl
theorem aD5 (K:Nat):aE Tryz.prog pL K:=aI (X:=xt) (g:=pL) (H:=aEQ) (env:=aEw) (c:=aA Tryz.f146) aJ mixed (fun k=>(aB.cons (aUx k) (aB.cons (kU k) aB.nil))) Tryz.func146 (by kernel_rfl) (by kernel_rfl) (by kernel_rfl) (aD.all aD.zero (by kernel_rfl) (by kernel_rfl)) aLG K
def nD:aS:={ fid:=126,Γ:=[iZ,(.int .i64),(.int .i64)],args:=[(.ref 0 0),(.fn 127 [] [])],sto:=[(0,(.cells 104 3 [(.var 0),(.var 1),(.var 2)] false))],nk:=1,Δ:=[.str,iZ,(.int .i64),(.int .i64)],res:=(.var 0),sto':=[(0,(.cells 104 3 [(.var 1),(.var 2),(.var 3)] false))],nk':=1,f:=fun k x=>hP k x.1 x.2.1 x.2.2 }
def aAN:aG ((List UInt8)×bG×Int×Int):={ ord:=[(1,[.l 0,.l 1,.l 2,.l 3,.l 4,.l 5,.l 6,.l 7,.l 8,.h 9,.l 10,.l 11,.l 12,.l 13,.l 14])] }
def aAU:List aS:=[xC,fM]
theorem aGW (k:Nat) (x:bG×Int×Int):hP k x.1 x.2.1 x.2.2=fx xt aAU nD Tryz.f126 aAN (aA Tryz.f126) k x:=by kernel_rfl
theorem aHi (K:Nat):aE Tryz.prog nD K:=aI (X:=xt) (g:=nD) (H:=aAN) (env:=aAU) (c:=aA Tryz.f126) aJ mixed (fun k=>(aB.cons (aHo k) (aB.cons (kU k) aB.nil))) Tryz.func126 (by kernel_rfl) (by kernel_rfl) (by kernel_rfl) (aD.all aD.zero (by kernel_rfl) (by kernel_rfl)) aGW K
def kC:aS:={ fid:=89,Γ:=[iZ,(.int .i64),(.int .i64)],args:=[(.ref 0 0)],sto:=[(0,(.cells 104 3 [(.var 0),(.var 1),(.var 2)] false))],nk:=1,Δ:=[.str,iZ,(.int .i64),(.int .i64)],res:=(.var 0),sto':=[(0,(.cells 104 3 [(.var 1),(.var 2),(.var 3)] false))],nk':=1,f:=fun k x=>cY k x.1 x.2.1 x.2.2 }
def aFH:aG ((List UInt8)×bG×Int×Int):={}
def aFI:List aS:=[nD]
theorem aL2 (k:Nat) (x:bG×Int×Int):cY k x.1 x.2.1 x.2.2=fx xt aFI kC Tryz.f89 aFH (aA Tryz.f89) k x:=by kernel_rfl
theorem rU (K:Nat):aE Tryz.prog kC K:=aI (X:=xt) (g:=kC) (H:=aFH) (env:=aFI) (c:=aA Tryz.f89) aJ mixed (fun k=>(aB.cons (aHi k) aB.nil)) Tryz.func89 (by kernel_rfl) (by kernel_rfl) (by kernel_rfl) (aD.all aD.zero (by kernel_rfl) (by kernel_rfl)) aL2 K
def gB:aS:={ fid:=144,Γ:=[iZ,(.int .i64),(.int .i64),.str],args:=[(.ref 0 0),(.var 3),(.fn 57 [(.ref 0 0)] [])],sto:=[(0,(.cells 104 3 [(.var 0),(.var 1),(.var 2)] false))],nk:=1,Δ:=[.tree,iZ,(.int .i64),(.int .i64)],res:=(.var 0),sto':=[(0,(.cells 104 3 [(.var 1),(.var 2),(.var 3)] false))],nk':=1,f:=fun k x=>dD k x.1 x.2.1 x.2.2.1 x.2.2.2 }
def sZ:aS:={ fid:=124,Γ:=[iZ,(.int .i64),(.int .i64)],args:=[(.ref 0 0)],sto:=[(0,(.cells 104 3 [(.var 0),(.var 1),(.var 2)] false))],nk:=1,Δ:=[.tree,iZ,(.int .i64),(.int .i64)],res:=(.var 0),sto':=[(0,(.cells 104 3 [(.var 1),(.var 2),(.var 3)] false))],nk':=1,f:=fun k x=>eL k x.1 x.2.1 x.2.2 }
def pD:aS:={ fid:=87,Γ:=[iZ,(.int .i64),(.int .i64)],args:=[(.ref 0 0)],sto:=[(0,(.cells 104 3 [(.var 0),(.var 1),(.var 2)] false))],nk:=1,Δ:=[.tree,iZ,(.int .i64),(.int .i64)],res:=(.var 0),sto':=[(0,(.cells 104 3 [(.var 1),(.var 2),(.var 3)] false))],nk':=1,f:=fun k x=>gC k x.1 x.2.1 x.2.2 }
def jL:aS:={ fid:=57,Γ:=[iZ,(.int .i64),(.int .i64)],args:=[(.ref 0 0)],sto:=[(0,(.cells 104 3 [(.var 0),(.var 1),(.var 2)] false))],nk:=1,Δ:=[.tree,iZ,(.int .i64),(.int .i64)],res:=(.var 0),sto':=[(0,(.cells 104 3 [(.var 1),(.var 2),(.var 3)] false))],nk':=1,f:=fun k x=>dB k x.1 x.2.1 x.2.2 }
def yZ:aG (Tr×bG×Int×Int):={}
def zH:List aS:=[cV,jL]
theorem aGa (k:Nat) (x:bG×Int×Int×(List UInt8)):dD (k+1) x.1 x.2.1 x.2.2.1 x.2.2.2=fx xt zH gB Tryz.f144 yZ (aA Tryz.f144) k x:=(dD.eq_def ..).trans (by kernel_rfl)
def aFV:aG (Tr×bG×Int×Int):={}
def aFr:List aS:=[fF,lT,jU,sQ,kO,cV,pL,gB,jL,kC]
theorem aMd (k:Nat) (x:bG×Int×Int):eL (k+1) x.1 x.2.1 x.2.2=fx xt aFr sZ Tryz.f124 aFV (aA Tryz.f124) k x:=(eL.eq_def ..).trans (by kernel_rfl)
def vW:LH (Tr×bG×Int×Int):={ Γ:=[.tree,iZ,(.int .i64),(.int .i64),(.int .i64),(.int .i64),.str,.str,(.list false .tree)],live:=[(0,(.ref 0 0)),(3,(.ref 1 0)),(4,(.var 0))],sto:=[(0,(.cells 104 3 [(.var 1),(.var 2),(.var 3)] false)),(1,(.cells 60 5 [(.var 4),(.var 5),(.var 6),(.var 7),(.row 2 8)] false)),(2,(.list 25 8 none))],nk:=3,ad:=[.c 3 4 25 .tree],F:=fun k x=>bT k x.1 x.2.1 x.2.2.1 x.2.2.2.1 x.2.2.2.2.1 x.2.2.2.2.2.1 x.2.2.2.2.2.2.1 x.2.2.2.2.2.2.2.1 x.2.2.2.2.2.2.2.2 }
def aAg:aG (Tr×bG×Int×Int):={ loops:=[(5,vW)] }
def aAo:List aS:=[fF,lT,zE,sZ,cV]
theorem aMa (k:Nat) (x:bG×Int×Int):gC (k+1) x.1 x.2.1 x.2.2=fx xt aAo pD Tryz.f87 aAg (aA Tryz.f87) k x:=(gC.eq_def ..).trans (by kernel_rfl)
theorem aIA (k:Nat) (x:Tr×bG×Int×Int×Int×Int×(List UInt8)×(List UInt8)×(List Tr)):bT (k+1) x.1 x.2.1 x.2.2.1 x.2.2.2.1 x.2.2.2.2.1 x.2.2.2.2.2.1 x.2.2.2.2.2.2.1 x.2.2.2.2.2.2.2.1 x.2.2.2.2.2.2.2.2=iC xt aAo 32 1 aAg (aA Tryz.f87) (fY xt.T Tryz.f87.results pD) 0 vW k x:=(bT.eq_def ..).trans (by kernel_rfl)
def yL:LH (Tr×bG×Int×Int):={ Γ:=[.tree,iZ,(.int .i64),(.int .i64)],live:=[(0,(.ref 0 0)),(3,(.var 0))],sto:=[(0,(.cells 104 3 [(.var 1),(.var 2),(.var 3)] false))],nk:=1,F:=fun k x=>dS k x.1 x.2.1 x.2.2.1 x.2.2.2 }
def aBg:aG (Tr×bG×Int×Int):={ loops:=[(2,yL)] }
def aBS:List aS:=[pD,fF,cV,kC,kO,sQ]
theorem aNb (k:Nat) (x:bG×Int×Int):dB (k+1) x.1 x.2.1 x.2.2=fx xt aBS jL Tryz.f57 aBg (aA Tryz.f57) k x:=(dB.eq_def ..).trans (by kernel_rfl)
theorem aJF (k:Nat) (x:Tr×bG×Int×Int):dS (k+1) x.1 x.2.1 x.2.2.1 x.2.2.2=iC xt aBS 24 1 aBg (aA Tryz.f57) (fY xt.T Tryz.f57.results jL) 0 yL k x:=(dS.eq_def ..).trans (by kernel_rfl)
theorem wI (K:Nat):aE Tryz.prog gB K∧aE Tryz.prog sZ K∧aE Tryz.prog pD K∧aE Tryz.prog jL K:=by
 induction K using Nat.strongRecOn with
 | ind K ih=>exact ⟨aZ (X:=xt) (g:=gB) (H:=yZ) (env:=zH) (c:=aA Tryz.f144) aJ mixed (fun k hk=>(aB.cons (eT k) (aB.cons (ih k hk).2.2.2 aB.nil))) Tryz.func144 (by kernel_rfl) (by kernel_rfl) (by kernel_rfl) (aD.all aD.zero (by kernel_rfl) (by kernel_rfl)) (fun _=>rfl) aGa,aZ (X:=xt) (g:=sZ) (H:=aFV) (env:=aFr) (c:=aA Tryz.f124) aJ mixed (fun k hk=>(aB.cons (kA k) (aB.cons (yG k) (aB.cons (xU k) (aB.cons (aBW k) (aB.cons (sU k) (aB.cons (eT k) (aB.cons (aD5 k) (aB.cons (ih k hk).1 (aB.cons (ih k hk).2.2.2 (aB.cons (rU k) aB.nil))))))))))) Tryz.func124 (by kernel_rfl) (by kernel_rfl) (by kernel_rfl) (aD.all aD.zero (by kernel_rfl) (by kernel_rfl)) (fun _=>rfl) aMd,aZ (X:=xt) (g:=pD) (H:=aAg) (env:=aAo) (c:=aA Tryz.f87) aJ mixed (fun k hk=>(aB.cons (kA k) (aB.cons (yG k) (aB.cons (aJ8 k) (aB.cons (ih k hk).2.1 (aB.cons (eT k) aB.nil)))))) Tryz.func87 (by kernel_rfl) (by kernel_rfl) (by kernel_rfl) (aD.all (aD.zero.succ vW (by kernel_rfl) (fun _=>rfl) aIA) (by kernel_rfl) (by kernel_rfl)) (fun _=>rfl) aMa,aZ (X:=xt) (g:=jL) (H:=aBg) (env:=aBS) (c:=aA Tryz.f57) aJ mixed (fun k hk=>(aB.cons (ih k hk).2.2.1 (aB.cons (kA k) (aB.cons (eT k) (aB.cons (rU k) (aB.cons (sU k) (aB.cons (aBW k) aB.nil))))))) Tryz.func57 (by kernel_rfl) (by kernel_rfl) (by kernel_rfl) (aD.all (aD.zero.succ yL (by kernel_rfl) (fun _=>rfl) aJF) (by kernel_rfl) (by kernel_rfl)) (fun _=>rfl) aNb⟩
theorem aF8 (K:Nat):aE Tryz.prog gB K:=(wI K).1
theorem aNp (K:Nat):aE Tryz.prog jL K:=(wI K).2.2.2
def pM:aS:={ fid:=85,Γ:=[iZ,(.int .i64),(.int .i64)],args:=[(.ref 0 0)],sto:=[(0,(.cells 104 3 [(.var 0),(.var 1),(.var 2)] false))],nk:=1,Δ:=[.tree,iZ,(.int .i64),(.int .i64)],res:=(.var 0),sto':=[(0,(.cells 104 3 [(.var 1),(.var 2),(.var 3)] false))],nk':=1,f:=fun k x=>gA k x.1 x.2.1 x.2.2 }
def nH:aS:={ fid:=56,Γ:=[iZ,(.int .i64),(.int .i64)],args:=[(.ref 0 0)],sto:=[(0,(.cells 104 3 [(.var 0),(.var 1),(.var 2)] false))],nk:=1,Δ:=[.tree,iZ,(.int .i64),(.int .i64)],res:=(.var 0),sto':=[(0,(.cells 104 3 [(.var 1),(.var 2),(.var 3)] false))],nk':=1,f:=fun k x=>eA k x.1 x.2.1 x.2.2 }
def mH:aS:={ fid:=144,Γ:=[iZ,(.int .i64),(.int .i64),.str],args:=[(.ref 0 0),(.var 3),(.fn 56 [(.ref 0 0)] [])],sto:=[(0,(.cells 104 3 [(.var 0),(.var 1),(.var 2)] false))],nk:=1,Δ:=[.tree,iZ,(.int .i64),(.int .i64)],res:=(.var 0),sto':=[(0,(.cells 104 3 [(.var 1),(.var 2),(.var 3)] false))],nk':=1,f:=fun k x=>dV k x.1 x.2.1 x.2.2.1 x.2.2.2 }
def lY:aS:={ fid:=115,Γ:=[iZ,(.int .i64),(.int .i64),.bool],args:=[(.ref 0 0),(.var 3)],sto:=[(0,(.cells 104 3 [(.var 0),(.var 1),(.var 2)] false))],nk:=1,Δ:=[.tree,iZ,(.int .i64),(.int .i64)],res:=(.var 0),sto':=[(0,(.cells 104 3 [(.var 1),(.var 2),(.var 3)] false))],nk':=1,f:=fun k x=>dY k x.1 x.2.1 x.2.2.1 x.2.2.2 }
def jE:aS:={ fid:=77,Γ:=[iZ,(.int .i64),(.int .i64),.bool],args:=[(.ref 0 0),(.var 3)],sto:=[(0,(.cells 104 3 [(.var 0),(.var 1),(.var 2)] false))],nk:=1,Δ:=[(.list false .tree),iZ,(.int .i64),(.int .i64)],res:=(.var 0),sto':=[(0,(.cells 104 3 [(.var 1),(.var 2),(.var 3)] false))],nk':=1,f:=fun k x=>kP k x.1 x.2.1 x.2.2.1 x.2.2.2 }
def wK:LH (Tr×bG×Int×Int):={ Γ:=[.str,iZ,(.int .i64),(.int .i64)],live:=[(0,(.ref 0 0)),(5,(.var 0))],sto:=[(0,(.cells 104 3 [(.var 1),(.var 2),(.var 3)] false))],nk:=1,F:=fun k x=>nX k x.1 x.2.1 x.2.2.1 x.2.2.2 }
def aAz:aG (Tr×bG×Int×Int):={ ord:=[(9,[.l 0,.l 1,.l 2,.l 3,.l 4,.l 5,.l 6,.l 7,.h 8,.l 9,.l 10,.l 11,.l 12,.l 13]),(10,[.l 0,.l 1,.l 2,.l 3,.l 4,.l 5,.l 6,.l 7,.l 8,.l 9,.l 10,.h 11,.l 12,.l 13,.l 14,.l 15,.l 16,.l 17,.l 18,.l 19])],cuts:=[(12,wK)] }
def aAd:List aS:=[fF,jE,cV,sQ,nH,uI,sP,kC]
theorem aLS (k:Nat) (x:bG×Int×Int):gA (k+1) x.1 x.2.1 x.2.2=fx xt aAd pM Tryz.f85 aAz (aA Tryz.f85) k x:=(gA.eq_def ..).trans (by kernel_rfl)
theorem aIZ (k:Nat) (x:(List UInt8)×bG×Int×Int):nX (k+1) x.1 x.2.1 x.2.2.1 x.2.2.2=iC xt aAd 78 1 aAz (aA Tryz.f85) (fY xt.T Tryz.f85.results pM) 0 wK k x:=(nX.eq_def ..).trans (by kernel_rfl)
def yP:LH (Tr×bG×Int×Int):={ Γ:=[.tree,iZ,(.int .i64),(.int .i64)],live:=[(0,(.ref 0 0)),(3,(.var 0))],sto:=[(0,(.cells 104 3 [(.var 1),(.var 2),(.var 3)] false))],nk:=1,F:=fun k x=>cX k x.1 x.2.1 x.2.2.1 x.2.2.2 }
def aBf:aG (Tr×bG×Int×Int):={ loops:=[(2,yP)] }
def aBt:List aS:=[pM,fF,jL]
theorem aNP (k:Nat) (x:bG×Int×Int):eA (k+1) x.1 x.2.1 x.2.2=fx xt aBt nH Tryz.f56 aBf (aA Tryz.f56) k x:=(eA.eq_def ..).trans (by kernel_rfl)
theorem aJx (k:Nat) (x:Tr×bG×Int×Int):cX (k+1) x.1 x.2.1 x.2.2.1 x.2.2.2=iC xt aBt 21 1 aBf (aA Tryz.f56) (fY xt.T Tryz.f56.results nH) 0 yP k x:=(cX.eq_def ..).trans (by kernel_rfl)
def yU:aG (Tr×bG×Int×Int):={}
def zO:List aS:=[cV,nH]
theorem aF6 (k:Nat) (x:bG×Int×Int×(List UInt8)):dV (k+1) x.1 x.2.1 x.2.2.1 x.2.2.2=fx xt zO mH Tryz.f144 yU (aA Tryz.f144) k x:=(dV.eq_def ..).trans (by kernel_rfl)
def wC:LH (Tr×bG×Int×Int):={ Γ:=[iZ,(.int .i64),(.int .i64),(.int .i64),(.int .i64),.str,.str,(.list false .tree)],live:=[(0,(.ref 0 0)),(5,(.ref 1 0))],sto:=[(0,(.cells 104 3 [(.var 0),(.var 1),(.var 2)] false)),(1,(.cells 60 5 [(.var 3),(.var 4),(.var 5),(.var 6),(.row 2 7)] false)),(2,(.list 25 7 none))],nk:=3,ad:=[.c 5 4 25 .tree],F:=fun k x=>cE k x.1 x.2.1 x.2.2.1 x.2.2.2.1 x.2.2.2.2.1 x.2.2.2.2.2.1 x.2.2.2.2.2.2.1 x.2.2.2.2.2.2.2 }
def wO:LH (Tr×bG×Int×Int):={ Γ:=[iZ,(.int .i64),(.int .i64),(.int .i64),(.int .i64),.str,.str],live:=[(0,(.ref 0 0)),(10,(.ref 1 0))],sto:=[(0,(.cells 104 3 [(.var 0),(.var 1),(.var 2)] false)),(1,(.cells 60 5 [(.var 3),(.var 4),(.var 5),(.var 6),.nils] false))],nk:=2,F:=fun k x=>gJ k x.1 x.2.1 x.2.2.1 x.2.2.2.1 x.2.2.2.2.1 x.2.2.2.2.2.1 x.2.2.2.2.2.2 }
def sT:aG (Tr×bG×Int×Int):={ ord:=[(4,[.l 0,.l 1,.l 2,.l 3,.l 4,.l 5,.h 6,.l 7,.h 8,.l 9,.l 10,.h 11]),(5,[.l 0,.l 1,.l 2,.l 3,.l 4,.l 5,.l 6,.l 7,.h 8,.l 9,.h 10,.l 11,.l 12,.h 13])],cuts:=[(5,wC),(26,wO)] }
def uG:List aS:=[fF,lT,zE,kO,lI,jU,sQ,cV,pL,mH,kC,gB]
theorem aLM (k:Nat) (x:bG×Int×Int×Bool):dY (k+1) x.1 x.2.1 x.2.2.1 x.2.2.2=fx xt uG lY Tryz.f115 sT (aA Tryz.f115) k x:=(dY.eq_def ..).trans (by kernel_rfl)
theorem aIU (k:Nat) (x:bG×Int×Int×Int×Int×(List UInt8)×(List UInt8)×(List Tr)):cE (k+1) x.1 x.2.1 x.2.2.1 x.2.2.2.1 x.2.2.2.2.1 x.2.2.2.2.2.1 x.2.2.2.2.2.2.1 x.2.2.2.2.2.2.2=iC xt uG 142 1 sT (aA Tryz.f115) (fY xt.T Tryz.f115.results lY) 0 wC k x:=(cE.eq_def ..).trans (by kernel_rfl)
theorem aH2 (k:Nat) (x:bG×Int×Int×Int×Int×(List UInt8)×(List UInt8)):gJ (k+1) x.1 x.2.1 x.2.2.1 x.2.2.2.1 x.2.2.2.2.1 x.2.2.2.2.2.1 x.2.2.2.2.2.2=iC xt uG 142 1 sT (aA Tryz.f115) (fY xt.T Tryz.f115.results lY) 1 wO k x:=(gJ.eq_def ..).trans (by kernel_rfl)
def uY:LH ((List Tr)×bG×Int×Int):={ Γ:=[.bool,(.list false .tree),.tree,iZ,(.int .i64),(.int .i64)],live:=[(0,(.ref 0 0)),(1,(.var 0)),(5,(.row 1 1)),(6,(.var 2))],sto:=[(0,(.cells 104 3 [(.var 3),(.var 4),(.var 5)] false)),(1,(.list 25 1 none))],nk:=2,ad:=[.t 5 25 .tree],F:=fun k x=>bJ k x.1 x.2.1 x.2.2.1 x.2.2.2.1 x.2.2.2.2.1 x.2.2.2.2.2 }
def yS:aG ((List Tr)×bG×Int×Int):={ loops:=[(3,uY)] }
def yO:List aS:=[lY]
theorem aJY (k:Nat) (x:bG×Int×Int×Bool):kP (k+1) x.1 x.2.1 x.2.2.1 x.2.2.2=fx xt yO jE Tryz.f77 yS (aA Tryz.f77) k x:=(kP.eq_def ..).trans (by kernel_rfl)
theorem aHO (k:Nat) (x:Bool×(List Tr)×Tr×bG×Int×Int):bJ (k+1) x.1 x.2.1 x.2.2.1 x.2.2.2.1 x.2.2.2.2.1 x.2.2.2.2.2=iC xt yO 20 1 yS (aA Tryz.f77) (fY xt.T Tryz.f77.results jE) 0 uY k x:=(bJ.eq_def ..).trans (by kernel_rfl)
theorem aK7 (K:Nat):aE Tryz.prog pM K∧aE Tryz.prog nH K∧aE Tryz.prog mH K∧aE Tryz.prog lY K∧aE Tryz.prog jE K:=by
 induction K using Nat.strongRecOn with
 | ind K ih=>exact ⟨aZ (X:=xt) (g:=pM) (H:=aAz) (env:=aAd) (c:=aA Tryz.f85) aJ mixed (fun k hk=>(aB.cons (kA k) (aB.cons (ih k hk).2.2.2.2 (aB.cons (eT k) (aB.cons (aBW k) (aB.cons (ih k hk).2.1 (aB.cons (aCZ k) (aB.cons (aBd k) (aB.cons (rU k) aB.nil))))))))) Tryz.func85 (by kernel_rfl) (by kernel_rfl) (by kernel_rfl) (aD.all (aD.zero.succ wK (by kernel_rfl) (fun _=>rfl) aIZ) (by kernel_rfl) (by kernel_rfl)) (fun _=>rfl) aLS,aZ (X:=xt) (g:=nH) (H:=aBf) (env:=aBt) (c:=aA Tryz.f56) aJ mixed (fun k hk=>(aB.cons (ih k hk).1 (aB.cons (kA k) (aB.cons (aNp k) aB.nil)))) Tryz.func56 (by kernel_rfl) (by kernel_rfl) (by kernel_rfl) (aD.all (aD.zero.succ yP (by kernel_rfl) (fun _=>rfl) aJx) (by kernel_rfl) (by kernel_rfl)) (fun _=>rfl) aNP,aZ (X:=xt) (g:=mH) (H:=yU) (env:=zO) (c:=aA Tryz.f144) aJ mixed (fun k hk=>(aB.cons (eT k) (aB.cons (ih k hk).2.1 aB.nil))) Tryz.func144 (by kernel_rfl) (by kernel_rfl) (by kernel_rfl) (aD.all aD.zero (by kernel_rfl) (by kernel_rfl)) (fun _=>rfl) aF6,aZ (X:=xt) (g:=lY) (H:=sT) (env:=uG) (c:=aA Tryz.f115) aJ mixed (fun k hk=>(aB.cons (kA k) (aB.cons (yG k) (aB.cons (aJ8 k) (aB.cons (sU k) (aB.cons (aFu k) (aB.cons (xU k) (aB.cons (aBW k) (aB.cons (eT k) (aB.cons (aD5 k) (aB.cons (ih k hk).2.2.1 (aB.cons (rU k) (aB.cons (aF8 k) aB.nil))))))))))))) Tryz.func115 (by kernel_rfl) (by kernel_rfl) (by kernel_rfl) (aD.all ((aD.zero.succ wC (by kernel_rfl) (fun _=>rfl) aIU).succ wO (by kernel_rfl) (fun _=>rfl) aH2) (by kernel_rfl) (by kernel_rfl)) (fun _=>rfl) aLM,aZ (X:=xt) (g:=jE) (H:=yS) (env:=yO) (c:=aA Tryz.f77) aJ mixed (fun k hk=>(aB.cons (ih k hk).2.2.2.1 aB.nil)) Tryz.func77 (by kernel_rfl) (by kernel_rfl) (by kernel_rfl) (aD.all (aD.zero.succ uY (by kernel_rfl) (fun _=>rfl) aHO) (by kernel_rfl) (by kernel_rfl)) (fun _=>rfl) aJY⟩
theorem aKo (K:Nat):aE Tryz.prog jE K:=(aK7 K).2.2.2.2
def aEj:aS:={ fid:=41,Γ:=[iZ,(.int .i64),.bool],args:=[(.var 0),(.var 1),(.var 2)],Δ:=[(.list false .tree),(.int .i64),(.int .i64)],res:=(.tup [(.var 0),(.var 1),(.var 2)]),f:=fun k x=>aEC k x.1 x.2.1 x.2.2 }
def aNY:aG ((List Tr)×Int×Int):={ ord:=[(4,[.l 0,.l 1,.l 2,.l 3,.l 4,.l 5,.l 6,.l 7,.l 8,.l 9,.l 10]),(5,[.l 0,.l 1,.l 2,.l 3,.l 4,.m 5,.l 6,.l 7])] }
def aOB:List aS:=[aEd,jE]
theorem aUT (k:Nat) (x:bG×Int×Bool):aEC k x.1 x.2.1 x.2.2=fx xt aOB aEj Tryz.f41 aNY (aA Tryz.f41) k x:=by kernel_rfl
theorem aUZ (K:Nat):aE Tryz.prog aEj K:=aI (X:=xt) (g:=aEj) (H:=aNY) (env:=aOB) (c:=aA Tryz.f41) aJ mixed (fun k=>(aB.cons (aUF k) (aB.cons (aKo k) aB.nil))) Tryz.func41 (by kernel_rfl) (by kernel_rfl) (by kernel_rfl) (aD.all aD.zero (by kernel_rfl) (by kernel_rfl)) aUT K
def qX:aS:={ fid:=43,Γ:=[.tree],args:=[(.var 0)],Δ:=[(.int .i64)],res:=(.var 0),f:=fun k x=>rB k x }
def aEI:LH (Int):={ Γ:=[(.int .i64),(.list false .tree),(.int .i64)],live:=[(3,(.var 0)),(11,(.var 1)),(12,(.len 1)),(13,(.var 2))],F:=fun k x=>oM k x.1 x.2.1 x.2.2 }
def aIQ:aG (Int):={ loops:=[(5,aEI)] }
def aH9:List aS:=[qX]
theorem aUP (k:Nat) (x:Tr):rB (k+1) x=fx xt aH9 qX Tryz.f43 aIQ (aA Tryz.f43) k x:=(rB.eq_def ..).trans (by kernel_rfl)
theorem aQa (k:Nat) (x:Int×(List Tr)×Int):oM (k+1) x.1 x.2.1 x.2.2=iC xt aH9 23 0 aIQ (aA Tryz.f43) (fY xt.T Tryz.f43.results qX) 0 aEI k x:=(oM.eq_def ..).trans (by kernel_rfl)
theorem aTB (K:Nat):aE Tryz.prog qX K:=by
 induction K using Nat.strongRecOn with
 | ind K ih=>exact aZ (X:=xt) (g:=qX) (H:=aIQ) (env:=aH9) (c:=aA Tryz.f43) aJ mixed (fun k hk=>(aB.cons (ih k hk) aB.nil)) Tryz.func43 (by kernel_rfl) (by kernel_rfl) (by kernel_rfl) (aD.all (aD.zero.succ aEI (by kernel_rfl) (fun _=>rfl) aQa) (by kernel_rfl) (by kernel_rfl)) (fun _=>rfl) aUP
theorem aMZ (K:Nat):aE Tryz.prog qX K:=(aTB K)
def mJ:aS:={ fid:=44,Γ:=[.tree],args:=[(.var 0)],Δ:=[(.int .i64)],res:=(.var 0),f:=fun k x=>lS k x }
def aF0:LH (Int):={ Γ:=[(.int .i64),(.list false .tree),(.int .i64)],live:=[(3,(.var 0)),(11,(.var 1)),(12,(.len 1)),(13,(.var 2))],F:=fun k x=>oY k x.1 x.2.1 x.2.2 }
def aIs:aG (Int):={ loops:=[(5,aF0)] }
def aIr:List aS:=[mJ]
theorem aUR (k:Nat) (x:Tr):lS (k+1) x=fx xt aIr mJ Tryz.f44 aIs (aA Tryz.f44) k x:=(lS.eq_def ..).trans (by kernel_rfl)
theorem aQs (k:Nat) (x:Int×(List Tr)×Int):oY (k+1) x.1 x.2.1 x.2.2=iC xt aIr 24 0 aIs (aA Tryz.f44) (fY xt.T Tryz.f44.results mJ) 0 aF0 k x:=(oY.eq_def ..).trans (by kernel_rfl)
theorem aS8 (K:Nat):aE Tryz.prog mJ K:=by
 induction K using Nat.strongRecOn with
 | ind K ih=>exact aZ (X:=xt) (g:=mJ) (H:=aIs) (env:=aIr) (c:=aA Tryz.f44) aJ mixed (fun k hk=>(aB.cons (ih k hk) aB.nil)) Tryz.func44 (by kernel_rfl) (by kernel_rfl) (by kernel_rfl) (aD.all (aD.zero.succ aF0 (by kernel_rfl) (fun _=>rfl) aQs) (by kernel_rfl) (by kernel_rfl)) (fun _=>rfl) aUR
theorem aCO (K:Nat):aE Tryz.prog mJ K:=(aS8 K)
def uP:aS:={ fid:=18,Γ:=[.str],args:=[(.var 0)],Δ:=[.tree,(.int .i64),(.int .i64)],res:=(.tup [(.var 0),(.var 1),(.var 2)]),f:=fun k x=>vJ k x }
def aDG:LH (Tr×Int×Int):={ Γ:=[.str,(.int .i64),iZ,(.list false .tree),(.int .i64)],live:=[(0,(.var 0)),(4,(.var 1)),(5,(.var 2)),(6,(.var 3)),(7,(.var 4))],F:=fun k x=>fV k x.1 x.2.1 x.2.2.1 x.2.2.2.1 x.2.2.2.2 }
def aHp:aG (Tr×Int×Int):={ cuts:=[(7,aDG)] }
def aGP:List aS:=[aAT,aEj,sQ,qX,mJ]
theorem aS6 (k:Nat) (x:(List UInt8)):vJ k x=fx xt aGP uP Tryz.f18 aHp (aA Tryz.f18) k x:=by kernel_rfl
theorem aPc (k:Nat) (x:(List UInt8)×Int×bG×(List Tr)×Int):fV (k+1) x.1 x.2.1 x.2.2.1 x.2.2.2.1 x.2.2.2.2=iC xt aGP 58 0 aHp (aA Tryz.f18) (fY xt.T Tryz.f18.results uP) 0 aDG k x:=(fV.eq_def ..).trans (by kernel_rfl)
theorem aJ6 (K:Nat):aE Tryz.prog uP K:=aI (X:=xt) (g:=uP) (H:=aHp) (env:=aGP) (c:=aA Tryz.f18) aJ mixed (fun k=>(aB.cons (aWj k) (aB.cons (aUZ k) (aB.cons (aBW k) (aB.cons (aMZ k) (aB.cons (aCO k) aB.nil)))))) Tryz.func18 (by kernel_rfl) (by kernel_rfl) (by kernel_rfl) (aD.all (aD.zero.succ aDG (by kernel_rfl) (fun _=>rfl) aPc) (by kernel_rfl) (by kernel_rfl)) aS6 K
def zV:aS:={ fid:=155,Γ:=[.tree],args:=[(.var 0)],Δ:=[.bool],res:=(.var 0),f:=fun k x=>uR k x }
def pO:aS:={ fid:=176,Γ:=[(.list false .tree)],args:=[(.var 0),(.fn 155 [] [])],Δ:=[(.int .i64)],res:=(.var 0),f:=fun k x=>slices_IndexFunc k x }
def pW:aS:={ fid:=154,Γ:=[(.list false .tree)],args:=[(.var 0),(.fn 155 [] [])],Δ:=[.bool],res:=(.var 0),f:=fun k x=>slices_ContainsFunc k x }
def uO:aS:={ fid:=130,Γ:=[.tree],args:=[(.var 0)],Δ:=[.bool],res:=(.var 0),f:=fun k x=>qM k x }
def aJq:aG (Bool):={}
def aJg:List aS:=[uO]
theorem aPK (k:Nat) (x:Tr):uR (k+1) x=fx xt aJg zV Tryz.f155 aJq (aA Tryz.f155) k x:=(uR.eq_def ..).trans (by kernel_rfl)
def wS:LH (Int):={ Γ:=[(.list false .tree),(.int .i64)],live:=[(0,(.var 0)),(1,(.fn 155 [] [])),(7,(.len 0)),(8,(.var 1))],F:=fun k x=>eV k x.1 x.2 }
def aAr:aG (Int):={ loops:=[(2,wS)] }
def aAy:List aS:=[zV]
theorem aMc (k:Nat) (x:(List Tr)):slices_IndexFunc (k+1) x=fx xt aAy pO Tryz.f176 aAr (aA Tryz.f176) k x:=(slices_IndexFunc.eq_def ..).trans (by kernel_rfl)
theorem aId (k:Nat) (x:(List Tr)×Int):eV (k+1) x.1 x.2=iC xt aAy 19 0 aAr (aA Tryz.f176) (fY xt.T Tryz.f176.results pO) 0 wS k x:=(eV.eq_def ..).trans (by kernel_rfl)
def aB8:aG (Bool):={}
def aB9:List aS:=[pO]
theorem aIi (k:Nat) (x:(List Tr)):slices_ContainsFunc (k+1) x=fx xt aB9 pW Tryz.f154 aB8 (aA Tryz.f154) k x:=(slices_ContainsFunc.eq_def ..).trans (by kernel_rfl)
def aMr:aG (Bool):={}
def aMk:List aS:=[pW]
theorem aTp (k:Nat) (x:Tr):qM (k+1) x=fx xt aMk uO Tryz.f130 aMr (aA Tryz.f130) k x:=(qM.eq_def ..).trans (by kernel_rfl)
theorem aOg (K:Nat):aE Tryz.prog zV K∧aE Tryz.prog pO K∧aE Tryz.prog pW K∧aE Tryz.prog uO K:=by
 induction K using Nat.strongRecOn with
 | ind K ih=>exact ⟨aZ (X:=xt) (g:=zV) (H:=aJq) (env:=aJg) (c:=aA Tryz.f155) aJ mixed (fun k hk=>(aB.cons (ih k hk).2.2.2 aB.nil)) Tryz.func155 (by kernel_rfl) (by kernel_rfl) (by kernel_rfl) (aD.all aD.zero (by kernel_rfl) (by kernel_rfl)) (fun _=>rfl) aPK,aZ (X:=xt) (g:=pO) (H:=aAr) (env:=aAy) (c:=aA Tryz.f176) aJ mixed (fun k hk=>(aB.cons (ih k hk).1 aB.nil)) Tryz.func176 (by kernel_rfl) (by kernel_rfl) (by kernel_rfl) (aD.all (aD.zero.succ wS (by kernel_rfl) (fun _=>rfl) aId) (by kernel_rfl) (by kernel_rfl)) (fun _=>rfl) aMc,aZ (X:=xt) (g:=pW) (H:=aB8) (env:=aB9) (c:=aA Tryz.f154) aJ mixed (fun k hk=>(aB.cons (ih k hk).2.1 aB.nil)) Tryz.func154 (by kernel_rfl) (by kernel_rfl) (by kernel_rfl) (aD.all aD.zero (by kernel_rfl) (by kernel_rfl)) (fun _=>rfl) aIi,aZ (X:=xt) (g:=uO) (H:=aMr) (env:=aMk) (c:=aA Tryz.f130) aJ mixed (fun k hk=>(aB.cons (ih k hk).2.2.1 aB.nil)) Tryz.func130 (by kernel_rfl) (by kernel_rfl) (by kernel_rfl) (aD.all aD.zero (by kernel_rfl) (by kernel_rfl)) (fun _=>rfl) aTp⟩
theorem aTZ (K:Nat):aE Tryz.prog uO K:=(aOg K).2.2.2
def pE:aS:={ fid:=131,Γ:=[.tree,(.list false (.pair (.int .i64) (.pair (.int .i64) (.pair .str (.pair .str (.list false (.int .i64)))))))],args:=[(.var 0),(.ref 0 0),(.ref 1 0)],sto:=[(0,(.cells 75 1 [(.fn 131 [] [(.ref 0 0),(.ref 1 0)])] false)),(1,(.cells 24 1 [(.row 2 1)] false)),(2,(.list 51 1 none))],nk:=2,nr:=1,Δ:=[(.int .i64),(.list false (.pair (.int .i64) (.pair (.int .i64) (.pair .str (.pair .str (.list false (.int .i64)))))))],res:=(.var 0),sto':=[(0,(.cells 75 1 [(.fn 131 [] [(.ref 0 0),(.ref 1 0)])] false)),(1,(.cells 24 1 [(.row 2 1)] false)),(2,(.list 51 1 none))],nk':=3,f:=fun k x=>qS k x.1 x.2 }
def aCJ:LH (Int×(List (Int×Int×(List UInt8)×(List UInt8)×(List Int)))):={ Γ:=[(.list false .tree),(.int .i64),(.list false (.pair (.int .i64) (.pair (.int .i64) (.pair .str (.pair .str (.list false (.int .i64))))))),(.int .i64),(.int .i64),.str,.str,(.list false (.int .i64))],live:=[(1,(.ref 0 0)),(2,(.ref 1 0)),(5,(.ref 2 0)),(28,(.var 0)),(29,(.len 0)),(30,(.var 1))],sto:=[(0,(.cells 75 1 [(.fn 131 [] [(.ref 0 0),(.ref 1 0)])] false)),(1,(.cells 24 1 [(.row 3 2)] false)),(2,(.cells 51 5 [(.var 3),(.var 4),(.var 5),(.var 6),(.row 4 7)] false)),(3,(.list 51 2 none)),(4,(.list 3 7 none))],nk:=5,ad:=[.c 5 4 3 (.int .i64)],F:=fun k x=>lA k x.1 x.2.1 x.2.2.1 x.2.2.2.1 x.2.2.2.2.1 x.2.2.2.2.2.1 x.2.2.2.2.2.2.1 x.2.2.2.2.2.2.2 }
def aES:aG (Int×(List (Int×Int×(List UInt8)×(List UInt8)×(List Int)))):={ ord:=[(1,[.l 0,.l 1,.l 2,.l 3,.l 4,.l 5,.l 6,.l 7,.l 8,.l 9,.l 10,.l 11,.l 12,.l 13,.l 14,.l 15,.l 16,.h 17,.h 18]),(5,[.l 0,.l 1,.l 2,.l 3,.h 4,.l 5,.h 6,.l 7,.h 8])],loops:=[(3,aCJ)] }
def aFc:List aS:=[pE]
theorem aRO (k:Nat) (x:Tr×(List (Int×Int×(List UInt8)×(List UInt8)×(List Int)))):qS (k+1) x.1 x.2=fx xt aFc pE Tryz.f131 aES (aA Tryz.f131) k x:=(qS.eq_def ..).trans (by kernel_rfl)
theorem aNM (k:Nat) (x:(List Tr)×Int×(List (Int×Int×(List UInt8)×(List UInt8)×(List Int)))×Int×Int×(List UInt8)×(List UInt8)×(List Int)):lA (k+1) x.1 x.2.1 x.2.2.1 x.2.2.2.1 x.2.2.2.2.1 x.2.2.2.2.2.1 x.2.2.2.2.2.2.1 x.2.2.2.2.2.2.2=iC xt aFc 53 2 aES (aA Tryz.f131) (fY xt.T Tryz.f131.results pE) 0 aCJ k x:=(lA.eq_def ..).trans (by kernel_rfl)
theorem aQn (K:Nat):aE Tryz.prog pE K:=by
 induction K using Nat.strongRecOn with
 | ind K ih=>exact aZ (X:=xt) (g:=pE) (H:=aES) (env:=aFc) (c:=aA Tryz.f131) aJ mixed (fun k hk=>(aB.cons (ih k hk) aB.nil)) Tryz.func131 (by kernel_rfl) (by kernel_rfl) (by kernel_rfl) (aD.all (aD.zero.succ aCJ (by kernel_rfl) (fun _=>rfl) aNM) (by kernel_rfl) (by kernel_rfl)) (fun _=>rfl) aRO
theorem aRw (K:Nat):aE Tryz.prog pE K:=(aQn K)
def xP:aS:={ fid:=91,Γ:=[.tree],args:=[(.var 0)],Δ:=[(.list false (.pair (.int .i64) (.pair (.int .i64) (.pair .str (.pair .str (.list false (.int .i64))))))),(.int .i64)],res:=(.tup [(.agg [(.var 0)]),(.var 1)]),f:=fun k x=>wT k x }
def aOA:aG ((List (Int×Int×(List UInt8)×(List UInt8)×(List Int)))×Int):={ adr:=[(8,[.c 4 0 51 (.pair (.int .i64) (.pair (.int .i64) (.pair .str (.pair .str (.list false (.int .i64))))))])] }
def aPn:List aS:=[uO,qX,pE]
theorem aU7 (k:Nat) (x:Tr):wT k x=fx xt aPn xP Tryz.f91 aOA (aA Tryz.f91) k x:=by kernel_rfl
theorem aG1 (K:Nat):aE Tryz.prog xP K:=aI (X:=xt) (g:=xP) (H:=aOA) (env:=aPn) (c:=aA Tryz.f91) aJ mixed (fun k=>(aB.cons (aTZ k) (aB.cons (aMZ k) (aB.cons (aRw k) aB.nil)))) Tryz.func91 (by kernel_rfl) (by kernel_rfl) (by kernel_rfl) (aD.all aD.zero (by kernel_rfl) (by kernel_rfl)) aU7 K
def hZ:aS:={ fid:=92,Γ:=[.tree,.bool,.bool,.bool],args:=[(.var 0),(.var 1),(.var 2),(.var 3)],Δ:=[.bool],res:=(.var 0),f:=fun k x=>bI k x.1 x.2.1 x.2.2.1 x.2.2.2 }
def aPv:aG (Bool):={}
def aOM:List aS:=[]
theorem aUH (k:Nat) (x:Tr×Bool×Bool×Bool):bI k x.1 x.2.1 x.2.2.1 x.2.2.2=fx xt aOM hZ Tryz.f92 aPv (aA Tryz.f92) k x:=by kernel_rfl
theorem jW (K:Nat):aE Tryz.prog hZ K:=aI (X:=xt) (g:=hZ) (H:=aPv) (env:=aOM) (c:=aA Tryz.f92) aJ mixed (fun k=>aB.nil) Tryz.func92 (by kernel_rfl) (by kernel_rfl) (by kernel_rfl) (aD.all aD.zero (by kernel_rfl) (by kernel_rfl)) aUH K
def mK:aS:={ fid:=111,Γ:=[.tree],args:=[(.var 0),.nils],Δ:=[.bool],res:=(.var 0),f:=fun k x=>hG k x }
def aFy:LH (Bool):={ Γ:=[.tree],live:=[(0,(.var 0)),(15,.nils),(16,(.int .i64 0)),(17,(.int .i64 0))],F:=fun k x=>zG k x }
def aIF:aG (Bool):={ loops:=[(4,aFy)] }
def aIe:List aS:=[]
theorem aUM (k:Nat) (x:Tr):hG k x=fx xt aIe mK Tryz.f111 aIF (aA Tryz.f111) k x:=by kernel_rfl
theorem aQE (k:Nat) (x:Tr):zG (k+1) x=iC xt aIe 33 0 aIF (aA Tryz.f111) (fY xt.T Tryz.f111.results mK) 0 aFy k x:=(zG.eq_def ..).trans (by kernel_rfl)
theorem uS (K:Nat):aE Tryz.prog mK K:=aI (X:=xt) (g:=mK) (H:=aIF) (env:=aIe) (c:=aA Tryz.f111) aJ mixed (fun k=>aB.nil) Tryz.func111 (by kernel_rfl) (by kernel_rfl) (by kernel_rfl) (aD.all (aD.zero.succ aFy (by kernel_rfl) (fun _=>rfl) aQE) (by kernel_rfl) (by kernel_rfl)) aUM K
def qO:aS:={ fid:=114,Γ:=[.tree],args:=[(.var 0)],Δ:=[.bool],res:=(.var 0),f:=fun k x=>rA k x }
def aBz:aS:={ fid:=111,Γ:=[.tree],args:=[(.var 0),(.slc [(.fn 113 [] []),(.fn 113 [] [])] 2 true)],Δ:=[.bool],res:=(.var 0),f:=fun k x=>tA k x }
def jV:aS:={ fid:=113,Γ:=[.tree],args:=[(.var 0)],Δ:=[.bool],res:=(.var 0),f:=fun k x=>eW k x }
def pV:aS:={ fid:=111,Γ:=[.tree],args:=[(.var 0),(.slc [(.fn 113 [] [])] 1 true)],Δ:=[.bool],res:=(.var 0),f:=fun k x=>mG k x }
def aE0:LH (Bool):={ Γ:=[.tree,(.list false .tree),(.int .i64),(.list false (.pair .str .bool))],live:=[(0,(.var 0)),(3,(.mp 0)),(10,(.var 1)),(11,(.len 1)),(12,(.var 2))],sto:=[(0,(.map 3))],nk:=1,F:=fun k x=>pA k x.1 x.2.1 x.2.2.1 x.2.2.2 }
def aIg:aG (Bool):={ loops:=[(3,aE0)] }
def aIu:List aS:=[hZ,fA,pV]
theorem aUQ (k:Nat) (x:Tr):rA (k+1) x=fx xt aIu qO Tryz.f114 aIg (aA Tryz.f114) k x:=(rA.eq_def ..).trans (by kernel_rfl)
theorem aP5 (k:Nat) (x:Tr×(List Tr)×Int×(List ((List UInt8)×Bool))):pA (k+1) x.1 x.2.1 x.2.2.1 x.2.2.2=iC xt aIu 60 0 aIg (aA Tryz.f114) (fY xt.T Tryz.f114.results qO) 0 aE0 k x:=(pA.eq_def ..).trans (by kernel_rfl)
def aKt:aG (Bool):={ unr:=[(4,13)] }
def aK5:List aS:=[jV]
theorem aRS (k:Nat) (x:Tr):tA (k+1) x=fx xt aK5 aBz Tryz.f111 aKt (aA Tryz.f111) k x:=(tA.eq_def ..).trans (by kernel_rfl)
def aKd:aG (Bool):={}
def aKy:List aS:=[hZ,mK,mL,aBz,fA,qO]
theorem aRM (k:Nat) (x:Tr):eW (k+1) x=fx xt aKy jV Tryz.f113 aKd (aA Tryz.f113) k x:=(eW.eq_def ..).trans (by kernel_rfl)
def aKl:aG (Bool):={ unr:=[(4,13)] }
def aKm:List aS:=[jV]
theorem aRh (k:Nat) (x:Tr):mG (k+1) x=fx xt aKm pV Tryz.f111 aKl (aA Tryz.f111) k x:=(mG.eq_def ..).trans (by kernel_rfl)
theorem aEx (K:Nat):aE Tryz.prog qO K∧aE Tryz.prog aBz K∧aE Tryz.prog jV K∧aE Tryz.prog pV K:=by
 induction K using Nat.strongRecOn with
 | ind K ih=>exact ⟨aZ (X:=xt) (g:=qO) (H:=aIg) (env:=aIu) (c:=aA Tryz.f114) aJ mixed (fun k hk=>(aB.cons (jW k) (aB.cons (iO k) (aB.cons (ih k hk).2.2.2 aB.nil)))) Tryz.func114 (by kernel_rfl) (by kernel_rfl) (by kernel_rfl) (aD.all (aD.zero.succ aE0 (by kernel_rfl) (fun _=>rfl) aP5) (by kernel_rfl) (by kernel_rfl)) (fun _=>rfl) aUQ,aZ (X:=xt) (g:=aBz) (H:=aKt) (env:=aK5) (c:=aA Tryz.f111) aJ mixed (fun k hk=>(aB.cons (ih k hk).2.2.1 aB.nil)) Tryz.func111 (by kernel_rfl) (by kernel_rfl) (by kernel_rfl) (aD.all aD.zero (by kernel_rfl) (by kernel_rfl)) (fun _=>rfl) aRS,aZ (X:=xt) (g:=jV) (H:=aKd) (env:=aKy) (c:=aA Tryz.f113) aJ mixed (fun k hk=>(aB.cons (jW k) (aB.cons (uS k) (aB.cons (rE k) (aB.cons (ih k hk).2.1 (aB.cons (iO k) (aB.cons (ih k hk).1 aB.nil))))))) Tryz.func113 (by kernel_rfl) (by kernel_rfl) (by kernel_rfl) (aD.all aD.zero (by kernel_rfl) (by kernel_rfl)) (fun _=>rfl) aRM,aZ (X:=xt) (g:=pV) (H:=aKl) (env:=aKm) (c:=aA Tryz.f111) aJ mixed (fun k hk=>(aB.cons (ih k hk).2.2.1 aB.nil)) Tryz.func111 (by kernel_rfl) (by kernel_rfl) (by kernel_rfl) (aD.all aD.zero (by kernel_rfl) (by kernel_rfl)) (fun _=>rfl) aRh⟩
theorem aMA (K:Nat):aE Tryz.prog qO K:=(aEx K).1
theorem zY (K:Nat):aE Tryz.prog jV K:=(aEx K).2.2.1
theorem aJm (K:Nat):aE Tryz.prog pV K:=(aEx K).2.2.2
def zW:aS:={ fid:=111,Γ:=[.tree],args:=[(.var 0),(.slc [(.fn 74 [] []),(.fn 113 [] [])] 2 true)],Δ:=[.bool],res:=(.var 0),f:=fun k x=>uN k x }
def aBp:aS:={ fid:=75,Γ:=[.tree],args:=[(.var 0)],Δ:=[.bool],res:=(.var 0),f:=fun k x=>uH k x }
def wF:aS:={ fid:=93,Γ:=[.tree,(.int .i64)],args:=[(.var 0),(.var 1),(.fn 75 [] [])],Δ:=[.bool],res:=(.var 0),f:=fun k x=>xI k x.1 x.2 }
def oV:aS:={ fid:=74,Γ:=[.tree],args:=[(.var 0)],Δ:=[.bool],res:=(.var 0),f:=fun k x=>lD k x }
def sG:aS:={ fid:=111,Γ:=[.tree],args:=[(.var 0),(.slc [(.fn 74 [] [])] 1 true)],Δ:=[.bool],res:=(.var 0),f:=fun k x=>oJ k x }
def aI6:aG (Bool):={ unr:=[(4,13)] }
def aJn:List aS:=[oV,jV]
theorem aPF (k:Nat) (x:Tr):uN (k+1) x=fx xt aJn zW Tryz.f111 aI6 (aA Tryz.f111) k x:=(uN.eq_def ..).trans (by kernel_rfl)
def aK9:aG (Bool):={}
def aKS:List aS:=[hZ,sG,mL,mK,fA,pV,qO]
theorem aRu (k:Nat) (x:Tr):uH (k+1) x=fx xt aKS aBp Tryz.f75 aK9 (aA Tryz.f75) k x:=(uH.eq_def ..).trans (by kernel_rfl)
def aCl:LH (Bool):={ Γ:=[(.list false .tree),(.int .i64)],live:=[(2,(.fn 75 [] [])),(14,(.var 0)),(15,(.len 0)),(16,(.var 1))],F:=fun k x=>qF k x.1 x.2 }
def aFY:aG (Bool):={ loops:=[(2,aCl)] }
def aFn:List aS:=[aBp]
theorem aRf (k:Nat) (x:Tr×Int):xI (k+1) x.1 x.2=fx xt aFn wF Tryz.f93 aFY (aA Tryz.f93) k x:=(xI.eq_def ..).trans (by kernel_rfl)
theorem aNS (k:Nat) (x:(List Tr)×Int):qF (k+1) x.1 x.2=iC xt aFn 25 0 aFY (aA Tryz.f93) (fY xt.T Tryz.f93.results wF) 0 aCl k x:=(qF.eq_def ..).trans (by kernel_rfl)
def aMq:aG (Bool):={}
def aMw:List aS:=[hZ,wF,fA,mK,mL,zW]
theorem aT3 (k:Nat) (x:Tr):lD (k+1) x=fx xt aMw oV Tryz.f74 aMq (aA Tryz.f74) k x:=(lD.eq_def ..).trans (by kernel_rfl)
def aKu:aG (Bool):={ unr:=[(4,13)] }
def aKp:List aS:=[oV]
theorem aRH (k:Nat) (x:Tr):oJ (k+1) x=fx xt aKp sG Tryz.f111 aKu (aA Tryz.f111) k x:=(oJ.eq_def ..).trans (by kernel_rfl)
theorem aGz (K:Nat):aE Tryz.prog zW K∧aE Tryz.prog aBp K∧aE Tryz.prog wF K∧aE Tryz.prog oV K∧aE Tryz.prog sG K:=by
 induction K using Nat.strongRecOn with
 | ind K ih=>exact ⟨aZ (X:=xt) (g:=zW) (H:=aI6) (env:=aJn) (c:=aA Tryz.f111) aJ mixed (fun k hk=>(aB.cons (ih k hk).2.2.2.1 (aB.cons (zY k) aB.nil))) Tryz.func111 (by kernel_rfl) (by kernel_rfl) (by kernel_rfl) (aD.all aD.zero (by kernel_rfl) (by kernel_rfl)) (fun _=>rfl) aPF,aZ (X:=xt) (g:=aBp) (H:=aK9) (env:=aKS) (c:=aA Tryz.f75) aJ mixed (fun k hk=>(aB.cons (jW k) (aB.cons (ih k hk).2.2.2.2 (aB.cons (rE k) (aB.cons (uS k) (aB.cons (iO k) (aB.cons (aJm k) (aB.cons (aMA k) aB.nil)))))))) Tryz.func75 (by kernel_rfl) (by kernel_rfl) (by kernel_rfl) (aD.all aD.zero (by kernel_rfl) (by kernel_rfl)) (fun _=>rfl) aRu,aZ (X:=xt) (g:=wF) (H:=aFY) (env:=aFn) (c:=aA Tryz.f93) aJ mixed (fun k hk=>(aB.cons (ih k hk).2.1 aB.nil)) Tryz.func93 (by kernel_rfl) (by kernel_rfl) (by kernel_rfl) (aD.all (aD.zero.succ aCl (by kernel_rfl) (fun _=>rfl) aNS) (by kernel_rfl) (by kernel_rfl)) (fun _=>rfl) aRf,aZ (X:=xt) (g:=oV) (H:=aMq) (env:=aMw) (c:=aA Tryz.f74) aJ mixed (fun k hk=>(aB.cons (jW k) (aB.cons (ih k hk).2.2.1 (aB.cons (iO k) (aB.cons (uS k) (aB.cons (rE k) (aB.cons (ih k hk).1 aB.nil))))))) Tryz.func74 (by kernel_rfl) (by kernel_rfl) (by kernel_rfl) (aD.all aD.zero (by kernel_rfl) (by kernel_rfl)) (fun _=>rfl) aT3,aZ (X:=xt) (g:=sG) (H:=aKu) (env:=aKp) (c:=aA Tryz.f111) aJ mixed (fun k hk=>(aB.cons (ih k hk).2.2.2.1 aB.nil)) Tryz.func111 (by kernel_rfl) (by kernel_rfl) (by kernel_rfl) (aD.all aD.zero (by kernel_rfl) (by kernel_rfl)) (fun _=>rfl) aRH⟩
theorem aKw (K:Nat):aE Tryz.prog oV K:=(aGz K).2.2.2.1
theorem aRJ (K:Nat):aE Tryz.prog sG K:=(aGz K).2.2.2.2
def aBm:aS:={ fid:=181,Γ:=[.tree],args:=[(.var 0)],Δ:=[.bool],res:=(.var 0),f:=fun k x=>sS k x }
def wJ:aS:={ fid:=93,Γ:=[.tree,(.int .i64)],args:=[(.var 0),(.var 1),(.fn 181 [] [])],Δ:=[.bool],res:=(.var 0),f:=fun k x=>aBs k x.1 x.2 }
def aEh:aS:={ fid:=167,Γ:=[.tree,(.int .i64)],args:=[(.var 0),(.var 1)],Δ:=[.bool],res:=(.var 0),f:=fun k x=>aAi k x.1 x.2 }
def aBc:aS:={ fid:=111,Γ:=[.tree],args:=[(.var 0),(.slc [(.fn 140 [] []),(.fn 140 [] [])] 2 true)],Δ:=[.bool],res:=(.var 0),f:=fun k x=>uE k x }
def sA:aS:={ fid:=111,Γ:=[.tree],args:=[(.var 0),(.slc [(.fn 113 [] []),(.fn 140 [] [])] 2 true)],Δ:=[.bool],res:=(.var 0),f:=fun k x=>qP k x }
def aB0:aS:={ fid:=93,Γ:=[.tree,(.int .i64)],args:=[(.var 0),(.var 1),(.fn 140 [] [])],Δ:=[.bool],res:=(.var 0),f:=fun k x=>aE5 k x.1 x.2 }
def aBu:aS:={ fid:=166,Γ:=[.tree,(.int .i64)],args:=[(.var 0),(.var 1)],Δ:=[.bool],res:=(.var 0),f:=fun k x=>kQ k x.1 x.2 }
def jR:aS:={ fid:=140,Γ:=[.tree],args:=[(.var 0)],Δ:=[.bool],res:=(.var 0),f:=fun k x=>fN k x }
def sE:aS:={ fid:=111,Γ:=[.tree],args:=[(.var 0),(.slc [(.fn 140 [] [])] 1 true)],Δ:=[.bool],res:=(.var 0),f:=fun k x=>qT k x }
def aJ0:aG (Bool):={}
def aKK:List aS:=[hZ,fA,sE]
theorem aRD (k:Nat) (x:Tr):sS (k+1) x=fx xt aKK aBm Tryz.f181 aJ0 (aA Tryz.f181) k x:=(sS.eq_def ..).trans (by kernel_rfl)
def aCA:LH (Bool):={ Γ:=[(.list false .tree),(.int .i64)],live:=[(2,(.fn 181 [] [])),(14,(.var 0)),(15,(.len 0)),(16,(.var 1))],F:=fun k x=>qK k x.1 x.2 }
def aFN:aG (Bool):={ loops:=[(2,aCA)] }
def aE9:List aS:=[aBm]
theorem aRp (k:Nat) (x:Tr×Int):aBs (k+1) x.1 x.2=fx xt aE9 wJ Tryz.f93 aFN (aA Tryz.f93) k x:=(aBs.eq_def ..).trans (by kernel_rfl)
theorem aNz (k:Nat) (x:(List Tr)×Int):qK (k+1) x.1 x.2=iC xt aE9 25 0 aFN (aA Tryz.f93) (fY xt.T Tryz.f93.results wJ) 0 aCA k x:=(qK.eq_def ..).trans (by kernel_rfl)
def aPt:aG (Bool):={}
def aOS:List aS:=[wJ]
theorem aU2 (k:Nat) (x:Tr×Int):aAi (k+1) x.1 x.2=fx xt aOS aEh Tryz.f167 aPt (aA Tryz.f167) k x:=(aAi.eq_def ..).trans (by kernel_rfl)
def aJM:aG (Bool):={ unr:=[(4,13)] }
def aKB:List aS:=[jR]
theorem aRL (k:Nat) (x:Tr):uE (k+1) x=fx xt aKB aBc Tryz.f111 aJM (aA Tryz.f111) k x:=(uE.eq_def ..).trans (by kernel_rfl)
def aK2:aG (Bool):={ unr:=[(4,13)] }
def aLc:List aS:=[jV,jR]
theorem aRx (k:Nat) (x:Tr):qP (k+1) x=fx xt aLc sA Tryz.f111 aK2 (aA Tryz.f111) k x:=(qP.eq_def ..).trans (by kernel_rfl)
def aFi:LH (Bool):={ Γ:=[(.list false .tree),(.int .i64)],live:=[(2,(.fn 140 [] [])),(14,(.var 0)),(15,(.len 0)),(16,(.var 1))],F:=fun k x=>uT k x.1 x.2 }
def aIJ:aG (Bool):={ loops:=[(2,aFi)] }
def aIV:List aS:=[jR]
theorem aU1 (k:Nat) (x:Tr×Int):aE5 (k+1) x.1 x.2=fx xt aIV aB0 Tryz.f93 aIJ (aA Tryz.f93) k x:=(aE5.eq_def ..).trans (by kernel_rfl)
theorem aPM (k:Nat) (x:(List Tr)×Int):uT (k+1) x.1 x.2=iC xt aIV 25 0 aIJ (aA Tryz.f93) (fY xt.T Tryz.f93.results aB0) 0 aFi k x:=(uT.eq_def ..).trans (by kernel_rfl)
def aKj:aG (Bool):={}
def aKA:List aS:=[hZ,aB0]
theorem aRE (k:Nat) (x:Tr×Int):kQ (k+1) x.1 x.2=fx xt aKA aBu Tryz.f166 aKj (aA Tryz.f166) k x:=(kQ.eq_def ..).trans (by kernel_rfl)
def aJN:aG (Bool):={}
def aKx:List aS:=[hZ,mK,aBu,mL,fA,sA,aBc,aEh,jR,jV]
theorem aRz (k:Nat) (x:Tr):fN (k+1) x=fx xt aKx jR Tryz.f140 aJN (aA Tryz.f140) k x:=(fN.eq_def ..).trans (by kernel_rfl)
def aKc:aG (Bool):={ unr:=[(4,13)] }
def aKP:List aS:=[jR]
theorem aRI (k:Nat) (x:Tr):qT (k+1) x=fx xt aKP sE Tryz.f111 aKc (aA Tryz.f111) k x:=(qT.eq_def ..).trans (by kernel_rfl)
theorem aCG (K:Nat):aE Tryz.prog aBm K∧aE Tryz.prog wJ K∧aE Tryz.prog aEh K∧aE Tryz.prog aBc K∧aE Tryz.prog sA K∧aE Tryz.prog aB0 K∧aE Tryz.prog aBu K∧aE Tryz.prog jR K∧aE Tryz.prog sE K:=by
 induction K using Nat.strongRecOn with
 | ind K ih=>exact ⟨aZ (X:=xt) (g:=aBm) (H:=aJ0) (env:=aKK) (c:=aA Tryz.f181) aJ mixed (fun k hk=>(aB.cons (jW k) (aB.cons (iO k) (aB.cons (ih k hk).2.2.2.2.2.2.2.2 aB.nil)))) Tryz.func181 (by kernel_rfl) (by kernel_rfl) (by kernel_rfl) (aD.all aD.zero (by kernel_rfl) (by kernel_rfl)) (fun _=>rfl) aRD,aZ (X:=xt) (g:=wJ) (H:=aFN) (env:=aE9) (c:=aA Tryz.f93) aJ mixed (fun k hk=>(aB.cons (ih k hk).1 aB.nil)) Tryz.func93 (by kernel_rfl) (by kernel_rfl) (by kernel_rfl) (aD.all (aD.zero.succ aCA (by kernel_rfl) (fun _=>rfl) aNz) (by kernel_rfl) (by kernel_rfl)) (fun _=>rfl) aRp,aZ (X:=xt) (g:=aEh) (H:=aPt) (env:=aOS) (c:=aA Tryz.f167) aJ mixed (fun k hk=>(aB.cons (ih k hk).2.1 aB.nil)) Tryz.func167 (by kernel_rfl) (by kernel_rfl) (by kernel_rfl) (aD.all aD.zero (by kernel_rfl) (by kernel_rfl)) (fun _=>rfl) aU2,aZ (X:=xt) (g:=aBc) (H:=aJM) (env:=aKB) (c:=aA Tryz.f111) aJ mixed (fun k hk=>(aB.cons (ih k hk).2.2.2.2.2.2.2.1 aB.nil)) Tryz.func111 (by kernel_rfl) (by kernel_rfl) (by kernel_rfl) (aD.all aD.zero (by kernel_rfl) (by kernel_rfl)) (fun _=>rfl) aRL,aZ (X:=xt) (g:=sA) (H:=aK2) (env:=aLc) (c:=aA Tryz.f111) aJ mixed (fun k hk=>(aB.cons (zY k) (aB.cons (ih k hk).2.2.2.2.2.2.2.1 aB.nil))) Tryz.func111 (by kernel_rfl) (by kernel_rfl) (by kernel_rfl) (aD.all aD.zero (by kernel_rfl) (by kernel_rfl)) (fun _=>rfl) aRx,aZ (X:=xt) (g:=aB0) (H:=aIJ) (env:=aIV) (c:=aA Tryz.f93) aJ mixed (fun k hk=>(aB.cons (ih k hk).2.2.2.2.2.2.2.1 aB.nil)) Tryz.func93 (by kernel_rfl) (by kernel_rfl) (by kernel_rfl) (aD.all (aD.zero.succ aFi (by kernel_rfl) (fun _=>rfl) aPM) (by kernel_rfl) (by kernel_rfl)) (fun _=>rfl) aU1,aZ (X:=xt) (g:=aBu) (H:=aKj) (env:=aKA) (c:=aA Tryz.f166) aJ mixed (fun k hk=>(aB.cons (jW k) (aB.cons (ih k hk).2.2.2.2.2.1 aB.nil))) Tryz.func166 (by kernel_rfl) (by kernel_rfl) (by kernel_rfl) (aD.all aD.zero (by kernel_rfl) (by kernel_rfl)) (fun _=>rfl) aRE,aZ (X:=xt) (g:=jR) (H:=aJN) (env:=aKx) (c:=aA Tryz.f140) aJ mixed (fun k hk=>(aB.cons (jW k) (aB.cons (uS k) (aB.cons (ih k hk).2.2.2.2.2.2.1 (aB.cons (rE k) (aB.cons (iO k) (aB.cons (ih k hk).2.2.2.2.1 (aB.cons (ih k hk).2.2.2.1 (aB.cons (ih k hk).2.2.1 (aB.cons (ih k hk).2.2.2.2.2.2.2.1 (aB.cons (zY k) aB.nil))))))))))) Tryz.func140 (by kernel_rfl) (by kernel_rfl) (by kernel_rfl) (aD.all aD.zero (by kernel_rfl) (by kernel_rfl)) (fun _=>rfl) aRz,aZ (X:=xt) (g:=sE) (H:=aKc) (env:=aKP) (c:=aA Tryz.f111) aJ mixed (fun k hk=>(aB.cons (ih k hk).2.2.2.2.2.2.2.1 aB.nil)) Tryz.func111 (by kernel_rfl) (by kernel_rfl) (by kernel_rfl) (aD.all aD.zero (by kernel_rfl) (by kernel_rfl)) (fun _=>rfl) aRI⟩
theorem aRm (K:Nat):aE Tryz.prog sA K:=(aCG K).2.2.2.2.1
theorem aRo (K:Nat):aE Tryz.prog jR K:=(aCG K).2.2.2.2.2.2.2.1
theorem aRl (K:Nat):aE Tryz.prog sE K:=(aCG K).2.2.2.2.2.2.2.2
def aBh:aS:={ fid:=111,Γ:=[.tree],args:=[(.var 0),(.slc [(.fn 72 [] []),(.fn 74 [] [])] 2 true)],Δ:=[.bool],res:=(.var 0),f:=fun k x=>sV k x }
def wM:aS:={ fid:=111,Γ:=[.tree],args:=[(.var 0),(.slc [(.fn 72 [] [])] 1 true)],Δ:=[.bool],res:=(.var 0),f:=fun k x=>tG k x }
def nN:aS:={ fid:=109,Γ:=[.tree],args:=[(.var 0)],Δ:=[.bool],res:=(.var 0),f:=fun k x=>oW k x }
def vY:aS:={ fid:=93,Γ:=[.tree,(.int .i64)],args:=[(.var 0),(.var 1),(.fn 109 [] [])],Δ:=[.bool],res:=(.var 0),f:=fun k x=>wW k x.1 x.2 }
def rL:aS:={ fid:=72,Γ:=[.tree],args:=[(.var 0)],Δ:=[.bool],res:=(.var 0),f:=fun k x=>oN k x }
def aLl:aG (Bool):={ unr:=[(4,13)] }
def aKD:List aS:=[rL,oV]
theorem aRd (k:Nat) (x:Tr):sV (k+1) x=fx xt aKD aBh Tryz.f111 aLl (aA Tryz.f111) k x:=(sV.eq_def ..).trans (by kernel_rfl)
def aK0:aG (Bool):={ unr:=[(4,13)] }
def aJX:List aS:=[rL]
theorem aRA (k:Nat) (x:Tr):tG (k+1) x=fx xt aJX wM Tryz.f111 aK0 (aA Tryz.f111) k x:=(tG.eq_def ..).trans (by kernel_rfl)
def aBU:LH (Bool):={ Γ:=[.tree],live:=[(0,(.var 0))],F:=fun k x=>dN k x }
def aDD:aG (Bool):={ cuts:=[(7,aBU)] }
def aDC:List aS:=[hZ,mL,mK,fA,sE,sA,pV,qO,wM]
theorem aP0 (k:Nat) (x:Tr):oW (k+1) x=fx xt aDC nN Tryz.f109 aDD (aA Tryz.f109) k x:=(oW.eq_def ..).trans (by kernel_rfl)
theorem aL7 (k:Nat) (x:Tr):dN (k+1) x=iC xt aDC 56 0 aDD (aA Tryz.f109) (fY xt.T Tryz.f109.results nN) 0 aBU k x:=(dN.eq_def ..).trans (by kernel_rfl)
def aCy:LH (Bool):={ Γ:=[(.list false .tree),(.int .i64)],live:=[(2,(.fn 109 [] [])),(14,(.var 0)),(15,(.len 0)),(16,(.var 1))],F:=fun k x=>qG k x.1 x.2 }
def aFk:aG (Bool):={ loops:=[(2,aCy)] }
def aFB:List aS:=[nN]
theorem aRk (k:Nat) (x:Tr×Int):wW (k+1) x.1 x.2=fx xt aFB vY Tryz.f93 aFk (aA Tryz.f93) k x:=(wW.eq_def ..).trans (by kernel_rfl)
theorem aNT (k:Nat) (x:(List Tr)×Int):qG (k+1) x.1 x.2=iC xt aFB 25 0 aFk (aA Tryz.f93) (fY xt.T Tryz.f93.results vY) 0 aCy k x:=(qG.eq_def ..).trans (by kernel_rfl)
def aMi:aG (Bool):={}
def aMf:List aS:=[hZ,vY,mL,mK,fA,wM,aBh]
theorem aTI (k:Nat) (x:Tr):oN (k+1) x=fx xt aMf rL Tryz.f72 aMi (aA Tryz.f72) k x:=(oN.eq_def ..).trans (by kernel_rfl)
theorem aHQ (K:Nat):aE Tryz.prog aBh K∧aE Tryz.prog wM K∧aE Tryz.prog nN K∧aE Tryz.prog vY K∧aE Tryz.prog rL K:=by
 induction K using Nat.strongRecOn with
 | ind K ih=>exact ⟨aZ (X:=xt) (g:=aBh) (H:=aLl) (env:=aKD) (c:=aA Tryz.f111) aJ mixed (fun k hk=>(aB.cons (ih k hk).2.2.2.2 (aB.cons (aKw k) aB.nil))) Tryz.func111 (by kernel_rfl) (by kernel_rfl) (by kernel_rfl) (aD.all aD.zero (by kernel_rfl) (by kernel_rfl)) (fun _=>rfl) aRd,aZ (X:=xt) (g:=wM) (H:=aK0) (env:=aJX) (c:=aA Tryz.f111) aJ mixed (fun k hk=>(aB.cons (ih k hk).2.2.2.2 aB.nil)) Tryz.func111 (by kernel_rfl) (by kernel_rfl) (by kernel_rfl) (aD.all aD.zero (by kernel_rfl) (by kernel_rfl)) (fun _=>rfl) aRA,aZ (X:=xt) (g:=nN) (H:=aDD) (env:=aDC) (c:=aA Tryz.f109) aJ mixed (fun k hk=>(aB.cons (jW k) (aB.cons (rE k) (aB.cons (uS k) (aB.cons (iO k) (aB.cons (aRl k) (aB.cons (aRm k) (aB.cons (aJm k) (aB.cons (aMA k) (aB.cons (ih k hk).2.1 aB.nil)))))))))) Tryz.func109 (by kernel_rfl) (by kernel_rfl) (by kernel_rfl) (aD.all (aD.zero.succ aBU (by kernel_rfl) (fun _=>rfl) aL7) (by kernel_rfl) (by kernel_rfl)) (fun _=>rfl) aP0,aZ (X:=xt) (g:=vY) (H:=aFk) (env:=aFB) (c:=aA Tryz.f93) aJ mixed (fun k hk=>(aB.cons (ih k hk).2.2.1 aB.nil)) Tryz.func93 (by kernel_rfl) (by kernel_rfl) (by kernel_rfl) (aD.all (aD.zero.succ aCy (by kernel_rfl) (fun _=>rfl) aNT) (by kernel_rfl) (by kernel_rfl)) (fun _=>rfl) aRk,aZ (X:=xt) (g:=rL) (H:=aMi) (env:=aMf) (c:=aA Tryz.f72) aJ mixed (fun k hk=>(aB.cons (jW k) (aB.cons (ih k hk).2.2.2.1 (aB.cons (rE k) (aB.cons (uS k) (aB.cons (iO k) (aB.cons (ih k hk).2.1 (aB.cons (ih k hk).1 aB.nil)))))))) Tryz.func72 (by kernel_rfl) (by kernel_rfl) (by kernel_rfl) (aD.all aD.zero (by kernel_rfl) (by kernel_rfl)) (fun _=>rfl) aTI⟩
theorem aPN (K:Nat):aE Tryz.prog nN K:=(aHQ K).2.2.1
theorem aUa (K:Nat):aE Tryz.prog rL K:=(aHQ K).2.2.2.2
def zP:aS:={ fid:=111,Γ:=[.tree],args:=[(.var 0),(.slc [(.fn 74 [] []),(.fn 72 [] [])] 2 true)],Δ:=[.bool],res:=(.var 0),f:=fun k x=>zN k x }
def aJk:aG (Bool):={ unr:=[(4,13)] }
def aI5:List aS:=[oV,rL]
theorem aQb (k:Nat) (x:Tr):zN k x=fx xt aI5 zP Tryz.f111 aJk (aA Tryz.f111) k x:=by kernel_rfl
theorem aQA (K:Nat):aE Tryz.prog zP K:=aI (X:=xt) (g:=zP) (H:=aJk) (env:=aI5) (c:=aA Tryz.f111) aJ mixed (fun k=>(aB.cons (aKw k) (aB.cons (aUa k) aB.nil))) Tryz.func111 (by kernel_rfl) (by kernel_rfl) (by kernel_rfl) (aD.all aD.zero (by kernel_rfl) (by kernel_rfl)) aQb K
def aBq:aS:={ fid:=76,Γ:=[.tree],args:=[(.var 0)],Δ:=[.bool],res:=(.var 0),f:=fun k x=>aBj k x }
def aKk:aG (Bool):={}
def aKO:List aS:=[hZ,fA,sG,zP,nN]
theorem aRX (k:Nat) (x:Tr):aBj k x=fx xt aKO aBq Tryz.f76 aKk (aA Tryz.f76) k x:=by kernel_rfl
theorem aRP (K:Nat):aE Tryz.prog aBq K:=aI (X:=xt) (g:=aBq) (H:=aKk) (env:=aKO) (c:=aA Tryz.f76) aJ mixed (fun k=>(aB.cons (jW k) (aB.cons (iO k) (aB.cons (aRJ k) (aB.cons (aQA k) (aB.cons (aPN k) aB.nil)))))) Tryz.func76 (by kernel_rfl) (by kernel_rfl) (by kernel_rfl) (aD.all aD.zero (by kernel_rfl) (by kernel_rfl)) aRX K
def vP:aS:={ fid:=93,Γ:=[.tree,(.int .i64)],args:=[(.var 0),(.var 1),(.fn 76 [] [])],Δ:=[.bool],res:=(.var 0),f:=fun k x=>aBx k x.1 x.2 }
def aCw:LH (Bool):={ Γ:=[(.list false .tree),(.int .i64)],live:=[(2,(.fn 76 [] [])),(14,(.var 0)),(15,(.len 0)),(16,(.var 1))],F:=fun k x=>qJ k x.1 x.2 }
def aEG:aG (Bool):={ loops:=[(2,aCw)] }
def aFG:List aS:=[aBq]
theorem aRv (k:Nat) (x:Tr×Int):aBx k x.1 x.2=fx xt aFG vP Tryz.f93 aEG (aA Tryz.f93) k x:=by kernel_rfl
theorem aNw (k:Nat) (x:(List Tr)×Int):qJ (k+1) x.1 x.2=iC xt aFG 25 0 aEG (aA Tryz.f93) (fY xt.T Tryz.f93.results vP) 0 aCw k x:=(qJ.eq_def ..).trans (by kernel_rfl)
theorem aRC (K:Nat):aE Tryz.prog vP K:=aI (X:=xt) (g:=vP) (H:=aEG) (env:=aFG) (c:=aA Tryz.f93) aJ mixed (fun k=>(aB.cons (aRP k) aB.nil)) Tryz.func93 (by kernel_rfl) (by kernel_rfl) (by kernel_rfl) (aD.all (aD.zero.succ aCw (by kernel_rfl) (fun _=>rfl) aNw) (by kernel_rfl) (by kernel_rfl)) aRv K
def aBH:aS:={ fid:=59,Γ:=[.tree],args:=[(.var 0)],Δ:=[.bool],res:=(.var 0),f:=fun k x=>xN k x }
def aLa:aG (Bool):={}
def aKN:List aS:=[hZ,vP]
theorem aRi (k:Nat) (x:Tr):xN k x=fx xt aKN aBH Tryz.f59 aLa (aA Tryz.f59) k x:=by kernel_rfl
theorem aRr (K:Nat):aE Tryz.prog aBH K:=aI (X:=xt) (g:=aBH) (H:=aLa) (env:=aKN) (c:=aA Tryz.f59) aJ mixed (fun k=>(aB.cons (jW k) (aB.cons (aRC k) aB.nil))) Tryz.func59 (by kernel_rfl) (by kernel_rfl) (by kernel_rfl) (aD.all aD.zero (by kernel_rfl) (by kernel_rfl)) aRi K
def aCQ:aS:={ fid:=58,Γ:=[.tree],args:=[(.var 0),(.fn 59 [] [])],Δ:=[(.int .i64)],res:=(.var 0),f:=fun k x=>aKZ k x }
def aMT:aG (Int):={}
def aMg:List aS:=[xP,mJ,aBH]
theorem aTz (k:Nat) (x:Tr):aKZ k x=fx xt aMg aCQ Tryz.f58 aMT (aA Tryz.f58) k x:=by kernel_rfl
theorem aSU (K:Nat):aE Tryz.prog aCQ K:=aI (X:=xt) (g:=aCQ) (H:=aMT) (env:=aMg) (c:=aA Tryz.f58) aJ mixed (fun k=>(aB.cons (aG1 k) (aB.cons (aCO k) (aB.cons (aRr k) aB.nil)))) Tryz.func58 (by kernel_rfl) (by kernel_rfl) (by kernel_rfl) (aD.all aD.zero (by kernel_rfl) (by kernel_rfl)) aTz K
def aIR:aS:={ fid:=26,Γ:=[.tree],args:=[(.var 0)],Δ:=[(.int .i64)],res:=(.var 0),f:=fun k x=>aE4 k x }
def aOd:aG (Int):={}
def aOu:List aS:=[aCQ]
theorem aUS (k:Nat) (x:Tr):aE4 k x=fx xt aOu aIR Tryz.f26 aOd (aA Tryz.f26) k x:=by kernel_rfl
theorem aUI (K:Nat):aE Tryz.prog aIR K:=aI (X:=xt) (g:=aIR) (H:=aOd) (env:=aOu) (c:=aA Tryz.f26) aJ mixed (fun k=>(aB.cons (aSU k) aB.nil)) Tryz.func26 (by kernel_rfl) (by kernel_rfl) (by kernel_rfl) (aD.all aD.zero (by kernel_rfl) (by kernel_rfl)) aUS K
def zU:aS:={ fid:=58,Γ:=[.tree],args:=[(.var 0),(.fn 113 [] [])],Δ:=[(.int .i64)],res:=(.var 0),f:=fun k x=>aGV k x }
def aJo:aG (Int):={}
def aJf:List aS:=[xP,mJ,jV]
theorem aQp (k:Nat) (x:Tr):aGV k x=fx xt aJf zU Tryz.f58 aJo (aA Tryz.f58) k x:=by kernel_rfl
theorem aPB (K:Nat):aE Tryz.prog zU K:=aI (X:=xt) (g:=zU) (H:=aJo) (env:=aJf) (c:=aA Tryz.f58) aJ mixed (fun k=>(aB.cons (aG1 k) (aB.cons (aCO k) (aB.cons (zY k) aB.nil)))) Tryz.func58 (by kernel_rfl) (by kernel_rfl) (by kernel_rfl) (aD.all aD.zero (by kernel_rfl) (by kernel_rfl)) aQp K
def aEa:aS:={ fid:=133,Γ:=[.tree],args:=[(.var 0)],Δ:=[(.int .i64)],res:=(.var 0),f:=fun k x=>aIv k x }
def aOh:aG (Int):={}
def aPw:List aS:=[zU]
theorem aUY (k:Nat) (x:Tr):aIv k x=fx xt aPw aEa Tryz.f133 aOh (aA Tryz.f133) k x:=by kernel_rfl
theorem aUC (K:Nat):aE Tryz.prog aEa K:=aI (X:=xt) (g:=aEa) (H:=aOh) (env:=aPw) (c:=aA Tryz.f133) aJ mixed (fun k=>(aB.cons (aPB k) aB.nil)) Tryz.func133 (by kernel_rfl) (by kernel_rfl) (by kernel_rfl) (aD.all aD.zero (by kernel_rfl) (by kernel_rfl)) aUY K
def aCU:aS:={ fid:=157,Γ:=[.bool,.str],args:=[(.var 0),(.var 1)],Δ:=[.str],res:=(.var 0),f:=fun k x=>aAQ k x.1 x.2 }
def aMF:aG ((List UInt8)):={}
def aMB:List aS:=[]
theorem aSW (k:Nat) (x:Bool×(List UInt8)):aAQ k x.1 x.2=fx xt aMB aCU Tryz.f157 aMF (aA Tryz.f157) k x:=by kernel_rfl
theorem aTl (K:Nat):aE Tryz.prog aCU K:=aI (X:=xt) (g:=aCU) (H:=aMF) (env:=aMB) (c:=aA Tryz.f157) aJ mixed (fun k=>aB.nil) Tryz.func157 (by kernel_rfl) (by kernel_rfl) (by kernel_rfl) (aD.all aD.zero (by kernel_rfl) (by kernel_rfl)) aSW K
def wP:aS:={ fid:=95,Γ:=[(.list false .str),.str],args:=[(.var 0),(.var 1)],Δ:=[.str],res:=(.var 0),f:=fun k x=>strings_Join k x.1 x.2 }
def aXy:Shelf.Ren:=⟨fun n=>match n with | 156=>95 | 165=>132 | 166=>27 | 169=>30 | 240=>60 | 241=>156 | 276=>94 | 277=>177 | _=>0,fun n=>match n with | 0=>0 | 3=>3 | 4=>4 | 5=>5 | 9=>9 | 20=>20 | 31=>107 | 37=>55 | 70=>54 | 72=>57 | 75=>62 | 76=>63 | 80=>67 | 127=>96 | 164=>114 | _=>0,fun n=>n⟩
theorem aXk:Lays.n156 Tryz.prog aXy:=by
 constructor <;> first | kernel_rfl | (intro w; kernel_rfl)
theorem aYQ:Builder.Extra Tryz.prog aXy:=by
 refine { toX72:=?_,t5:=?_,a5:=?_,z5:=?_,v5:=?_,infoByte:=?_,cellsByte:=?_,sizeByte:=?_,neB5:=?_ } <;> first | kernel_rfl | (intro w; kernel_rfl) | decide | (constructor <;> kernel_rfl)
theorem zX (K:Nat):aE Tryz.prog wP K:=bAa (f:=strings_Join) ⟨_,Tryz.func95,by kernel_rfl,by kernel_rfl⟩ (fun l sep y h=>by
  unfold strings_Join at h
  split at h
  ·rename_i hb; cases h; exact ⟨rfl,hb.1,hb.2⟩
  ·cases h) (fun a c sep w=>Any.strings_Join_none aXk aYQ a c sep w) (fun bk o c xs sep w h1 h2 h3 h4 h5=>Any.strings_Join aXk aYQ bk o c xs sep w h1 h2 h3 h4 h5)

def rD:aS:={ fid:=134,Γ:=[.tree,(.int .i64)],args:=[(.var 0),(.var 1)],Δ:=[.str],res:=(.var 0),f:=fun k x=>eS k x.1 x.2 }
def aDu:LH ((List UInt8)):={ Γ:=[.tree,(.list false .str),(.list false .tree),(.int .i64)],live:=[(0,(.var 0)),(5,(.row 0 1)),(65,(.var 2)),(66,(.len 2)),(67,(.var 3))],sto:=[(0,(.list 9 1 none))],nk:=1,ad:=[.t 5 9 .str],F:=fun k x=>mZ k x.1 x.2.1 x.2.2.1 x.2.2.2 }
def aHc:aG ((List UInt8)):={ ord:=[(3,[.l 0,.l 1,.l 2,.l 3,.l 4,.l 5,.l 6,.l 7,.l 10,.l 11,.l 12,.l 13,.l 14,.l 15,.h 8,.l 9,.h 16,.l 17,.h 18,.l 19]),(5,[.l 0,.l 1,.l 2,.l 3,.l 4,.l 5,.l 6,.l 7,.l 10,.l 11,.l 12,.l 13,.l 14,.l 15,.h 8,.l 9,.h 16,.l 17,.h 18,.l 19]),(17,[.l 0,.l 1,.l 2,.l 3,.l 4,.l 5,.l 6,.l 7,.l 8,.l 9,.l 10,.l 11,.h 12,.l 13,.l 14,.h 15,.m 16]),(19,[.l 0,.l 1,.l 2,.l 3,.l 4,.l 5,.l 6,.h 7,.l 8,.l 9,.l 10])],loops:=[(15,aDu)] }
def aHr:List aS:=[rD,aCU,wP]
theorem aUl (k:Nat) (x:Tr×Int):eS (k+1) x.1 x.2=fx xt aHr rD Tryz.f134 aHc (aA Tryz.f134) k x:=(eS.eq_def ..).trans (by kernel_rfl)
theorem aOL (k:Nat) (x:Tr×(List (List UInt8))×(List Tr)×Int):mZ (k+1) x.1 x.2.1 x.2.2.1 x.2.2.2=iC xt aHr 102 0 aHc (aA Tryz.f134) (fY xt.T Tryz.f134.results rD) 0 aDu k x:=(mZ.eq_def ..).trans (by kernel_rfl)
theorem aRK (K:Nat):aE Tryz.prog rD K:=by
 induction K using Nat.strongRecOn with
 | ind K ih=>exact aZ (X:=xt) (g:=rD) (H:=aHc) (env:=aHr) (c:=aA Tryz.f134) aJ mixed (fun k hk=>(aB.cons (ih k hk) (aB.cons (aTl k) (aB.cons (zX k) aB.nil)))) Tryz.func134 (by kernel_rfl) (by kernel_rfl) (by kernel_rfl) (aD.all (aD.zero.succ aDu (by kernel_rfl) (fun _=>rfl) aOL) (by kernel_rfl) (by kernel_rfl)) (fun _=>rfl) aUl
theorem aSH (K:Nat):aE Tryz.prog rD K:=(aRK K)
def yW:aS:={ fid:=96,Γ:=[.tree],args:=[(.var 0)],Δ:=[.str,(.int .i64)],res:=(.tup [(.var 0),(.var 1)]),f:=fun k x=>aAI k x }
def aMv:aG ((List UInt8)×Int):={}
def aMy:List aS:=[aEa,rD]
theorem aSF (k:Nat) (x:Tr):aAI k x=fx xt aMy yW Tryz.f96 aMv (aA Tryz.f96) k x:=by kernel_rfl
theorem aKr (K:Nat):aE Tryz.prog yW K:=aI (X:=xt) (g:=yW) (H:=aMv) (env:=aMy) (c:=aA Tryz.f96) aJ mixed (fun k=>(aB.cons (aUC k) (aB.cons (aSH k) aB.nil))) Tryz.func96 (by kernel_rfl) (by kernel_rfl) (by kernel_rfl) (aD.all aD.zero (by kernel_rfl) (by kernel_rfl)) aSF K
def vN:aS:={ fid:=62,Γ:=[.tree],args:=[(.var 0)],Δ:=[.str],res:=(.var 0),f:=fun k x=>jO k x }
def aQ9:aG ((List UInt8)):={}
def aQK:List aS:=[yW]
theorem aXf (k:Nat) (x:Tr):jO k x=fx xt aQK vN Tryz.f62 aQ9 (aA Tryz.f62) k x:=by kernel_rfl
theorem aEe (K:Nat):aE Tryz.prog vN K:=aI (X:=xt) (g:=vN) (H:=aQ9) (env:=aQK) (c:=aA Tryz.f62) aJ mixed (fun k=>(aB.cons (aKr k) aB.nil)) Tryz.func62 (by kernel_rfl) (by kernel_rfl) (by kernel_rfl) (aD.all aD.zero (by kernel_rfl) (by kernel_rfl)) aXf K
def zS:aS:={ fid:=58,Γ:=[.tree],args:=[(.var 0),(.fn 140 [] [])],Δ:=[(.int .i64)],res:=(.var 0),f:=fun k x=>aG7 k x }
def aI3:aG (Int):={}
def aJb:List aS:=[xP,mJ,jR]
theorem aPJ (k:Nat) (x:Tr):aG7 k x=fx xt aJb zS Tryz.f58 aI3 (aA Tryz.f58) k x:=by kernel_rfl
theorem aPZ (K:Nat):aE Tryz.prog zS K:=aI (X:=xt) (g:=zS) (H:=aI3) (env:=aJb) (c:=aA Tryz.f58) aJ mixed (fun k=>(aB.cons (aG1 k) (aB.cons (aCO k) (aB.cons (aRo k) aB.nil)))) Tryz.func58 (by kernel_rfl) (by kernel_rfl) (by kernel_rfl) (aD.all aD.zero (by kernel_rfl) (by kernel_rfl)) aPJ K
def aD8:aS:={ fid:=135,Γ:=[.tree],args:=[(.var 0)],Δ:=[(.int .i64)],res:=(.var 0),f:=fun k x=>aIx k x }
def aOF:aG (Int):={}
def aOy:List aS:=[zS]
theorem aU0 (k:Nat) (x:Tr):aIx k x=fx xt aOy aD8 Tryz.f135 aOF (aA Tryz.f135) k x:=by kernel_rfl
theorem aUt (K:Nat):aE Tryz.prog aD8 K:=aI (X:=xt) (g:=aD8) (H:=aOF) (env:=aOy) (c:=aA Tryz.f135) aJ mixed (fun k=>(aB.cons (aPZ k) aB.nil)) Tryz.func135 (by kernel_rfl) (by kernel_rfl) (by kernel_rfl) (aD.all aD.zero (by kernel_rfl) (by kernel_rfl)) aU0 K
def zF:aS:={ fid:=159,Γ:=[.bool,.str],args:=[(.var 0),(.var 1)],Δ:=[.str],res:=(.var 0),f:=fun k x=>mQ k x.1 x.2 }
def aM6:aG ((List UInt8)):={}
def aML:List aS:=[]
theorem aSu (k:Nat) (x:Bool×(List UInt8)):mQ k x.1 x.2=fx xt aML zF Tryz.f159 aM6 (aA Tryz.f159) k x:=by kernel_rfl
theorem aKJ (K:Nat):aE Tryz.prog zF K:=aI (X:=xt) (g:=zF) (H:=aM6) (env:=aML) (c:=aA Tryz.f159) aJ mixed (fun k=>aB.nil) Tryz.func159 (by kernel_rfl) (by kernel_rfl) (by kernel_rfl) (aD.all aD.zero (by kernel_rfl) (by kernel_rfl)) aSu K
def zT:aS:={ fid:=161,Γ:=[.tree],args:=[(.var 0)],Δ:=[.str],res:=(.var 0),f:=fun k x=>mD k x }
def aJv:aG ((List UInt8)):={}
def aJa:List aS:=[yW]
theorem aP2 (k:Nat) (x:Tr):mD k x=fx xt aJa zT Tryz.f161 aJv (aA Tryz.f161) k x:=by kernel_rfl
theorem aPO (K:Nat):aE Tryz.prog zT K:=aI (X:=xt) (g:=zT) (H:=aJv) (env:=aJa) (c:=aA Tryz.f161) aJ mixed (fun k=>(aB.cons (aKr k) aB.nil)) Tryz.func161 (by kernel_rfl) (by kernel_rfl) (by kernel_rfl) (aD.all aD.zero (by kernel_rfl) (by kernel_rfl)) aP2 K
def qL:aS:={ fid:=162,Γ:=[(.list false .tree)],args:=[(.var 0)],Δ:=[.str],res:=(.var 0),f:=fun k x=>nQ k x }
def uL:aS:={ fid:=160,Γ:=[.tree,(.int .i64)],args:=[(.var 0),(.var 1)],Δ:=[.str],res:=(.var 0),f:=fun k x=>yY k x.1 x.2 }
def zR:aS:={ fid:=158,Γ:=[(.int .i64),(.int .i64),.tree],args:=[(.var 0),(.var 1),(.ptr [(.var 2)])],Δ:=[.str],res:=(.var 0),f:=fun k x=>dE k x.1 x.2.1 x.2.2 }
def oR:aS:={ fid:=136,Γ:=[.tree,(.int .i64)],args:=[(.var 0),(.var 1)],Δ:=[.str],res:=(.var 0),f:=fun k x=>cB k x.1 x.2 }
def yD:LH ((List UInt8)):={ Γ:=[(.list false .str),(.list false .tree),(.int .i64)],live:=[(3,(.row 0 0)),(6,(.var 1)),(7,(.len 1)),(8,(.var 2))],sto:=[(0,(.list 9 0 none))],nk:=1,ad:=[.t 3 9 .str],F:=fun k x=>fO k x.1 x.2.1 x.2.2 }
def aBn:aG ((List UInt8)):={ ord:=[(5,[.l 0,.l 1,.l 2,.l 3,.l 4,.l 5,.l 6,.l 7,.l 8,.l 9,.l 10,.l 11,.l 12,.l 13,.l 14,.l 15,.l 16,.l 17,.h 18,.l 19,.l 20,.h 21,.m 22])],loops:=[(3,yD)] }
def aBA:List aS:=[oR,wP]
theorem aNI (k:Nat) (x:(List Tr)):nQ (k+1) x=fx xt aBA qL Tryz.f162 aBn (aA Tryz.f162) k x:=(nQ.eq_def ..).trans (by kernel_rfl)
theorem aJG (k:Nat) (x:(List (List UInt8))×(List Tr)×Int):fO (k+1) x.1 x.2.1 x.2.2=iC xt aBA 38 0 aBn (aA Tryz.f162) (fY xt.T Tryz.f162.results qL) 0 yD k x:=(fO.eq_def ..).trans (by kernel_rfl)
def aBR:LH ((List UInt8)):={ Γ:=[.tree,(.int .i64),(.int .i64),(.int .i64),.str],live:=[(0,(.var 0)),(1,(.var 1)),(5,(.var 2)),(6,(.var 3)),(7,(.var 4))],F:=fun k x=>fZ k x.1 x.2.1 x.2.2.1 x.2.2.2.1 x.2.2.2.2 }
def aDE:aG ((List UInt8)):={ ord:=[(12,[.l 0,.l 1,.l 2,.l 3,.l 4,.l 5,.l 6,.l 7,.l 8,.l 9,.l 11,.l 13,.l 14,.l 15,.l 16,.l 17,.l 18,.l 19,.l 20,.h 10,.l 12,.h 21,.l 22,.h 23,.l 24])],cuts:=[(12,aBR)] }
def aDH:List aS:=[oR,zF]
theorem aQo (k:Nat) (x:Tr×Int):yY (k+1) x.1 x.2=fx xt aDH uL Tryz.f160 aDE (aA Tryz.f160) k x:=(yY.eq_def ..).trans (by kernel_rfl)
theorem aLX (k:Nat) (x:Tr×Int×Int×Int×(List UInt8)):fZ (k+1) x.1 x.2.1 x.2.2.1 x.2.2.2.1 x.2.2.2.2=iC xt aDH 44 0 aDE (aA Tryz.f160) (fY xt.T Tryz.f160.results uL) 0 aBR k x:=(fZ.eq_def ..).trans (by kernel_rfl)
def aI1:aG ((List UInt8)):={}
def aJu:List aS:=[oR]
theorem aP9 (k:Nat) (x:Int×Int×Tr):dE (k+1) x.1 x.2.1 x.2.2=fx xt aJu zR Tryz.f158 aI1 (aA Tryz.f158) k x:=(dE.eq_def ..).trans (by kernel_rfl)
def aMz:aG ((List UInt8)):={ ord:=[(24,[.l 0,.l 1,.l 2,.l 3,.l 4,.l 5,.l 6,.l 7,.l 8,.l 9,.l 10,.l 11,.l 12,.l 13,.l 17,.h 14,.l 15,.l 16,.h 18,.l 19,.h 20,.l 21]),(26,[.l 0,.l 1,.l 2,.l 3,.l 4,.l 5,.l 6,.l 7,.l 8,.l 12,.h 9,.l 10,.l 11,.h 13,.l 14,.l 15,.h 16,.l 17]),(30,[.l 0,.l 1,.l 2,.l 6,.l 7,.l 8,.l 9,.l 10,.h 3,.l 4,.l 5,.h 11,.l 12,.h 13,.l 14]),(31,[.l 0,.l 1,.l 2,.l 6,.l 7,.l 8,.l 9,.l 10,.l 11,.l 15,.l 16,.l 17,.l 18,.l 19,.h 3,.l 4,.l 5,.h 12,.l 13,.l 14,.h 20,.l 21,.h 22,.l 23])] }
def aMO:List aS:=[pH,zR,zF,uL,zT,qL]
theorem aTK (k:Nat) (x:Tr×Int):cB (k+1) x.1 x.2=fx xt aMO oR Tryz.f136 aMz (aA Tryz.f136) k x:=(cB.eq_def ..).trans (by kernel_rfl)
theorem aL5 (K:Nat):aE Tryz.prog qL K∧aE Tryz.prog uL K∧aE Tryz.prog zR K∧aE Tryz.prog oR K:=by
 induction K using Nat.strongRecOn with
 | ind K ih=>exact ⟨aZ (X:=xt) (g:=qL) (H:=aBn) (env:=aBA) (c:=aA Tryz.f162) aJ mixed (fun k hk=>(aB.cons (ih k hk).2.2.2 (aB.cons (zX k) aB.nil))) Tryz.func162 (by kernel_rfl) (by kernel_rfl) (by kernel_rfl) (aD.all (aD.zero.succ yD (by kernel_rfl) (fun _=>rfl) aJG) (by kernel_rfl) (by kernel_rfl)) (fun _=>rfl) aNI,aZ (X:=xt) (g:=uL) (H:=aDE) (env:=aDH) (c:=aA Tryz.f160) aJ mixed (fun k hk=>(aB.cons (ih k hk).2.2.2 (aB.cons (aKJ k) aB.nil))) Tryz.func160 (by kernel_rfl) (by kernel_rfl) (by kernel_rfl) (aD.all (aD.zero.succ aBR (by kernel_rfl) (fun _=>rfl) aLX) (by kernel_rfl) (by kernel_rfl)) (fun _=>rfl) aQo,aZ (X:=xt) (g:=zR) (H:=aI1) (env:=aJu) (c:=aA Tryz.f158) aJ mixed (fun k hk=>(aB.cons (ih k hk).2.2.2 aB.nil)) Tryz.func158 (by kernel_rfl) (by kernel_rfl) (by kernel_rfl) (aD.all aD.zero (by kernel_rfl) (by kernel_rfl)) (fun _=>rfl) aP9,aZ (X:=xt) (g:=oR) (H:=aMz) (env:=aMO) (c:=aA Tryz.f136) aJ mixed (fun k hk=>(aB.cons (aI8 k) (aB.cons (ih k hk).2.2.1 (aB.cons (aKJ k) (aB.cons (ih k hk).2.1 (aB.cons (aPO k) (aB.cons (ih k hk).1 aB.nil))))))) Tryz.func136 (by kernel_rfl) (by kernel_rfl) (by kernel_rfl) (aD.all aD.zero (by kernel_rfl) (by kernel_rfl)) (fun _=>rfl) aTK⟩
theorem aTA (K:Nat):aE Tryz.prog oR K:=(aL5 K).2.2.2
end Go.Proofs.YtjhfgiieicloeaaGreatDoor

